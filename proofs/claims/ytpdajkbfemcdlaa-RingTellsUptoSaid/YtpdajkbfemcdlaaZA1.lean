import Derived.Test.YtpdajkbfemcdlaaGeD
import Derived.Test.YtpdajkbfemcdlaaChecked
import Derived.Test.YtpdajkbfemcdlaaFn
import Derived.KernelRfl
/- Graphs: what can be reached, in how many steps, rings and orders. -/
set_option linter.unusedSimpArgs false
set_option linter.unusedVariables false
namespace Go.Proofs.Ytpdajkbfemcdlaa
abbrev Gr := List (List Nat)
/-- The nodes for which node i waits. -/
def nx (g : Gr) (i : Nat) : List Nat := g.getD i []
def Gok (g : Gr) : Prop := ∀ i, ∀ k ∈ nx g i, k < g.length
/-- A way of n steps (at least one) from i to t. -/
inductive Wk (g : Gr) (t : Nat) : Nat → Nat → Prop
  | one {i : Nat} : t ∈ nx g i → Wk g t 1 i
  | step {i k n : Nat} : k ∈ nx g i → Wk g t n k → Wk g t (n + 1) i
def Rch (g : Gr) (i t : Nat) : Prop := ∃ n, Wk g t n i
theorem Wk.pos {g : Gr} {t n i : Nat} (h : Wk g t n i) : 1 ≤ n := by cases h <;> omega
theorem nx_lt {g : Gr} {i k : Nat} (h : k ∈ nx g i) : i < g.length := by
  refine Classical.byContradiction fun hn => ?_
  simp only [nx, List.getD_eq_getElem?_getD, List.getElem?_eq_none (show g.length ≤ i by omega)] at h
  simp at h
theorem Wk.lt {g : Gr} {t n i : Nat} (h : Wk g t n i) : i < g.length := by cases h <;> exact nx_lt ‹_›
theorem Wk.snoc {g : Gr} {t u n i : Nat} (h : Wk g t n i) (hu : u ∈ nx g t) : Wk g u (n + 1) i := by
  induction h with
  | one h => exact .step h (.one hu)
  | step h _ ih => exact .step h ih
theorem Wk.inv {g : Gr} {t n i : Nat} (h : Wk g t n i) : n = 1 ∧ t ∈ nx g i ∨ ∃ k m, n = m + 1 ∧ k ∈ nx g i ∧ Wk g t m k := by
  cases h with
  | one h => exact .inl ⟨rfl, h⟩
  | step h1 h2 => exact .inr ⟨_, _, rfl, h1, h2⟩

theorem Rch.one {g : Gr} {i k : Nat} (h : k ∈ nx g i) : Rch g i k := ⟨1, .one h⟩
theorem Rch.head {g : Gr} {i k j : Nat} (hk : k ∈ nx g i) : Rch g k j → Rch g i j := fun ⟨n, h⟩ => ⟨n + 1, .step hk h⟩
theorem Rch.tail {g : Gr} {i k j : Nat} (hj : j ∈ nx g k) : Rch g i k → Rch g i j := fun ⟨n, h⟩ => ⟨n + 1, h.snoc hj⟩
theorem Rch.trans {g : Gr} {i k j : Nat} (h1 : Rch g i k) (h2 : Rch g k j) : Rch g i j := by
  obtain ⟨n, h1⟩ := h1
  induction h1 with
  | one h => exact Rch.head h h2
  | step h _ ih => exact Rch.head h ih
/-- What is closed contains what is reached. -/
theorem Rch.closed {g : Gr} {S : Nat → Prop} (hc : ∀ k, S k → ∀ j ∈ nx g k, S j) {i t : Nat} (h0 : ∀ j ∈ nx g i, S j) (h : Rch g i t) : S t := by
  obtain ⟨n, h⟩ := h
  induction h with
  | one h => exact h0 _ h
  | step h _ ih => exact ih (hc _ (h0 _ h))
/-! ### What is still to be looked at -/
def pend (g : Gr) (s : List Bool) : Nat := ((List.range g.length).map fun k => if s.getD k false then 0 else (nx g k).length).sum
theorem sum_one {f f' : Nat → Nat} {k b : Nat} (hk : f' k + b = f k) (he : ∀ j, j ≠ k → f' j = f j) : ∀ n, k < n → ((List.range n).map f').sum + b = ((List.range n).map f).sum
  | n + 1, h => by
    rw [List.range_succ, List.map_append, List.map_append, List.sum_append, List.sum_append]
    simp only [List.map_cons, List.map_nil, List.sum_cons, List.sum_nil, Nat.add_zero]
    by_cases e : k = n
    · subst e
      have : (List.range k).map f' = (List.range k).map f := List.map_congr_left fun j hj => he j (by have := List.mem_range.1 hj; omega)
      rw [this]; omega
    · have := sum_one hk he n (by omega)
      rw [he n (fun e' => e e'.symm)]; omega
theorem pend_set {g : Gr} {s : List Bool} {k : Nat} (hk : k < g.length) (hs : s.length = g.length) (hf : s.getD k false = false) : pend g (s.set k true) + (nx g k).length = pend g s := by
  refine sum_one (k := k) ?_ ?_ g.length hk
  · have : (s.set k true).getD k false = true := by rw [List.getD_eq_getElem?_getD, List.getElem?_set_self (by omega)]; rfl
    simp only [this, hf, if_true, Bool.false_eq_true, if_false]; omega
  · intro j hj
    have : (s.set k true).getD j false = s.getD j false := by rw [List.getD_eq_getElem?_getD, List.getElem?_set_ne (fun e => hj e.symm), List.getD_eq_getElem?_getD]
    simp only [this]
/-- The search's state: what was seen, what is to be looked at. -/
structure Srch (g : Gr) (i : Nat) (s : List Bool) (todo : List Nat) : Prop where
  len : s.length = g.length
  sound : ∀ k, s.getD k false = true → Rch g i k
  tsound : ∀ k ∈ todo, Rch g i k ∧ k < g.length
  first : ∀ j ∈ nx g i, s.getD j false = true ∨ j ∈ todo
  closed : ∀ k, s.getD k false = true → ∀ j ∈ nx g k, s.getD j false = true ∨ j ∈ todo
theorem Srch.start {g : Gr} (hg : Gok g) (i : Nat) : Srch g i (List.replicate g.length false) (nx g i) := by
  have h0 : ∀ k, (List.replicate g.length false).getD k false = false := by
    intro k
    rw [List.getD_eq_getElem?_getD, List.getElem?_replicate]; split <;> rfl
  refine ⟨by simp, ?_, fun k hk => ⟨.one hk, hg i k hk⟩, fun j hj => .inr hj, ?_⟩
  · intro k hk; rw [h0] at hk; cases hk
  · intro k hk; rw [h0] at hk; cases hk
theorem getD_set_or {s : List Bool} {k j : Nat} (hk : k < s.length) : (s.set k true).getD j false = (decide (j = k) || s.getD j false) := by
  by_cases e : j = k
  · subst e; rw [List.getD_eq_getElem?_getD, List.getElem?_set_self hk]; simp
  · rw [List.getD_eq_getElem?_getD, List.getElem?_set_ne (fun h => e h.symm), List.getD_eq_getElem?_getD]; simp [e]
theorem Srch.old {g : Gr} {i k : Nat} {s : List Bool} {todo : List Nat} (h : Srch g i s (k :: todo)) (hk : s.getD k false = true) : Srch g i s todo := by
  obtain ⟨h1, h2, h3, h4, h5⟩ := h
  have aux : ∀ j, s.getD j false = true ∨ j ∈ k :: todo → s.getD j false = true ∨ j ∈ todo := by
    intro j hj
    rcases hj with hj | hj
    · exact .inl hj
    · rcases List.mem_cons.1 hj with rfl | hj
      · exact .inl hk
      · exact .inr hj
  exact ⟨h1, h2, fun j hj => h3 j (by simp [hj]), fun j hj => aux j (h4 j hj), fun a ha j hj => aux j (h5 a ha j hj)⟩
theorem Srch.new {g : Gr} (hg : Gok g) {i k : Nat} {s : List Bool} {todo : List Nat} (h : Srch g i s (k :: todo)) (hk : s.getD k false = false) : Srch g i (s.set k true) (todo ++ nx g k) ∧ pend g (s.set k true) + (nx g k).length = pend g s := by
  obtain ⟨h1, h2, h3, h4, h5⟩ := h
  have hkl := (h3 k (by simp)).2
  have hks : k < s.length := by omega
  have aux : ∀ j, s.getD j false = true ∨ j ∈ k :: todo → (s.set k true).getD j false = true ∨ j ∈ todo ++ nx g k := by
    intro j hj
    rw [getD_set_or hks]
    rcases hj with hj | hj
    · exact .inl (by rw [hj]; simp)
    · rcases List.mem_cons.1 hj with rfl | hj
      · exact .inl (by simp)
      · exact .inr (by simp [hj])
  refine ⟨⟨by simp [h1], ?_, ?_, fun j hj => aux j (h4 j hj), ?_⟩, pend_set hkl h1 hk⟩
  · intro j hj
    rw [getD_set_or hks] at hj
    rcases Bool.or_eq_true _ _ ▸ hj with hj | hj
    · rw [of_decide_eq_true hj]; exact (h3 k (by simp)).1
    · exact h2 j hj
  · intro j hj
    rcases List.mem_append.1 hj with hj | hj
    · exact h3 j (by simp [hj])
    · exact ⟨(h3 k (by simp)).1.tail hj, hg k j hj⟩
  · intro a ha j hj
    rw [getD_set_or hks] at ha
    rcases Bool.or_eq_true _ _ ▸ ha with ha | ha
    · rw [of_decide_eq_true ha] at hj
      exact .inr (by simp [hj])
    · exact aux j (h5 a ha j hj)
theorem Srch.done {g : Gr} {i : Nat} {s : List Bool} (h : Srch g i s []) (k : Nat) : s.getD k false = true ↔ Rch g i k := by
  obtain ⟨h1, h2, h3, h4, h5⟩ := h
  refine ⟨h2 k, fun hr => ?_⟩
  exact Rch.closed (S := fun k => s.getD k false = true) (fun a ha j hj => (h5 a ha j hj).elim id fun e => by cases e) (fun j hj => (h4 j hj).elim id fun e => by cases e) hr
/-! ### The fewest steps -/
/-- d is the least number of steps from i to t. -/
def Ld (g : Gr) (t d i : Nat) : Prop := Wk g t d i ∧ ∀ m, m < d → ¬Wk g t m i
theorem least_of {p : Nat → Prop} {n : Nat} (h : p n) : ∃ m, m ≤ n ∧ p m ∧ ∀ k, k < m → ¬p k := by
  induction n using Nat.strongRecOn with
  | ind n ih =>
    by_cases hs : ∃ k, k < n ∧ p k
    · obtain ⟨k, hk, hp⟩ := hs
      obtain ⟨m, h1, h2, h3⟩ := ih k hk hp
      exact ⟨m, by omega, h2, h3⟩
    · exact ⟨n, Nat.le_refl _, h, fun k hk hp => hs ⟨k, hk, hp⟩⟩
theorem Rch.ld {g : Gr} {i t : Nat} (h : Rch g i t) : ∃ d, Ld g t d i := by
  obtain ⟨n, h⟩ := h
  obtain ⟨m, _, h1, h2⟩ := least_of (p := fun m => Wk g t m i) h
  exact ⟨m, h1, h2⟩
theorem Ld.uniq {g : Gr} {t d d' i : Nat} (h : Ld g t d i) (h' : Ld g t d' i) : d = d' := by
  refine Classical.byContradiction fun hn => ?_
  rcases Nat.lt_or_gt_of_ne hn with hl | hl
  · exact h'.2 _ hl h.1
  · exact h.2 _ hl h'.1
/-- The next node of a shortest way. -/
theorem Ld.next {g : Gr} {t d i : Nat} (h : Ld g t (d + 2) i) : ∃ k, k ∈ nx g i ∧ Ld g t (d + 1) k := by
  obtain ⟨h1, h2⟩ := h
  rcases h1.inv with ⟨e, _⟩ | ⟨k, m, e, hk, hw⟩
  · omega
  · obtain rfl : m = d + 1 := by omega
    exact ⟨k, hk, hw, fun m hm hw' => h2 (m + 1) (by omega) (.step hk hw')⟩
theorem Ld.one {g : Gr} {t i : Nat} (h : Ld g t 1 i) : t ∈ nx g i := by
  rcases h.1.inv with ⟨_, h⟩ | ⟨k, m, e, _, hw⟩
  · exact h
  · have := hw.pos; omega
/-- What is known after n rounds: the least number of steps, when it is at most n; else -1. -/
def FarOk (g : Gr) (t n : Nat) (F : List Int) : Prop := F.length = g.length ∧ ∀ i, i < g.length → (F.getD i 0 = -1 ∧ ∀ m, m ≤ n → ¬Wk g t m i) ∨ (∃ d : Nat, F.getD i 0 = d ∧ d ≤ n ∧ Ld g t d i)
open Classical in
/-- Is node i one that is n steps away? -/
noncomputable def hitB (g : Gr) (t n : Nat) (F : List Int) (l : List Nat) : Bool := decide (∃ k ∈ l, n = 1 ∧ k = t ∨ 1 < n ∧ F.getD k 0 = (n : Int) - 1)
noncomputable def stepF (g : Gr) (t n : Nat) (F : List Int) : List Int := (List.range g.length).map fun i => if F.getD i 0 < 0 ∧ hitB g t n F (nx g i) = true then (n : Int) else F.getD i 0
theorem FarOk.start (g : Gr) (t : Nat) : FarOk g t 0 (List.replicate g.length (-1)) := by
  refine ⟨by simp, fun i hi => .inl ⟨?_, fun m hm hw => ?_⟩⟩
  · rw [List.getD_eq_getElem?_getD, List.getElem?_replicate, if_pos hi]; rfl
  · have := hw.pos; omega
theorem stepF_get {g : Gr} {t n i : Nat} {F : List Int} (hi : i < g.length) : (stepF g t n F).getD i 0 = if F.getD i 0 < 0 ∧ hitB g t n F (nx g i) = true then (n : Int) else F.getD i 0 := by
  rw [List.getD_eq_getElem?_getD, stepF, List.getElem?_map, List.getElem?_range hi]; rfl
theorem FarOk.step {g : Gr} (hg : Gok g) {t n : Nat} {F : List Int} (h : FarOk g t n F) : FarOk g t (n + 1) (stepF g t (n + 1) F) := by
  obtain ⟨h1, h2⟩ := h
  refine ⟨by simp [stepF], fun i hi => ?_⟩
  rw [stepF_get hi]
  rcases h2 i hi with ⟨e, hn⟩ | ⟨d, e, hd, hl⟩
  · by_cases hh : hitB g t (n + 1) F (nx g i) = true
    · rw [if_pos ⟨by omega, hh⟩]
      refine .inr ⟨n + 1, rfl, Nat.le_refl _, ?_, fun m hm => hn m (by omega)⟩
      obtain ⟨k, hk, hc⟩ := of_decide_eq_true hh
      rcases hc with ⟨e1, rfl⟩ | ⟨e1, e2⟩
      · obtain rfl : n = 0 := by omega
        exact .one hk
      · rcases h2 k (hg i k hk) with ⟨e3, _⟩ | ⟨d, e3, _, hd⟩
        · omega
        · obtain rfl : d = n := by omega
          exact .step hk hd.1
    · rw [if_neg (fun c => hh c.2)]
      refine .inl ⟨e, fun m hm hw => ?_⟩
      by_cases hmn : m ≤ n
      · exact hn m hmn hw
      · obtain rfl : m = n + 1 := by omega
        refine hh (decide_eq_true ?_)
        rcases hw.inv with ⟨e1, hk⟩ | ⟨k, m, e1, hk, hw'⟩
        · exact ⟨t, hk, .inl ⟨by omega, rfl⟩⟩
        · obtain rfl : m = n := by omega
          have hpos := hw'.pos
          refine ⟨k, hk, .inr ⟨by omega, ?_⟩⟩
          rcases h2 k (hg i k hk) with ⟨_, e4⟩ | ⟨d, e3, hdn, hd⟩
          · exact absurd hw' (e4 m (Nat.le_refl _))
          · have : ¬ d < m := fun hlt => hn (d + 1) (by omega) (.step hk hd.1)
            omega
  · rw [if_neg (fun c => by omega)]
    exact .inr ⟨d, e, by omega, hl⟩
/-! ### The way back -/
open Classical in
/-- The least of those that are d steps away. -/
noncomputable def bestN (F : List Int) (d : Int) : List Nat → Int → Int
  | [], b => b
  | k :: l, b => bestN F d l (if F.getD k 0 = d ∧ (b < 0 ∨ (k : Int) < b) then (k : Int) else b)
theorem bestN_spec {F : List Int} {d : Int} : ∀ (l : List Nat) (b : Int), (b = -1 ∨ 0 ≤ b) →
    (bestN F d l b = -1 ∧ b = -1 ∧ ∀ k ∈ l, F.getD k 0 ≠ d) ∨ (∃ m : Nat, bestN F d l b = m ∧ (m = b ∨ m ∈ l ∧ F.getD m 0 = d) ∧ (0 ≤ b → (m : Int) ≤ b) ∧ ∀ k ∈ l, F.getD k 0 = d → m ≤ k)
  | [], b, hb => by
    rcases hb with rfl | hb
    · exact .inl ⟨rfl, rfl, by simp⟩
    · exact .inr ⟨b.toNat, by simp [bestN]; omega, .inl (by omega), fun _ => by omega, by simp⟩
  | k :: l, b, hb => by
    rw [bestN]
    by_cases hc : F.getD k 0 = d ∧ (b < 0 ∨ (k : Int) < b)
    · rw [if_pos hc]
      rcases bestN_spec l (k : Int) (.inr (by omega)) with ⟨_, h2, _⟩ | ⟨m, h1, h2, h3, h4⟩
      · omega
      · have h3 := h3 (by omega)
        refine .inr ⟨m, h1, .inr ?_, fun _ => ?_, ?_⟩
        · rcases h2 with h2 | h2
          · have : m = k := by omega
            subst this; exact ⟨by simp, hc.1⟩
          · exact ⟨by simp [h2.1], h2.2⟩
        · rcases hc.2 with h | h <;> omega
        · intro x hx hxd
          rcases List.mem_cons.1 hx with rfl | hx
          · omega
          · exact h4 x hx hxd
    · rw [if_neg hc]
      rcases bestN_spec l b hb with ⟨h1, h2, h3⟩ | ⟨m, h1, h2, h3, h4⟩
      · refine .inl ⟨h1, h2, ?_⟩
        intro x hx
        rcases List.mem_cons.1 hx with rfl | hx
        · intro e; exact hc ⟨e, .inl (by omega)⟩
        · exact h3 x hx
      · refine .inr ⟨m, h1, ?_, h3, ?_⟩
        · rcases h2 with h2 | h2
          · exact .inl h2
          · exact .inr ⟨by simp [h2.1], h2.2⟩
        · intro x hx hxd
          rcases List.mem_cons.1 hx with rfl | hx
          · have hb0 : ¬(b < 0 ∨ (x : Int) < b) := fun h => hc ⟨hxd, h⟩
            have := h3 (by omega)
            omega
          · exact h4 x hx hxd
/-- The way from a node that is d steps away, without the end. -/
noncomputable def wayF (g : Gr) (F : List Int) : Nat → Nat → List Nat
  | 0, i => [i]
  | 1, i => [i]
  | d + 2, i => i :: wayF g F (d + 1) (bestN F (d + 1) (nx g i) (-1)).toNat
/-- What such a way is. -/
def IsWay (g : Gr) (t : Nat) : Nat → List Nat → Prop
  | d, [i] => d = 1 ∧ Ld g t 1 i
  | d, i :: k :: l => Ld g t d i ∧ k ∈ nx g i ∧ 2 ≤ d ∧ IsWay g t (d - 1) (k :: l)
  | _, [] => False
theorem wayF_ok {g : Gr} (hg : Gok g) {t n : Nat} {F : List Int} (hF : FarOk g t n F) : ∀ (d i : Nat), 1 ≤ d → d ≤ n → Ld g t d i → IsWay g t d (wayF g F d i) ∧ ∃ l, wayF g F d i = i :: l
  | 1, i, _, _, h => ⟨⟨rfl, h⟩, [], rfl⟩
  | d + 2, i, _, hdn, h => by
    obtain ⟨k, hk, hkd⟩ := h.next
    rcases bestN_spec (F := F) (d := ((d + 1 : Nat) : Int)) (nx g i) (-1) (.inl rfl) with ⟨_, _, h3⟩ | ⟨m, h1, h2, _, h4⟩
    · refine absurd ?_ (h3 k hk)
      rcases hF.2 k (hg i k hk) with ⟨_, e⟩ | ⟨d', e, _, hd'⟩
      · exact absurd hkd.1 (e _ (by omega))
      · rw [e, hkd.uniq hd']
    · have h2 : m ∈ nx g i ∧ F.getD m 0 = ((d + 1 : Nat) : Int) := h2.elim (fun e => by omega) id
      have hmd : Ld g t (d + 1) m := by
        rcases hF.2 m (hg i m h2.1) with ⟨e, _⟩ | ⟨d', e, _, hd'⟩
        · omega
        · obtain rfl : d' = d + 1 := by omega
          exact hd'
      have hb : (bestN F (((d : Int) + 1)) (nx g i) (-1)).toNat = m := by
        have : ((d + 1 : Nat) : Int) = (d : Int) + 1 := by omega
        rw [← this, h1]; simp
      obtain ⟨w1, l, w2⟩ := wayF_ok hg hF (d + 1) m (by omega) (by omega) hmd
      have e : wayF g F (d + 2) i = i :: wayF g F (d + 1) m := by rw [wayF, hb]
      refine ⟨?_, _, e⟩
      rw [e, w2]
      rw [w2] at w1
      exact ⟨h, h2.1, by omega, w1⟩
theorem IsWay.len {g : Gr} {t : Nat} : ∀ {d : Nat} {l : List Nat}, IsWay g t d l → l.length = d
  | d, [i], h => by simp only [IsWay] at h; simp [h.1]
  | d, i :: k :: l, h => by
    simp only [IsWay] at h
    have := IsWay.len h.2.2.2
    simp only [List.length_cons] at this ⊢
    omega
  | _, [], h => by simp [IsWay] at h
theorem IsWay.ld {g : Gr} {t : Nat} : ∀ {d : Nat} {l : List Nat}, IsWay g t d l → ∀ i (hi : i < l.length), Ld g t (d - i) l[i]
  | d, [i], h, j, hj => by
    simp only [IsWay] at h
    obtain rfl : j = 0 := by simp at hj; omega
    simpa [h.1] using h.2
  | d, i :: k :: l, h, 0, hj => by simp only [IsWay] at h; simpa using h.1
  | d, i :: k :: l, h, j + 1, hj => by
    simp only [IsWay] at h
    have := IsWay.ld h.2.2.2 j (by simpa using hj)
    rw [show d - (j + 1) = d - 1 - j by omega]
    simpa using this
  | _, [], h, _, _ => by simp [IsWay] at h
theorem IsWay.edge {g : Gr} {t : Nat} : ∀ {d : Nat} {l : List Nat}, IsWay g t d l → ∀ i (hi : i + 1 < l.length), l[i + 1] ∈ nx g l[i]
  | d, [i], h, j, hj => by simp at hj
  | d, i :: k :: l, h, 0, hj => by simp only [IsWay] at h; simpa using h.2.1
  | d, i :: k :: l, h, j + 1, hj => by
    simp only [IsWay] at h
    have := IsWay.edge h.2.2.2 j (by simpa using hj)
    simpa using this
  | _, [], h, _, _ => by simp [IsWay] at h
theorem IsWay.inj {g : Gr} {t d : Nat} {l : List Nat} (h : IsWay g t d l) {i j : Nat} (hi : i < l.length) (hj : j < l.length) (e : l[i] = l[j]) : i = j := by
  have h1 := h.ld i hi
  have h2 := h.ld j hj
  rw [e] at h1
  have := h1.uniq h2
  have := h.len
  omega
theorem IsWay.last {g : Gr} {t d : Nat} {l : List Nat} (h : IsWay g t d l) (hd : d - 1 < l.length) : t ∈ nx g l[d - 1] := by
  have h1 := h.ld (d - 1) hd
  have h2 := h.len
  rw [show d - (d - 1) = 1 by omega] at h1
  exact h1.one
theorem IsWay.head {g : Gr} {t d : Nat} {l : List Nat} (h : IsWay g t d l) (h0 : 0 < l.length) : ∀ i (hi : i < l.length), 0 < i → Rch g l[0] l[i]
  | 1, hi, _ => .one (h.edge 0 hi)
  | i + 2, hi, _ => (IsWay.head h h0 (i + 1) (by omega) (by omega)).tail (h.edge (i + 1) hi)
/-- So many different numbers below n are at most n. -/
theorem pigeon : ∀ (n : Nat) (l : List Nat), l.Nodup → (∀ x ∈ l, x < n) → l.length ≤ n
  | 0, [], _, _ => by simp
  | 0, x :: l, _, h => absurd (h x (by simp)) (by omega)
  | n + 1, l, hn, h => by
    by_cases hm : n ∈ l
    · have := pigeon n (l.erase n) (hn.erase n) (fun x hx => by
        have h1 := h x (List.mem_of_mem_erase hx)
        have : x ≠ n := fun e => by subst e; exact hn.not_mem_erase hx
        omega)
      rw [List.length_erase_of_mem hm] at this
      omega
    · have := pigeon n l hn (fun x hx => by
        have h1 := h x hx
        have : x ≠ n := fun e => hm (e ▸ hx)
        omega)
      omega
theorem nodup_inj {l : List Nat} (h : ∀ i j (hi : i < l.length) (hj : j < l.length), l[i] = l[j] → i = j) : l.Nodup := by
  rw [List.nodup_iff_pairwise_ne, List.pairwise_iff_getElem]
  intro i j hi hj hij e
  have := h i j hi hj e
  omega
theorem IsWay.short {g : Gr} {t d : Nat} {l : List Nat} (h : IsWay g t d l) : d ≤ g.length := by
  rw [← h.len]
  refine pigeon _ l (nodup_inj fun i j hi hj e => h.inj hi hj e) fun x hx => ?_
  obtain ⟨i, hi, rfl⟩ := List.getElem_of_mem hx
  exact (h.ld i hi).1.lt
/-- A shortest way has at most so many steps as there are nodes. -/
theorem Ld.way {g : Gr} {t : Nat} : ∀ {d i : Nat}, Ld g t d i → ∃ l, IsWay g t d (i :: l)
  | 0, i, h => absurd h.1.pos (by omega)
  | 1, i, h => ⟨[], rfl, h⟩
  | d + 2, i, h => by
    obtain ⟨k, hk, hkd⟩ := h.next
    obtain ⟨l, hl⟩ := hkd.way
    exact ⟨k :: l, h, hk, by omega, hl⟩
theorem Ld.short {g : Gr} {t d i : Nat} (h : Ld g t d i) : d ≤ g.length := h.way.elim fun _ h => h.short
/-! ### Orders -/
/-- Can node i come next? -/
def rdyB (g : Gr) (out : List Nat) (i : Nat) : Bool := !out.contains i && (nx g i).all (fun k => out.contains k)
def pick (g : Gr) (out : List Nat) : Option Nat := (List.range g.length).find? (rdyB g out)
def Acyc (g : Gr) : Prop := ∀ i, ¬Rch g i i
theorem acyc_pick {g : Gr} (hg : Gok g) (ha : Acyc g) {out : List Nat} {i : Nat} (hi : i < g.length) (ho : i ∉ out) : ∃ k, pick g out = some k := by
  refine Classical.byContradiction fun hn => ?_
  have hnone : ∀ j, j < g.length → rdyB g out j = false := by
    intro j hj
    have h0 : pick g out = none := by
      cases hp : pick g out with
      | none => rfl
      | some k => exact absurd ⟨k, hp⟩ hn
    have := List.find?_eq_none.1 h0 j (List.mem_range.2 hj)
    simpa using this
  have hstep : ∀ j : { j : Nat // j < g.length ∧ j ∉ out }, ∃ k : { j : Nat // j < g.length ∧ j ∉ out }, k.1 ∈ nx g j.1 := by
    rintro ⟨j, hj, hjo⟩
    have := hnone j hj
    simp only [rdyB, Bool.and_eq_false_iff, Bool.not_eq_false', List.contains_eq_mem, decide_eq_true_eq, List.all_eq_false, Bool.not_eq_true, decide_eq_false_iff_not] at this
    rcases this with h | ⟨k, hk, hko⟩
    · exact absurd h hjo
    · exact ⟨⟨k, hg j k hk, hko⟩, hk⟩
  let a : Nat → { j : Nat // j < g.length ∧ j ∉ out } := fun n => Nat.rec ⟨i, hi, ho⟩ (fun _ x => Classical.choose (hstep x)) n
  have hs : ∀ n, (a (n + 1)).1 ∈ nx g (a n).1 := fun n => Classical.choose_spec (hstep (a n))
  have hr : ∀ d n, Rch g (a n).1 (a (n + (d + 1))).1 := by
    intro d
    induction d with
    | zero => intro n; exact .one (hs n)
    | succ d ih => intro n; exact (ih n).tail (hs (n + (d + 1)))
  have hnd : ((List.range (g.length + 1)).map fun n => (a n).1).Nodup := by
    rw [List.nodup_iff_pairwise_ne, List.pairwise_map]
    refine List.Pairwise.imp_of_mem ?_ (List.pairwise_lt_range (n := g.length + 1))
    intro p q _ _ hpq e
    have := hr (q - p - 1) p
    rw [show p + (q - p - 1 + 1) = q by omega, ← e] at this
    exact ha _ this
  have := pigeon g.length _ hnd (fun x hx => by
    obtain ⟨n, _, rfl⟩ := List.mem_map.1 hx
    exact (a n).2.1)
  simp at this
  omega
/-- The first m nodes of the order. -/
def orderL (g : Gr) : Nat → List Nat
  | 0 => []
  | m + 1 => orderL g m ++ (pick g (orderL g m)).toList
theorem pick_some {g : Gr} {out : List Nat} {k : Nat} (h : pick g out = some k) : k < g.length ∧ k ∉ out ∧ (∀ j ∈ nx g k, j ∈ out) ∧ ∀ j, j < k → rdyB g out j = false := by
  unfold pick at h
  have h1 := List.mem_of_find?_eq_some h
  have h2 := List.find?_some h
  simp only [rdyB, Bool.and_eq_true, Bool.not_eq_true', List.contains_eq_mem, decide_eq_false_iff_not, List.all_eq_true, decide_eq_true_eq] at h2
  refine ⟨List.mem_range.1 h1, h2.1, h2.2, fun j hj => ?_⟩
  rw [List.find?_range_eq_some] at h
  simpa using h.2.2 j hj
theorem orderL_ok {g : Gr} (hg : Gok g) (ha : Acyc g) : ∀ m, m ≤ g.length → (orderL g m).length = m ∧ (orderL g m).Nodup ∧ (∀ x ∈ orderL g m, x < g.length) ∧
    ∀ i (hi : i < (orderL g m).length), ∀ j ∈ nx g (orderL g m)[i], j ∈ (orderL g m).take i
  | 0, _ => ⟨rfl, List.nodup_nil, by simp [orderL], by simp [orderL]⟩
  | m + 1, hm => by
    obtain ⟨h1, h2, h3, h4⟩ := orderL_ok hg ha m (by omega)
    have hex : ∃ i, i < g.length ∧ i ∉ orderL g m := by
      refine Classical.byContradiction fun hn => ?_
      have hsub : ∀ x ∈ List.range g.length, x ∈ orderL g m := fun x hx => Classical.byContradiction fun h => hn ⟨x, List.mem_range.1 hx, h⟩
      have key : ∀ (a b : List Nat), a.Nodup → (∀ x ∈ a, x ∈ b) → a.length ≤ b.length := by
        intro a
        induction a with
        | nil => intro b _ _; simp
        | cons x a ih =>
          intro b hnd hs
          have hx := hs x (by simp)
          have := ih (b.erase x) (List.nodup_cons.1 hnd).2 (fun y hy => (List.mem_erase_of_ne (fun e => by subst e; exact (List.nodup_cons.1 hnd).1 hy)).2 (hs y (by simp [hy])))
          rw [List.length_erase_of_mem hx] at this
          have := List.length_pos_of_mem hx
          simp only [List.length_cons]; omega
      have := key _ _ (List.nodup_range (n := g.length)) hsub
      rw [List.length_range] at this; omega
    obtain ⟨i, hi, hio⟩ := hex
    obtain ⟨k, hk⟩ := acyc_pick hg ha hi hio
    obtain ⟨k1, k2, k3, _⟩ := pick_some hk
    have e : orderL g (m + 1) = orderL g m ++ [k] := by rw [orderL, hk]; rfl
    rw [e]
    refine ⟨by simp [h1], ?_, ?_, ?_⟩
    · rw [List.nodup_append]
      exact ⟨h2, by simp, fun a ha b hb => by simp at hb; subst hb; exact fun e => k2 (e ▸ ha)⟩
    · intro x hx
      rcases List.mem_append.1 hx with hx | hx
      · exact h3 x hx
      · simp at hx; subst hx; exact k1
    · intro i hi j hj
      by_cases hil : i < (orderL g m).length
      · rw [List.getElem_append_left hil] at hj
        rw [List.take_append_of_le_length (by omega)]
        exact h4 i hil j hj
      · obtain rfl : i = (orderL g m).length := by simp at hi; omega
        simp at hj
        rw [List.take_left']
        · exact k3 j hj
        · rfl
end Go.Proofs.Ytpdajkbfemcdlaa
/- Graphs: the references' searches. -/
set_option linter.unusedSimpArgs false
set_option linter.unusedVariables false
namespace Go.Proofs.Ytpdajkbfemcdlaa
theorem Wk.untail {g : Gr} {t n i : Nat} (h : Wk g t n i) : n = 1 ∧ t ∈ nx g i ∨ ∃ j m, n = m + 1 ∧ Wk g j m i ∧ t ∈ nx g j := by
  induction h with
  | one h => exact .inl ⟨rfl, h⟩
  | @step i k n h1 h2 ih =>
    rcases ih with ⟨rfl, h3⟩ | ⟨j, m, rfl, h3, h4⟩
    · exact .inr ⟨k, 1, rfl, .one h1, h3⟩
    · exact .inr ⟨j, m + 1, rfl, .step h1 h3, h4⟩
/-- A way of n steps (perhaps none) from k to i. -/
def Fw (g : Gr) (k : Nat) : Nat → Nat → Prop
  | 0, i => i = k
  | n + 1, i => ∃ j, Fw g k n j ∧ i ∈ nx g j
theorem Fw.wk {g : Gr} {k : Nat} : ∀ {n i : Nat}, Fw g k (n + 1) i → Wk g i (n + 1) k
  | 0, i, h => by
    obtain ⟨j, e, h⟩ := h
    have e : j = k := e
    subst e; exact .one h
  | n + 1, i, h => by
    obtain ⟨j, h1, h2⟩ := h
    exact (Fw.wk h1).snoc h2
theorem Wk.fw {g : Gr} {k : Nat} : ∀ {n i : Nat}, Wk g i (n + 1) k → Fw g k (n + 1) i
  | 0, i, h => by
    rcases h.untail with ⟨_, h⟩ | ⟨j, m, e, h1, h2⟩
    · exact ⟨k, rfl, h⟩
    · have := h1.pos; omega
  | n + 1, i, h => by
    rcases h.untail with ⟨e, _⟩ | ⟨j, m, e, h1, h2⟩
    · omega
    · obtain rfl : m = n + 1 := by omega
      exact ⟨j, Wk.fw h1, h2⟩
theorem Fw.lt {g : Gr} (hg : Gok g) {k n i : Nat} (h : Fw g k (n + 1) i) : i < g.length := by
  obtain ⟨j, _, h⟩ := h
  exact hg j i h
/-- After r rounds, and i rows of the next one. -/
structure Rd (g : Gr) (a r i : Nat) (s : List Bool) : Prop where
  len : s.length = g.length
  sound : ∀ k, s.getD k false = true → Rch g a k
  full : ∀ m, m ≤ r → ∀ k, Wk g k m a → s.getD k false = true
  row : ∀ j, j < i → (j = a ∨ ∃ m, m ≤ r ∧ Wk g j m a) → ∀ k ∈ nx g j, s.getD k false = true
theorem Rd.start (g : Gr) (a : Nat) : Rd g a 0 0 (List.replicate g.length false) := by
  refine ⟨by simp, ?_, ?_, by intro j hj; omega⟩
  · intro k hk
    rw [List.getD_eq_getElem?_getD, List.getElem?_replicate] at hk
    split at hk <;> simp at hk
  · intro m hm k hw
    have := hw.pos; omega
theorem Rd.next {g : Gr} {a r : Nat} {s : List Bool} (h : Rd g a r g.length s) : Rd g a (r + 1) 0 s := by
  obtain ⟨h1, h2, h3, h4⟩ := h
  refine ⟨h1, h2, ?_, by intro j hj; omega⟩
  intro m hm k hw
  rcases hw.untail with ⟨e, hk⟩ | ⟨j, m', e, hj, hk⟩
  · exact h4 a (nx_lt hk) (.inl rfl) k hk
  · exact h4 j (nx_lt hk) (.inr ⟨m', by omega, hj⟩) k hk
/-- A row that is passed over. -/
theorem Rd.skip {g : Gr} {a r i : Nat} {s : List Bool} (h : Rd g a r i s) (hn : i ≠ a) (ho : s.getD i false = false) : Rd g a r (i + 1) s := by
  obtain ⟨h1, h2, h3, h4⟩ := h
  refine ⟨h1, h2, h3, ?_⟩
  intro j hj hc k hk
  by_cases e : j = i
  · subst e
    rcases hc with rfl | ⟨m, hm, hw⟩
    · exact absurd rfl hn
    · have := h3 m hm j hw
      rw [ho] at this; cases this
  · exact h4 j (by omega) hc k hk
/-- Within a row: its first n nodes are marked. -/
structure Rr (g : Gr) (a r i n : Nat) (s : List Bool) : Prop where
  rd : Rd g a r i s
  head : ∀ k ∈ (nx g i).take n, s.getD k false = true
theorem Rr.step {g : Gr} (hg : Gok g) {a r i n : Nat} {s : List Bool} (h : Rr g a r i n s) (hr : i = a ∨ Rch g a i) (hn : n < (nx g i).length) : Rr g a r i (n + 1) (s.set (nx g i)[n] true) := by
  obtain ⟨⟨h1, h2, h3, h4⟩, h5⟩ := h
  have hm : (nx g i)[n] ∈ nx g i := List.getElem_mem hn
  have hl : (nx g i)[n] < s.length := by rw [h1]; exact hg i _ hm
  have mono : ∀ k, s.getD k false = true → (s.set (nx g i)[n] true).getD k false = true := fun k hk => by rw [getD_set_or hl, hk]; simp
  refine ⟨⟨by simp [h1], ?_, fun m hm' k hw => mono k (h3 m hm' k hw), fun j hj hc k hk => mono k (h4 j hj hc k hk)⟩, ?_⟩
  · intro k hk
    rw [getD_set_or hl] at hk
    rcases Bool.or_eq_true _ _ ▸ hk with hk | hk
    · rw [of_decide_eq_true hk]
      rcases hr with rfl | hr
      · exact .one hm
      · exact hr.tail hm
    · exact h2 k hk
  · intro k hk
    rw [List.take_add_one, List.getElem?_eq_getElem hn] at hk
    rcases List.mem_append.1 hk with hk | hk
    · exact mono k (h5 k hk)
    · simp at hk; subst hk; rw [getD_set_or hl]; simp
theorem Rr.done {g : Gr} {a r i : Nat} {s : List Bool} (h : Rr g a r i (nx g i).length s) : Rd g a r (i + 1) s := by
  obtain ⟨⟨h1, h2, h3, h4⟩, h5⟩ := h
  rw [List.take_length] at h5
  refine ⟨h1, h2, h3, ?_⟩
  intro j hj hc k hk
  by_cases e : j = i
  · subst e; exact h5 k hk
  · exact h4 j (by omega) hc k hk
theorem Rd.done {g : Gr} {a : Nat} {s : List Bool} (h : Rd g a (g.length + 1) 0 s) (k : Nat) : s.getD k false = true ↔ Rch g a k := by
  refine ⟨h.sound k, fun hr => ?_⟩
  obtain ⟨d, hd⟩ := hr.ld
  exact h.full d (by have := hd.short; omega) k hd.1
/-- The successors of what is marked, as far as row i, element n. -/
structure Sw (g : Gr) (s : List Bool) (i n : Nat) (now : List Bool) : Prop where
  len : now.length = g.length
  iff : ∀ k, now.getD k false = true ↔ (∃ j, j < i ∧ s.getD j false = true ∧ k ∈ nx g j) ∨ (s.getD i false = true ∧ k ∈ (nx g i).take n)
theorem Sw.start (g : Gr) (s : List Bool) : Sw g s 0 0 (List.replicate g.length false) := by
  refine ⟨by simp, fun k => ?_⟩
  have : (List.replicate g.length false).getD k false = false := by
    rw [List.getD_eq_getElem?_getD, List.getElem?_replicate]; split <;> rfl
  rw [this]
  simp
theorem Sw.step {g : Gr} (hg : Gok g) {s now : List Bool} {i n : Nat} (h : Sw g s i n now) (hs : s.getD i false = true) (hn : n < (nx g i).length) : Sw g s i (n + 1) (now.set (nx g i)[n] true) := by
  obtain ⟨h1, h2⟩ := h
  have hl : (nx g i)[n] < now.length := by rw [h1]; exact hg i _ (List.getElem_mem hn)
  refine ⟨by simp [h1], fun k => ?_⟩
  rw [getD_set_or hl, Bool.or_eq_true, decide_eq_true_eq, h2 k, List.take_add_one, List.getElem?_eq_getElem hn]
  simp only [Option.toList_some, List.mem_append, List.mem_singleton]
  constructor
  · rintro (e | h | ⟨a, b⟩)
    · exact .inr ⟨hs, .inr e⟩
    · exact .inl h
    · exact .inr ⟨a, .inl b⟩
  · rintro (h | ⟨a, b | b⟩)
    · exact .inr (.inl h)
    · exact .inr (.inr ⟨a, b⟩)
    · exact .inl b
theorem Sw.row {g : Gr} {s now : List Bool} {i : Nat} (h : Sw g s i (nx g i).length now) : Sw g s (i + 1) 0 now := by
  obtain ⟨h1, h2⟩ := h
  refine ⟨h1, fun k => ?_⟩
  rw [h2 k, List.take_length]
  constructor
  · rintro (⟨j, hj, h⟩ | ⟨a, b⟩)
    · exact .inl ⟨j, by omega, h⟩
    · exact .inl ⟨i, by omega, a, b⟩
  · rintro (⟨j, hj, q1, q2⟩ | ⟨a, b⟩)
    · by_cases e : j = i
      · subst e; exact .inr ⟨q1, q2⟩
      · exact .inl ⟨j, by omega, q1, q2⟩
    · simp at b
theorem Sw.skip {g : Gr} {s now : List Bool} {i : Nat} (h : Sw g s i 0 now) (hs : s.getD i false = false) : Sw g s (i + 1) 0 now := by
  obtain ⟨h1, h2⟩ := h
  refine ⟨h1, fun k => ?_⟩
  rw [h2 k]
  constructor
  · rintro (⟨j, hj, h⟩ | ⟨a, b⟩)
    · exact .inl ⟨j, by omega, h⟩
    · rw [hs] at a; cases a
  · rintro (⟨j, hj, h1, h2⟩ | ⟨a, b⟩)
    · by_cases e : j = i
      · subst e; rw [hs] at h1; cases h1
      · exact .inl ⟨j, by omega, h1, h2⟩
    · simp at b
theorem Sw.fw {g : Gr} {k n : Nat} {s now : List Bool} (hs : ∀ j, s.getD j false = true ↔ Fw g k n j) (h : Sw g s g.length 0 now) (j : Nat) : now.getD j false = true ↔ Fw g k (n + 1) j := by
  rw [h.iff j]
  constructor
  · rintro (⟨i, hi, h1, h2⟩ | ⟨a, b⟩)
    · exact ⟨i, (hs i).1 h1, h2⟩
    · simp at b
  · rintro ⟨i, h1, h2⟩
    exact .inl ⟨i, nx_lt h2, (hs i).2 h1, h2⟩
end Go.Proofs.Ytpdajkbfemcdlaa
/- Annotated code of functions, checked against the program. -/
namespace Go.Proofs.Ytpdajkbfemcdlaa
open Go.Ge
/-- gantry/ring.Check -/
def C.ring_Check : ACode :=
  .seq (.region [
    ⟨some 2, .move false (.c (.int .i64 0)), none⟩]) (
  .seq (.seq (.region [
    ⟨some 7, .move false (.t 0), none⟩, 
    ⟨some 8, .len (.t 7), none⟩, 
    ⟨some 9, .bin .gtr (.t 8) (.c (.int .i64 64)), none⟩]) (
  .cond (.t 9) (.seq (.region [
    ⟨some 2, .move false (.c (.int .i64 2)), none⟩]) (
  .ret)) (.skip))) (
  .seq (.seq (.region [
    ⟨some 10, .move false (.t 0), none⟩, 
    ⟨some 11, .len (.t 10), none⟩, 
    ⟨some 12, .move false (.c (.int .i64 0)), none⟩]) (
  .block 0 (.loop (.seq (.region [
    ⟨some 13, .bin .lss (.t 12) (.t 11), none⟩]) (
  .seq (.cond (.t 13) (.skip) (.exit 0)) (
  .seq (.block 1 (.seq (.region [
    ⟨some 14, .iaddr 1 (.t 10) (.t 12), none⟩, 
    ⟨some 15, .load 2 false 1 (.t 14), none⟩, 
    ⟨some 4, .move false (.t 15), none⟩]) (
  .seq (.region [
    ⟨some 16, .move false (.t 4), none⟩, 
    ⟨some 17, .len (.t 16), none⟩, 
    ⟨some 18, .move false (.c (.int .i64 0)), none⟩]) (
  .block 2 (.loop (.seq (.region [
    ⟨some 19, .bin .lss (.t 18) (.t 17), none⟩]) (
  .seq (.cond (.t 19) (.skip) (.exit 2)) (
  .seq (.block 3 (.seq (.region [
    ⟨some 20, .iaddr 1 (.t 16) (.t 18), none⟩, 
    ⟨some 21, .load 2 false 1 (.t 20), none⟩, 
    ⟨some 6, .move false (.t 21), none⟩]) (
  .seq (.region [
    ⟨some 22, .move false (.t 6), none⟩, 
    ⟨some 23, .bin .lss (.t 22) (.c (.int .i64 0)), none⟩, 
    ⟨some 24, .move false (.t 23), none⟩, 
    ⟨some 25, .move false (.t 6), (some (24, false))⟩, 
    ⟨some 26, .move false (.t 0), (some (24, false))⟩, 
    ⟨some 27, .len (.t 26), (some (24, false))⟩, 
    ⟨some 28, .bin .geq (.t 25) (.t 27), (some (24, false))⟩, 
    ⟨some 29, .pick (.t 24) (.c (.bool true)) (.t 28), none⟩]) (
  .cond (.t 29) (.seq (.region [
    ⟨some 2, .move false (.c (.int .i64 1)), none⟩]) (
  .ret)) (.skip))))) (
  .region [
    ⟨some 30, .bin .add (.t 18) (.c (.int .i64 1)), none⟩, 
    ⟨some 18, .move false (.t 30), none⟩]))))))))) (
  .region [
    ⟨some 31, .bin .add (.t 12) (.c (.int .i64 1)), none⟩, 
    ⟨some 12, .move false (.t 31), none⟩]))))))) (
  .seq (.region [
    ⟨some 2, .move false (.c (.int .i64 0)), none⟩]) (
  .ret))))
def R.ring_Check : List ARes := [.t 2]
set_option maxRecDepth 100000 in
theorem K.ring_Check : ckFun Try.prog Try.f102 C.ring_Check R.ring_Check = true := by kernel_rfl
/-- gantry/ring.steps -/
def C.ring_steps : ACode :=
  .seq (.region [
    ⟨some 4, .move false (.c (.lst .nil [])), none⟩]) (
  .seq (.region [
    ⟨some 8, .move false (.t 0), none⟩, 
    ⟨some 9, .len (.t 8), none⟩, 
    ⟨some 10, .mkslice 1 1 true (.bool false) (.t 9), none⟩, 
    ⟨some 5, .move true (.t 10), none⟩]) (
  .seq (.thaw 5 (.region [
    ⟨some 11, .move false (.t 0), none⟩, 
    ⟨some 12, .move false (.t 1), none⟩, 
    ⟨some 13, .iaddr 1 (.t 11) (.t 12), none⟩, 
    ⟨some 14, .load 2 false 1 (.t 13), none⟩, 
    ⟨some 15, .call true F.slices_Clone_int [(.t 14)], none⟩, 
    ⟨some 6, .move true (.t 15), none⟩])) (
  .seq (.block 0 (.loop (.seq (.seq (.region [
    ⟨some 16, .move false (.t 6), none⟩, 
    ⟨some 17, .len (.t 16), none⟩, 
    ⟨some 18, .bin .gtr (.t 17) (.c (.int .i64 0)), none⟩]) (
  .cond (.t 18) (.skip) (.exit 0))) (
  .block 1 (.seq (.region [
    ⟨some 19, .move false (.t 6), none⟩, 
    ⟨some 20, .iaddr 1 (.t 19) (.c (.int .i64 0)), none⟩, 
    ⟨some 21, .load 2 false 1 (.t 20), none⟩, 
    ⟨some 7, .move false (.t 21), none⟩]) (
  .seq (.region [
    ⟨some 22, .move true (.t 6), none⟩, 
    ⟨some 23, .sliceT 1 22 (some (.c (.int .i64 1))), none⟩, 
    ⟨some 6, .move true (.t 23), none⟩]) (
  .seq (.region [
    ⟨some 24, .move false (.t 5), none⟩, 
    ⟨some 25, .move false (.t 7), none⟩, 
    ⟨some 26, .iaddr 1 (.t 24) (.t 25), none⟩, 
    ⟨some 27, .load 2 false 1 (.t 26), none⟩, 
    ⟨some 28, .un .not (.t 27), none⟩]) (
  .cond (.t 28) (.seq (.region [
    ⟨some 29, .move false (.t 5), none⟩, 
    ⟨some 30, .move false (.t 7), none⟩, 
    ⟨some 31, .iaddr 1 (.t 29) (.t 30), none⟩, 
    ⟨none, .store 1 (.t 31) (.c (.bool true)), none⟩]) (
  .region [
    ⟨some 32, .move true (.t 6), none⟩, 
    ⟨some 33, .move false (.t 0), none⟩, 
    ⟨some 34, .move false (.t 7), none⟩, 
    ⟨some 35, .iaddr 1 (.t 33) (.t 34), none⟩, 
    ⟨some 36, .load 2 false 1 (.t 35), none⟩, 
    ⟨some 37, .append 1 8 (.t 32) (.t 36), none⟩, 
    ⟨some 6, .move true (.t 37), none⟩])) (.skip))))))))) (
  .seq (.region [
    ⟨some 38, .move false (.t 5), none⟩, 
    ⟨some 4, .move false (.t 38), none⟩]) (
  .own 4 false 1 (.grab 4 (.ret)))))))
def R.ring_steps : List ARes := [.t 4]
set_option maxRecDepth 100000 in
theorem K.ring_steps : ckFun Try.prog Try.f171 C.ring_steps R.ring_steps = true := by kernel_rfl
/-- gantry/ring.Stuck -/
def C.ring_Stuck : ACode :=
  .seq (.region [
    ⟨some 2, .move false (.c (.lst .nil [])), none⟩, 
    ⟨some 3, .move false (.c (.int .i64 0)), none⟩]) (
  .seq (.seq (.region [
    ⟨some 7, .move false (.t 0), none⟩, 
    ⟨some 8, .call true F.ring_Check [(.t 7)], none⟩, 
    ⟨some 4, .move false (.t 8), none⟩]) (
  .seq (.region [
    ⟨some 9, .move false (.t 4), none⟩, 
    ⟨some 10, .bin .neq (.t 9) (.c (.int .i64 0)), none⟩]) (
  .cond (.t 10) (.seq (.region [
    ⟨some 11, .move false (.t 4), none⟩, 
    ⟨some 2, .move false (.c (.lst .nil [])), none⟩, 
    ⟨some 3, .move false (.t 11), none⟩]) (
  .ret)) (.skip)))) (
  .seq (.region [
    ⟨some 5, .move false (.c (.lst .nil [])), none⟩]) (
  .seq (.seq (.region [
    ⟨some 12, .move false (.t 0), none⟩, 
    ⟨some 13, .len (.t 12), none⟩, 
    ⟨some 14, .move false (.c (.int .i64 0)), none⟩]) (
  .block 0 (.loop (.seq (.region [
    ⟨some 15, .bin .lss (.t 14) (.t 13), none⟩]) (
  .seq (.cond (.t 15) (.skip) (.exit 0)) (
  .seq (.block 1 (.seq (.region [
    ⟨some 16, .move false (.t 14), none⟩, 
    ⟨some 6, .move false (.t 16), none⟩]) (
  .seq (.region [
    ⟨some 17, .move false (.t 0), none⟩, 
    ⟨some 18, .move false (.t 6), none⟩, 
    ⟨some 19, .call true F.ring_steps [(.t 17), (.t 18)], none⟩, 
    ⟨some 20, .move false (.t 6), none⟩, 
    ⟨some 21, .iaddr 1 (.t 19) (.t 20), none⟩, 
    ⟨some 22, .load 2 false 1 (.t 21), none⟩]) (
  .cond (.t 22) (.region [
    ⟨some 23, .move true (.t 5), none⟩, 
    ⟨some 24, .move false (.t 6), none⟩, 
    ⟨some 25, .buildS false 1 [(.t 24)], none⟩, 
    ⟨some 26, .append 1 8 (.t 23) (.t 25), none⟩, 
    ⟨some 5, .move true (.t 26), none⟩]) (.skip))))) (
  .region [
    ⟨some 27, .bin .add (.t 14) (.c (.int .i64 1)), none⟩, 
    ⟨some 14, .move false (.t 27), none⟩]))))))) (
  .seq (.region [
    ⟨some 28, .move true (.t 5), none⟩, 
    ⟨some 2, .move true (.t 28), none⟩, 
    ⟨some 3, .move false (.c (.int .i64 0)), none⟩]) (
  .ret)))))
def R.ring_Stuck : List ARes := [.t 2, .t 3]
set_option maxRecDepth 100000 in
theorem K.ring_Stuck : ckFun Try.prog Try.f96 C.ring_Stuck R.ring_Stuck = true := by kernel_rfl
/-- gantry/ring.Find -/
def C.ring_Find : ACode :=
  .seq (.region [
    ⟨some 2, .move false (.c (.lst .nil [])), none⟩, 
    ⟨some 3, .move false (.c (.int .i64 0)), none⟩]) (
  .seq (.region [
    ⟨some 7, .move false (.t 0), none⟩, 
    ⟨some 8, .call true F.ring_Stuck [(.t 7)], none⟩, 
    ⟨some 6, .move false (.t 8), none⟩, 
    ⟨some 9, .ext 0 (.t 6), none⟩, 
    ⟨some 10, .ext 1 (.t 6), none⟩, 
    ⟨some 4, .move false (.t 9), none⟩, 
    ⟨some 5, .move false (.t 10), none⟩]) (
  .seq (.seq (.region [
    ⟨some 11, .move false (.t 5), none⟩, 
    ⟨some 12, .bin .neq (.t 11) (.c (.int .i64 0)), none⟩]) (
  .cond (.t 12) (.seq (.region [
    ⟨some 13, .move false (.t 5), none⟩, 
    ⟨some 2, .move false (.c (.lst .nil [])), none⟩, 
    ⟨some 3, .move false (.t 13), none⟩]) (
  .ret)) (.skip))) (
  .seq (.seq (.region [
    ⟨some 14, .move false (.t 4), none⟩, 
    ⟨some 15, .len (.t 14), none⟩, 
    ⟨some 16, .bin .eql (.t 15) (.c (.int .i64 0)), none⟩]) (
  .cond (.t 16) (.seq (.region [
    ⟨some 2, .move false (.c (.lst .nil [])), none⟩, 
    ⟨some 3, .move false (.c (.int .i64 4)), none⟩]) (
  .ret)) (.skip))) (
  .seq (.region [
    ⟨some 17, .move false (.t 0), none⟩, 
    ⟨some 18, .move false (.t 4), none⟩, 
    ⟨some 19, .iaddr 1 (.t 18) (.c (.int .i64 0)), none⟩, 
    ⟨some 20, .load 2 false 1 (.t 19), none⟩, 
    ⟨some 21, .call true F.ring_shortest [(.t 17), (.t 20)], none⟩, 
    ⟨some 2, .move true (.t 21), none⟩, 
    ⟨some 3, .move false (.c (.int .i64 0)), none⟩]) (
  .ret)))))
def R.ring_Find : List ARes := [.t 2, .t 3]
set_option maxRecDepth 100000 in
theorem K.ring_Find : ckFun Try.prog Try.f93 C.ring_Find R.ring_Find = true := by kernel_rfl
/-- gantry/ring.shortest -/
def C.ring_shortest : ACode :=
  .seq (.region [
    ⟨some 4, .move false (.c (.lst .nil [])), none⟩]) (
  .seq (.region [
    ⟨some 18, .buildS false 1 [(.c (.int .i64 (-1)))], none⟩, 
    ⟨some 19, .move false (.t 0), none⟩, 
    ⟨some 20, .len (.t 19), none⟩, 
    ⟨some 21, .call true F.slices_Repeat_int [(.t 18), (.t 20)], none⟩, 
    ⟨some 5, .move false (.t 21), none⟩]) (
  .seq (.seq (.region [
    ⟨some 6, .move false (.c (.int .i64 1)), none⟩]) (
  .block 0 (.loop (.seq (.seq (.region [
    ⟨some 22, .move false (.t 5), none⟩, 
    ⟨some 23, .move false (.t 1), none⟩, 
    ⟨some 24, .iaddr 1 (.t 22) (.t 23), none⟩, 
    ⟨some 25, .load 2 false 1 (.t 24), none⟩, 
    ⟨some 26, .bin .lss (.t 25) (.c (.int .i64 0)), none⟩]) (
  .cond (.t 26) (.skip) (.exit 0))) (
  .seq (.block 1 (.seq (.region [
    ⟨some 29, .move false (.t 5), none⟩, 
    ⟨some 30, .call true F.slices_Clone_int [(.t 29)], none⟩, 
    ⟨some 7, .move true (.t 30), none⟩]) (
  .seq (.seq (.thaw 7 (.region [
    ⟨some 31, .move false (.t 0), none⟩, 
    ⟨some 32, .len (.t 31), none⟩, 
    ⟨some 33, .move false (.c (.int .i64 0)), none⟩])) (
  .block 2 (.loop (.seq (.region [
    ⟨some 34, .bin .lss (.t 33) (.t 32), none⟩]) (
  .seq (.cond (.t 34) (.skip) (.exit 2)) (
  .seq (.block 3 (.seq (.region [
    ⟨some 35, .move false (.t 33), none⟩, 
    ⟨some 36, .iaddr 1 (.t 31) (.t 33), none⟩, 
    ⟨some 37, .load 2 false 1 (.t 36), none⟩, 
    ⟨some 8, .move false (.t 35), none⟩, 
    ⟨some 9, .move false (.t 37), none⟩]) (
  .seq (.region [
    ⟨some 38, .move false (.t 9), none⟩, 
    ⟨some 39, .len (.t 38), none⟩, 
    ⟨some 40, .move false (.c (.int .i64 0)), none⟩]) (
  .block 4 (.loop (.seq (.region [
    ⟨some 41, .bin .lss (.t 40) (.t 39), none⟩]) (
  .seq (.cond (.t 41) (.skip) (.exit 4)) (
  .seq (.block 5 (.seq (.region [
    ⟨some 42, .iaddr 1 (.t 38) (.t 40), none⟩, 
    ⟨some 43, .load 2 false 1 (.t 42), none⟩, 
    ⟨some 11, .move false (.t 43), none⟩]) (
  .seq (.region [
    ⟨some 44, .move false (.t 5), none⟩, 
    ⟨some 45, .move false (.t 8), none⟩, 
    ⟨some 46, .iaddr 1 (.t 44) (.t 45), none⟩, 
    ⟨some 47, .load 2 false 1 (.t 46), none⟩, 
    ⟨some 48, .bin .lss (.t 47) (.c (.int .i64 0)), none⟩, 
    ⟨some 49, .move false (.t 48), none⟩, 
    ⟨some 50, .move false (.t 6), (some (49, true))⟩, 
    ⟨some 51, .bin .eql (.t 50) (.c (.int .i64 1)), (some (49, true))⟩, 
    ⟨some 52, .move false (.t 51), (some (49, true))⟩, 
    ⟨some 53, .move false (.t 11), (some (52, true))⟩, 
    ⟨some 54, .move false (.t 1), (some (52, true))⟩, 
    ⟨some 55, .bin .eql (.t 53) (.t 54), (some (52, true))⟩, 
    ⟨some 56, .pick (.t 52) (.t 55) (.c (.bool false)), (some (49, true))⟩, 
    ⟨some 57, .move false (.t 56), (some (49, true))⟩, 
    ⟨some 58, .move false (.t 6), (some (57, false))⟩, 
    ⟨some 59, .bin .gtr (.t 58) (.c (.int .i64 1)), (some (57, false))⟩, 
    ⟨some 60, .move false (.t 59), (some (57, false))⟩, 
    ⟨some 61, .move false (.t 5), (some (60, true))⟩, 
    ⟨some 62, .move false (.t 11), (some (60, true))⟩, 
    ⟨some 63, .iaddr 1 (.t 61) (.t 62), (some (60, true))⟩, 
    ⟨some 64, .load 2 false 1 (.t 63), (some (60, true))⟩, 
    ⟨some 65, .move false (.t 6), (some (60, true))⟩, 
    ⟨some 66, .bin .sub (.t 65) (.c (.int .i64 1)), (some (60, true))⟩, 
    ⟨some 67, .bin .eql (.t 64) (.t 66), (some (60, true))⟩, 
    ⟨some 68, .pick (.t 60) (.t 67) (.c (.bool false)), (some (57, false))⟩, 
    ⟨some 69, .pick (.t 57) (.c (.bool true)) (.t 68), (some (49, true))⟩, 
    ⟨some 70, .pick (.t 49) (.t 69) (.c (.bool false)), none⟩]) (
  .cond (.t 70) (.region [
    ⟨some 71, .move false (.t 7), none⟩, 
    ⟨some 72, .move false (.t 8), none⟩, 
    ⟨some 73, .move false (.t 6), none⟩, 
    ⟨some 74, .iaddr 1 (.t 71) (.t 72), none⟩, 
    ⟨none, .store 1 (.t 74) (.t 73), none⟩]) (.skip))))) (
  .region [
    ⟨some 75, .bin .add (.t 40) (.c (.int .i64 1)), none⟩, 
    ⟨some 40, .move false (.t 75), none⟩]))))))))) (
  .region [
    ⟨some 76, .bin .add (.t 33) (.c (.int .i64 1)), none⟩, 
    ⟨some 33, .move false (.t 76), none⟩]))))))) (
  .own 7 false 1 (.grab 7 (.region [
    ⟨some 77, .move false (.t 7), none⟩, 
    ⟨some 5, .move false (.t 77), none⟩])))))) (
  .region [
    ⟨some 27, .move false (.t 6), none⟩, 
    ⟨some 28, .bin .add (.t 27) (.c (.int .i64 1)), none⟩, 
    ⟨some 6, .move false (.t 28), none⟩])))))) (
  .seq (.region [
    ⟨some 78, .move false (.t 1), none⟩, 
    ⟨some 79, .buildS false 1 [(.t 78)], none⟩, 
    ⟨some 12, .move true (.t 79), none⟩]) (
  .seq (.seq (.drawn [0, 1, 2, 3, 4, 5, 6] [0, 0, 0, 6, 14, 1, 63] [
    ⟨some 80, .move false (.t 1), none⟩, 
    ⟨some 81, .move false (.t 5), none⟩, 
    ⟨some 82, .move false (.t 1), none⟩, 
    ⟨some 83, .iaddr 1 (.t 81) (.t 82), none⟩, 
    ⟨some 84, .load 0 false 1 (.t 83), none⟩, 
    ⟨some 13, .move false (.t 80), none⟩, 
    ⟨some 14, .move false (.t 84), none⟩]) (
  .block 6 (.loop (.seq (.seq (.region [
    ⟨some 85, .move false (.t 14), none⟩, 
    ⟨some 86, .bin .gtr (.t 85) (.c (.int .i64 1)), none⟩]) (
  .cond (.t 86) (.skip) (.exit 6))) (
  .seq (.block 7 (.seq (.region [
    ⟨some 15, .move false (.c (.int .i64 (-1))), none⟩]) (
  .seq (.seq (.region [
    ⟨some 89, .move false (.t 0), none⟩, 
    ⟨some 90, .move false (.t 13), none⟩, 
    ⟨some 91, .iaddr 1 (.t 89) (.t 90), none⟩, 
    ⟨some 92, .load 2 false 1 (.t 91), none⟩, 
    ⟨some 93, .len (.t 92), none⟩, 
    ⟨some 94, .move false (.c (.int .i64 0)), none⟩]) (
  .block 8 (.loop (.seq (.region [
    ⟨some 95, .bin .lss (.t 94) (.t 93), none⟩]) (
  .seq (.cond (.t 95) (.skip) (.exit 8)) (
  .seq (.block 9 (.seq (.region [
    ⟨some 96, .iaddr 1 (.t 92) (.t 94), none⟩, 
    ⟨some 97, .load 2 false 1 (.t 96), none⟩, 
    ⟨some 17, .move false (.t 97), none⟩]) (
  .seq (.region [
    ⟨some 98, .move false (.t 5), none⟩, 
    ⟨some 99, .move false (.t 17), none⟩, 
    ⟨some 100, .iaddr 1 (.t 98) (.t 99), none⟩, 
    ⟨some 101, .load 2 false 1 (.t 100), none⟩, 
    ⟨some 102, .move false (.t 14), none⟩, 
    ⟨some 103, .bin .sub (.t 102) (.c (.int .i64 1)), none⟩, 
    ⟨some 104, .bin .eql (.t 101) (.t 103), none⟩, 
    ⟨some 105, .move false (.t 104), none⟩, 
    ⟨some 106, .move false (.t 15), (some (105, true))⟩, 
    ⟨some 107, .bin .lss (.t 106) (.c (.int .i64 0)), (some (105, true))⟩, 
    ⟨some 108, .move false (.t 107), (some (105, true))⟩, 
    ⟨some 109, .move false (.t 17), (some (108, false))⟩, 
    ⟨some 110, .move false (.t 15), (some (108, false))⟩, 
    ⟨some 111, .bin .lss (.t 109) (.t 110), (some (108, false))⟩, 
    ⟨some 112, .pick (.t 108) (.c (.bool true)) (.t 111), (some (105, true))⟩, 
    ⟨some 113, .pick (.t 105) (.t 112) (.c (.bool false)), none⟩]) (
  .cond (.t 113) (.region [
    ⟨some 114, .move false (.t 17), none⟩, 
    ⟨some 15, .move false (.t 114), none⟩]) (.skip))))) (
  .region [
    ⟨some 115, .bin .add (.t 94) (.c (.int .i64 1)), none⟩, 
    ⟨some 94, .move false (.t 115), none⟩]))))))) (
  .seq (.region [
    ⟨some 116, .move true (.t 12), none⟩, 
    ⟨some 117, .move false (.t 15), none⟩, 
    ⟨some 118, .buildS false 1 [(.t 117)], none⟩, 
    ⟨some 119, .append 1 8 (.t 116) (.t 118), none⟩, 
    ⟨some 12, .move true (.t 119), none⟩]) (
  .region [
    ⟨some 120, .move false (.t 15), none⟩, 
    ⟨some 13, .move false (.t 120), none⟩]))))) (
  .region [
    ⟨some 87, .move false (.t 14), none⟩, 
    ⟨some 88, .bin .sub (.t 87) (.c (.int .i64 1)), none⟩, 
    ⟨some 14, .move false (.t 88), none⟩])))))) (
  .seq (.region [
    ⟨some 121, .move true (.t 12), none⟩, 
    ⟨some 4, .move true (.t 121), none⟩]) (
  .ret))))))
def R.ring_shortest : List ARes := [.t 4]
set_option maxRecDepth 100000 in
theorem K.ring_shortest : ckFun Try.prog Try.f170 C.ring_shortest R.ring_shortest = true := by kernel_rfl
/-- slices.Clone[[]int,int] -/
def C.slices_Clone_int : ACode :=
  .seq (.region [
    ⟨some 2, .move false (.c (.lst .nil [])), none⟩]) (
  .seq (.seq (.region [
    ⟨some 3, .move false (.t 0), none⟩, 
    ⟨some 4, .isnil false false (.t 3), none⟩]) (
  .cond (.t 4) (.seq (.region [
    ⟨some 2, .move false (.c (.lst .nil [])), none⟩]) (
  .ret)) (.skip))) (
  .seq (.region [
    ⟨some 5, .bs0, none⟩, 
    ⟨some 6, .move false (.t 0), none⟩, 
    ⟨some 7, .hop (.appendR 1 8 (.t 5) (.t 6)), none⟩, 
    ⟨some 2, .move false (.t 7), none⟩]) (
  .own 2 false 1 (.ret))))
def R.slices_Clone_int : List ARes := [.t 2]
set_option maxRecDepth 100000 in
theorem K.slices_Clone_int : ckFun Try.prog Try.f177 C.slices_Clone_int R.slices_Clone_int = true := by kernel_rfl
/-- slices.Repeat[[]int,int] -/
def C.slices_Repeat_int : ACode :=
  .seq (.region [
    ⟨some 4, .move false (.c (.lst .nil [])), none⟩]) (
  .seq (.seq (.region [
    ⟨some 9, .move false (.t 1), none⟩, 
    ⟨some 10, .bin .lss (.t 9) (.c (.int .i64 0)), none⟩]) (
  .cond (.t 10) (.halt) (.skip))) (
  .seq (.region [
    ⟨some 13, .move false (.t 0), none⟩, 
    ⟨some 14, .len (.t 13), none⟩, 
    ⟨some 15, .conv .u64 (.t 14), none⟩, 
    ⟨some 16, .move false (.t 1), none⟩, 
    ⟨some 17, .conv .u64 (.t 16), none⟩, 
    ⟨some 18, .call true F.bits_Mul [(.t 15), (.t 17)], none⟩, 
    ⟨some 12, .move false (.t 18), none⟩, 
    ⟨some 19, .ext 0 (.t 12), none⟩, 
    ⟨some 20, .ext 1 (.t 12), none⟩, 
    ⟨some 5, .move false (.t 19), none⟩, 
    ⟨some 6, .move false (.t 20), none⟩]) (
  .seq (.seq (.region [
    ⟨some 21, .move false (.t 5), none⟩, 
    ⟨some 22, .bin .gtr (.t 21) (.c (.int .u64 0)), none⟩, 
    ⟨some 23, .move false (.t 22), none⟩, 
    ⟨some 24, .move false (.t 6), (some (23, false))⟩, 
    ⟨some 25, .bin .gtr (.t 24) (.c (.int .u64 9223372036854775807)), (some (23, false))⟩, 
    ⟨some 26, .pick (.t 23) (.c (.bool true)) (.t 25), none⟩]) (
  .cond (.t 26) (.halt) (.skip))) (
  .seq (.region [
    ⟨some 28, .move false (.t 6), none⟩, 
    ⟨some 29, .conv .i64 (.t 28), none⟩, 
    ⟨some 30, .mkslice 1 8 true (.int .i64 0) (.t 29), none⟩, 
    ⟨some 7, .move true (.t 30), none⟩]) (
  .seq (.thaw 7 (.region [
    ⟨some 31, .move false (.t 7), none⟩, 
    ⟨some 32, .move false (.t 0), none⟩, 
    ⟨some 33, .hop (.copyR 1 (.t 31) (.t 32)), none⟩, 
    ⟨some 8, .move false (.t 33), none⟩])) (
  .seq (.block 0 (.loop (.seq (.seq (.region [
    ⟨some 34, .move false (.t 8), none⟩, 
    ⟨some 35, .move false (.t 7), none⟩, 
    ⟨some 36, .len (.t 35), none⟩, 
    ⟨some 37, .bin .lss (.t 34) (.t 36), none⟩]) (
  .cond (.t 37) (.skip) (.exit 0))) (
  .block 1 (.drawn [0, 1, 2, 3, 4, 5, 6, 7, 8, 9] [0, 0, 0, 6, 0, 0, 48, 126, 255, 511] [
    ⟨some 38, .move false (.t 8), none⟩, 
    ⟨some 39, .move false (.t 7), none⟩, 
    ⟨some 40, .move false (.t 8), none⟩, 
    ⟨some 41, .slice 1 (.t 39) (some (.t 40)) none none, none⟩, 
    ⟨some 42, .move false (.t 7), none⟩, 
    ⟨some 43, .move false (.t 8), none⟩, 
    ⟨some 44, .slice 1 (.t 42) none (some (.t 43)) none, none⟩, 
    ⟨some 45, .hop (.copyR 1 (.t 41) (.t 44)), none⟩, 
    ⟨some 46, .bin .add (.t 38) (.t 45), none⟩, 
    ⟨some 8, .move false (.t 46), none⟩]))))) (
  .seq (.region [
    ⟨some 47, .move false (.t 7), none⟩, 
    ⟨some 4, .move false (.t 47), none⟩]) (
  .own 4 false 1 (.grab 4 (.ret))))))))))
def R.slices_Repeat_int : List ARes := [.t 4]
set_option maxRecDepth 100000 in
theorem K.slices_Repeat_int : ckFun Try.prog Try.f200 C.slices_Repeat_int R.slices_Repeat_int = true := by kernel_rfl
/-- math/bits.Mul -/
def C.bits_Mul : ACode :=
  .seq (.region [
    ⟨some 4, .move false (.c (.int .u64 0)), none⟩, 
    ⟨some 5, .move false (.c (.int .u64 0)), none⟩]) (
  .seq (.cond (.c (.bool false)) (.seq (.region [
    ⟨some 11, .move false (.t 0), none⟩, 
    ⟨some 12, .conv .u32 (.t 11), none⟩, 
    ⟨some 13, .move false (.t 1), none⟩, 
    ⟨some 14, .conv .u32 (.t 13), none⟩, 
    ⟨some 15, .call true F.bits_Mul32 [(.t 12), (.t 14)], none⟩, 
    ⟨some 10, .move false (.t 15), none⟩, 
    ⟨some 16, .ext 0 (.t 10), none⟩, 
    ⟨some 17, .ext 1 (.t 10), none⟩, 
    ⟨some 6, .move false (.t 16), none⟩, 
    ⟨some 7, .move false (.t 17), none⟩]) (
  .seq (.region [
    ⟨some 18, .move false (.t 6), none⟩, 
    ⟨some 19, .conv .u64 (.t 18), none⟩, 
    ⟨some 20, .move false (.t 7), none⟩, 
    ⟨some 21, .conv .u64 (.t 20), none⟩, 
    ⟨some 4, .move false (.t 19), none⟩, 
    ⟨some 5, .move false (.t 21), none⟩]) (
  .ret))) (.skip)) (
  .seq (.region [
    ⟨some 23, .move false (.t 0), none⟩, 
    ⟨some 24, .move false (.t 1), none⟩, 
    ⟨some 25, .call true F.bits_Mul64 [(.t 23), (.t 24)], none⟩, 
    ⟨some 22, .move false (.t 25), none⟩, 
    ⟨some 26, .ext 0 (.t 22), none⟩, 
    ⟨some 27, .ext 1 (.t 22), none⟩, 
    ⟨some 8, .move false (.t 26), none⟩, 
    ⟨some 9, .move false (.t 27), none⟩]) (
  .seq (.region [
    ⟨some 28, .move false (.t 8), none⟩, 
    ⟨some 29, .move false (.t 9), none⟩, 
    ⟨some 4, .move false (.t 28), none⟩, 
    ⟨some 5, .move false (.t 29), none⟩]) (
  .ret))))
def R.bits_Mul : List ARes := [.t 4, .t 5]
set_option maxRecDepth 100000 in
theorem K.bits_Mul : ckFun Try.prog Try.f218 C.bits_Mul R.bits_Mul = true := by kernel_rfl
/-- math/bits.Mul64 -/
def C.bits_Mul64 : ACode :=
  .seq (.region [
    ⟨some 4, .move false (.c (.int .u64 0)), none⟩, 
    ⟨some 5, .move false (.c (.int .u64 0)), none⟩]) (
  .seq (.region [
    ⟨some 14, .move false (.t 0), none⟩, 
    ⟨some 15, .bin .and (.t 14) (.c (.int .u64 4294967295)), none⟩, 
    ⟨some 6, .move false (.t 15), none⟩]) (
  .seq (.region [
    ⟨some 16, .move false (.t 0), none⟩, 
    ⟨some 17, .bin .shr (.t 16) (.c (.int .u64 32)), none⟩, 
    ⟨some 7, .move false (.t 17), none⟩]) (
  .seq (.region [
    ⟨some 18, .move false (.t 1), none⟩, 
    ⟨some 19, .bin .and (.t 18) (.c (.int .u64 4294967295)), none⟩, 
    ⟨some 8, .move false (.t 19), none⟩]) (
  .seq (.region [
    ⟨some 20, .move false (.t 1), none⟩, 
    ⟨some 21, .bin .shr (.t 20) (.c (.int .u64 32)), none⟩, 
    ⟨some 9, .move false (.t 21), none⟩]) (
  .seq (.region [
    ⟨some 22, .move false (.t 6), none⟩, 
    ⟨some 23, .move false (.t 8), none⟩, 
    ⟨some 24, .bin .mul (.t 22) (.t 23), none⟩, 
    ⟨some 10, .move false (.t 24), none⟩]) (
  .seq (.region [
    ⟨some 25, .move false (.t 7), none⟩, 
    ⟨some 26, .move false (.t 8), none⟩, 
    ⟨some 27, .bin .mul (.t 25) (.t 26), none⟩, 
    ⟨some 28, .move false (.t 10), none⟩, 
    ⟨some 29, .bin .shr (.t 28) (.c (.int .u64 32)), none⟩, 
    ⟨some 30, .bin .add (.t 27) (.t 29), none⟩, 
    ⟨some 11, .move false (.t 30), none⟩]) (
  .seq (.region [
    ⟨some 31, .move false (.t 11), none⟩, 
    ⟨some 32, .bin .and (.t 31) (.c (.int .u64 4294967295)), none⟩, 
    ⟨some 12, .move false (.t 32), none⟩]) (
  .seq (.region [
    ⟨some 33, .move false (.t 11), none⟩, 
    ⟨some 34, .bin .shr (.t 33) (.c (.int .u64 32)), none⟩, 
    ⟨some 13, .move false (.t 34), none⟩]) (
  .seq (.region [
    ⟨some 35, .move false (.t 12), none⟩, 
    ⟨some 36, .move false (.t 6), none⟩, 
    ⟨some 37, .move false (.t 9), none⟩, 
    ⟨some 38, .bin .mul (.t 36) (.t 37), none⟩, 
    ⟨some 39, .bin .add (.t 35) (.t 38), none⟩, 
    ⟨some 12, .move false (.t 39), none⟩]) (
  .seq (.region [
    ⟨some 40, .move false (.t 7), none⟩, 
    ⟨some 41, .move false (.t 9), none⟩, 
    ⟨some 42, .bin .mul (.t 40) (.t 41), none⟩, 
    ⟨some 43, .move false (.t 13), none⟩, 
    ⟨some 44, .bin .add (.t 42) (.t 43), none⟩, 
    ⟨some 45, .move false (.t 12), none⟩, 
    ⟨some 46, .bin .shr (.t 45) (.c (.int .u64 32)), none⟩, 
    ⟨some 47, .bin .add (.t 44) (.t 46), none⟩, 
    ⟨some 4, .move false (.t 47), none⟩]) (
  .seq (.region [
    ⟨some 48, .move false (.t 0), none⟩, 
    ⟨some 49, .move false (.t 1), none⟩, 
    ⟨some 50, .bin .mul (.t 48) (.t 49), none⟩, 
    ⟨some 5, .move false (.t 50), none⟩]) (
  .ret))))))))))))
def R.bits_Mul64 : List ARes := [.t 4, .t 5]
set_option maxRecDepth 100000 in
theorem K.bits_Mul64 : ckFun Try.prog Try.f233 C.bits_Mul64 R.bits_Mul64 = true := by kernel_rfl
/-- slices.Contains[[]int,int] -/
def C.slices_Contains_int : ACode :=
  .seq (.region [
    ⟨some 4, .move false (.c (.bool false)), none⟩]) (
  .seq (.region [
    ⟨some 5, .move false (.t 0), none⟩, 
    ⟨some 6, .move false (.t 1), none⟩, 
    ⟨some 7, .call true F.slices_Index_int [(.t 5), (.t 6)], none⟩, 
    ⟨some 8, .bin .geq (.t 7) (.c (.int .i64 0)), none⟩, 
    ⟨some 4, .move false (.t 8), none⟩]) (
  .ret))
def R.slices_Contains_int : List ARes := [.t 4]
set_option maxRecDepth 100000 in
theorem K.slices_Contains_int : ckFun Try.prog Try.f97 C.slices_Contains_int R.slices_Contains_int = true := by kernel_rfl
/-- slices.Index[[]int,int] -/
def C.slices_Index_int : ACode :=
  .seq (.region [
    ⟨some 4, .move false (.c (.int .i64 0)), none⟩]) (
  .seq (.seq (.region [
    ⟨some 6, .move false (.t 0), none⟩, 
    ⟨some 7, .len (.t 6), none⟩, 
    ⟨some 8, .move false (.c (.int .i64 0)), none⟩]) (
  .block 0 (.loop (.seq (.region [
    ⟨some 9, .bin .lss (.t 8) (.t 7), none⟩]) (
  .seq (.cond (.t 9) (.skip) (.exit 0)) (
  .seq (.block 1 (.seq (.region [
    ⟨some 10, .move false (.t 8), none⟩, 
    ⟨some 5, .move false (.t 10), none⟩]) (
  .seq (.region [
    ⟨some 11, .move false (.t 1), none⟩, 
    ⟨some 12, .move false (.t 0), none⟩, 
    ⟨some 13, .move false (.t 5), none⟩, 
    ⟨some 14, .iaddr 1 (.t 12) (.t 13), none⟩, 
    ⟨some 15, .load 2 false 1 (.t 14), none⟩, 
    ⟨some 16, .bin .eql (.t 11) (.t 15), none⟩]) (
  .cond (.t 16) (.seq (.region [
    ⟨some 17, .move false (.t 5), none⟩, 
    ⟨some 4, .move false (.t 17), none⟩]) (
  .ret)) (.skip))))) (
  .region [
    ⟨some 18, .bin .add (.t 8) (.c (.int .i64 1)), none⟩, 
    ⟨some 8, .move false (.t 18), none⟩]))))))) (
  .seq (.region [
    ⟨some 4, .move false (.c (.int .i64 (-1))), none⟩]) (
  .ret)))
def R.slices_Index_int : List ARes := [.t 4]
set_option maxRecDepth 100000 in
theorem K.slices_Index_int : ckFun Try.prog Try.f172 C.slices_Index_int R.slices_Index_int = true := by kernel_rfl
/-- slices.ContainsFunc[[]int,int] -/
def C.slices_ContainsFunc_int : ACode :=
  .seq (.region [
    ⟨some 4, .move false (.c (.bool false)), none⟩]) (
  .seq (.region [
    ⟨some 5, .move false (.t 0), none⟩, 
    ⟨some 6, .move false (.t 1), none⟩, 
    ⟨some 7, .call true F.slices_IndexFunc_int [(.t 5), (.t 6)], none⟩, 
    ⟨some 8, .bin .geq (.t 7) (.c (.int .i64 0)), none⟩, 
    ⟨some 4, .move false (.t 8), none⟩]) (
  .ret))
def R.slices_ContainsFunc_int : List ARes := [.t 4]
set_option maxRecDepth 100000 in
theorem K.slices_ContainsFunc_int : ckFun Try.prog Try.f99 C.slices_ContainsFunc_int R.slices_ContainsFunc_int = true := by kernel_rfl
/-- slices.IndexFunc[[]int,int] -/
def C.slices_IndexFunc_int : ACode :=
  .seq (.region [
    ⟨some 4, .move false (.c (.int .i64 0)), none⟩]) (
  .seq (.seq (.region [
    ⟨some 6, .move false (.t 0), none⟩, 
    ⟨some 7, .len (.t 6), none⟩, 
    ⟨some 8, .move false (.c (.int .i64 0)), none⟩]) (
  .block 0 (.loop (.seq (.region [
    ⟨some 9, .bin .lss (.t 8) (.t 7), none⟩]) (
  .seq (.cond (.t 9) (.skip) (.exit 0)) (
  .seq (.block 1 (.seq (.region [
    ⟨some 10, .move false (.t 8), none⟩, 
    ⟨some 5, .move false (.t 10), none⟩]) (
  .seq (.region [
    ⟨some 11, .move false (.t 1), none⟩, 
    ⟨some 12, .move false (.t 0), none⟩, 
    ⟨some 13, .move false (.t 5), none⟩, 
    ⟨some 14, .iaddr 1 (.t 12) (.t 13), none⟩, 
    ⟨some 15, .load 2 false 1 (.t 14), none⟩, 
    ⟨some 16, .callv true (.t 11) [(.t 15)], none⟩]) (
  .cond (.t 16) (.seq (.region [
    ⟨some 17, .move false (.t 5), none⟩, 
    ⟨some 4, .move false (.t 17), none⟩]) (
  .ret)) (.skip))))) (
  .region [
    ⟨some 18, .bin .add (.t 8) (.c (.int .i64 1)), none⟩, 
    ⟨some 8, .move false (.t 18), none⟩]))))))) (
  .seq (.region [
    ⟨some 4, .move false (.c (.int .i64 (-1))), none⟩]) (
  .ret)))
def R.slices_IndexFunc_int : List ARes := [.t 4]
set_option maxRecDepth 100000 in
theorem K.slices_IndexFunc_int : ckFun Try.prog Try.f173 C.slices_IndexFunc_int R.slices_IndexFunc_int = true := by kernel_rfl
/-- slices.Equal[[]int,int] -/
def C.slices_Equal_int : ACode :=
  .seq (.region [
    ⟨some 4, .move false (.c (.bool false)), none⟩]) (
  .seq (.seq (.region [
    ⟨some 6, .move false (.t 0), none⟩, 
    ⟨some 7, .len (.t 6), none⟩, 
    ⟨some 8, .move false (.t 1), none⟩, 
    ⟨some 9, .len (.t 8), none⟩, 
    ⟨some 10, .bin .neq (.t 7) (.t 9), none⟩]) (
  .cond (.t 10) (.seq (.region [
    ⟨some 4, .move false (.c (.bool false)), none⟩]) (
  .ret)) (.skip))) (
  .seq (.seq (.region [
    ⟨some 11, .move false (.t 0), none⟩, 
    ⟨some 12, .len (.t 11), none⟩, 
    ⟨some 13, .move false (.c (.int .i64 0)), none⟩]) (
  .block 0 (.loop (.seq (.region [
    ⟨some 14, .bin .lss (.t 13) (.t 12), none⟩]) (
  .seq (.cond (.t 14) (.skip) (.exit 0)) (
  .seq (.block 1 (.seq (.region [
    ⟨some 15, .move false (.t 13), none⟩, 
    ⟨some 5, .move false (.t 15), none⟩]) (
  .seq (.drawn [0, 1, 2, 3, 4, 5, 6, 7, 8] [0, 0, 3, 7, 0, 0, 48, 112, 255] [
    ⟨some 16, .move false (.t 0), none⟩, 
    ⟨some 17, .move false (.t 5), none⟩, 
    ⟨some 18, .iaddr 1 (.t 16) (.t 17), none⟩, 
    ⟨some 19, .load 0 false 1 (.t 18), none⟩, 
    ⟨some 20, .move false (.t 1), none⟩, 
    ⟨some 21, .move false (.t 5), none⟩, 
    ⟨some 22, .iaddr 1 (.t 20) (.t 21), none⟩, 
    ⟨some 23, .load 0 false 1 (.t 22), none⟩, 
    ⟨some 24, .bin .neq (.t 19) (.t 23), none⟩]) (
  .cond (.t 24) (.seq (.region [
    ⟨some 4, .move false (.c (.bool false)), none⟩]) (
  .ret)) (.skip))))) (
  .region [
    ⟨some 25, .bin .add (.t 13) (.c (.int .i64 1)), none⟩, 
    ⟨some 13, .move false (.t 25), none⟩]))))))) (
  .seq (.region [
    ⟨some 4, .move false (.c (.bool true)), none⟩]) (
  .ret))))
def R.slices_Equal_int : List ARes := [.t 4]
set_option maxRecDepth 100000 in
theorem K.slices_Equal_int : ckFun Try.prog Try.f94 C.slices_Equal_int R.slices_Equal_int = true := by kernel_rfl
/-- gantry/ring.Order -/
def C.ring_Order : ACode :=
  .seq (.region [
    ⟨some 2, .move false (.c (.lst .nil [])), none⟩, 
    ⟨some 3, .move false (.c (.int .i64 0)), none⟩]) (
  .seq (.region [
    ⟨some 10, .move false (.t 0), none⟩, 
    ⟨some 11, .call true F.ring_Stuck [(.t 10)], none⟩, 
    ⟨some 9, .move false (.t 11), none⟩, 
    ⟨some 12, .ext 0 (.t 9), none⟩, 
    ⟨some 13, .ext 1 (.t 9), none⟩, 
    ⟨some 4, .move false (.t 12), none⟩, 
    ⟨some 5, .move false (.t 13), none⟩]) (
  .seq (.seq (.region [
    ⟨some 14, .move false (.t 5), none⟩, 
    ⟨some 15, .bin .neq (.t 14) (.c (.int .i64 0)), none⟩]) (
  .cond (.t 15) (.seq (.region [
    ⟨some 16, .move false (.t 5), none⟩, 
    ⟨some 2, .move false (.c (.lst .nil [])), none⟩, 
    ⟨some 3, .move false (.t 16), none⟩]) (
  .ret)) (.skip))) (
  .seq (.seq (.region [
    ⟨some 17, .move false (.t 4), none⟩, 
    ⟨some 18, .len (.t 17), none⟩, 
    ⟨some 19, .bin .gtr (.t 18) (.c (.int .i64 0)), none⟩]) (
  .cond (.t 19) (.seq (.region [
    ⟨some 2, .move false (.c (.lst .nil [])), none⟩, 
    ⟨some 3, .move false (.c (.int .i64 11)), none⟩]) (
  .ret)) (.skip))) (
  .seq (.region [
    ⟨some 6, .alloc false [(.lst .nil [])], none⟩]) (
  .seq (.prom 6 (.block 0 (.loop (.seq (.seq (.region [
    ⟨some 20, .load 2 false 1 (.t 6), none⟩, 
    ⟨some 21, .len (.t 20), none⟩, 
    ⟨some 22, .move false (.t 0), none⟩, 
    ⟨some 23, .len (.t 22), none⟩, 
    ⟨some 24, .bin .lss (.t 21) (.t 23), none⟩]) (
  .cond (.t 24) (.skip) (.exit 0))) (
  .block 1 (.seq (.region [
    ⟨some 25, .move false (.t 0), none⟩, 
    ⟨some 26, .len (.t 25), none⟩, 
    ⟨some 27, .move false (.c (.int .i64 0)), none⟩]) (
  .block 2 (.loop (.seq (.region [
    ⟨some 28, .bin .lss (.t 27) (.t 26), none⟩]) (
  .seq (.cond (.t 28) (.skip) (.exit 2)) (
  .seq (.block 3 (.seq (.region [
    ⟨some 29, .move false (.t 27), none⟩, 
    ⟨some 30, .iaddr 1 (.t 25) (.t 27), none⟩, 
    ⟨some 31, .load 2 false 1 (.t 30), none⟩, 
    ⟨some 7, .move false (.t 29), none⟩, 
    ⟨some 8, .move false (.t 31), none⟩]) (
  .seq (.seq (.region [
    ⟨some 32, .load 2 false 1 (.t 6), none⟩, 
    ⟨some 33, .move false (.t 7), none⟩, 
    ⟨some 34, .call true F.slices_Contains_int [(.t 32), (.t 33)], none⟩]) (
  .cond (.t 34) (.exit 3) (.skip))) (
  .seq (.region [
    ⟨some 35, .move false (.t 8), none⟩, 
    ⟨some 36, .mkf F.ring_Order_1 [(.t 6)], none⟩, 
    ⟨some 37, .call true F.slices_ContainsFunc_int [(.t 35), (.t 36)], none⟩, 
    ⟨some 38, .un .not (.t 37), none⟩]) (
  .cond (.t 38) (.seq (.region [
    ⟨some 39, .loadT (.t 6), none⟩, 
    ⟨some 40, .move false (.t 7), none⟩, 
    ⟨some 41, .buildS false 1 [(.t 40)], none⟩, 
    ⟨some 42, .append 1 8 (.t 39) (.t 41), none⟩, 
    ⟨none, .store 1 (.t 6) (.t 42), none⟩]) (
  .exit 2)) (.skip)))))) (
  .region [
    ⟨some 43, .bin .add (.t 27) (.c (.int .i64 1)), none⟩, 
    ⟨some 27, .move false (.t 43), none⟩])))))))))))) (
  .seq (.region [
    ⟨some 44, .loadT (.t 6), none⟩, 
    ⟨some 2, .move true (.t 44), none⟩, 
    ⟨some 3, .move false (.c (.int .i64 0)), none⟩]) (
  .ret)))))))
def R.ring_Order : List ARes := [.t 2, .t 3]
set_option maxRecDepth 100000 in
theorem K.ring_Order : ckFun Try.prog Try.f101 C.ring_Order R.ring_Order = true := by kernel_rfl
/-- gantry/ring.Order$1 -/
def C.ring_Order_1 : ACode :=
  .seq (.region [
    ⟨some 3, .move false (.c (.bool false)), none⟩]) (
  .seq (.region [
    ⟨some 4, .load 2 false 1 (.t 1), none⟩, 
    ⟨some 5, .move false (.t 0), none⟩, 
    ⟨some 6, .call true F.slices_Contains_int [(.t 4), (.t 5)], none⟩, 
    ⟨some 7, .un .not (.t 6), none⟩, 
    ⟨some 3, .move false (.t 7), none⟩]) (
  .ret))
def R.ring_Order_1 : List ARes := [.t 3]
set_option maxRecDepth 100000 in
theorem K.ring_Order_1 : ckFun Try.prog Try.f174 C.ring_Order_1 R.ring_Order_1 = true := by kernel_rfl
end Go.Proofs.Ytpdajkbfemcdlaa
set_option linter.unusedSimpArgs false
namespace Go.Proofs.Ytpdajkbfemcdlaa
open Go.Ge
/-- The m least significant bytes of a number, the most significant first. -/
def beBytes (n : Int) : Nat → List Int
  | 0 => []
  | m + 1 => beBytes (n / 256) m ++ [n % 256]
theorem beBytes_length (n : Int) (m : Nat) : (beBytes n m).length = m := by
  induction m generalizing n with
  | zero => rfl
  | succ m ih => simp [beBytes, ih]
end Go.Proofs.Ytpdajkbfemcdlaa
/- Contracts: clocks. -/
set_option linter.unusedSimpArgs false
set_option linter.unusedVariables false
set_option maxRecDepth 10000
namespace Go.Proofs.Ytpdajkbfemcdlaa
open Go.Ge
def after (a n : Int) : Int := (a + n) % 4294967296
end Go.Proofs.Ytpdajkbfemcdlaa
/- Annotated code of functions, checked against the program. -/
namespace Go.Proofs.Ytpdajkbfemcdlaa
open Go.Ge
/-- gantry/gantlaw5.RingTells -/
def C.gantlaw5_RingTells : ACode :=
  .seq (.region [
    ⟨some 1, .bx true (.t 0), none⟩, 
    ⟨some 2, .move false (.c (.bool false)), none⟩]) (
  .seq (.seq (.prom 1 (.region [
    ⟨some 17, .buildS false 1 [(.c (.int .i64 1))], none⟩, 
    ⟨some 18, .buildS false 1 [(.c (.int .i64 0))], none⟩, 
    ⟨some 19, .buildS false 1 [(.t 17), (.t 18)], none⟩, 
    ⟨some 20, .call true F.ring_Find [(.t 19)], none⟩, 
    ⟨some 16, .move false (.t 20), none⟩, 
    ⟨some 21, .ext 0 (.t 16), none⟩, 
    ⟨some 22, .ext 1 (.t 16), none⟩, 
    ⟨some 3, .move false (.t 21), none⟩, 
    ⟨some 4, .move false (.t 22), none⟩])) (
  .seq (.region [
    ⟨some 23, .move false (.t 4), none⟩, 
    ⟨some 24, .bin .neq (.t 23) (.c (.int .i64 0)), none⟩, 
    ⟨some 25, .move false (.t 24), none⟩, 
    ⟨some 26, .move false (.t 3), (some (25, false))⟩, 
    ⟨some 27, .buildS false 1 [(.c (.int .i64 0)), (.c (.int .i64 1))], (some (25, false))⟩, 
    ⟨some 28, .call true F.slices_Equal_int [(.t 26), (.t 27)], (some (25, false))⟩, 
    ⟨some 29, .un .not (.t 28), (some (25, false))⟩, 
    ⟨some 30, .pick (.t 25) (.c (.bool true)) (.t 29), none⟩]) (
  .cond (.t 30) (.seq (.region [
    ⟨some 2, .move false (.c (.bool false)), none⟩]) (
  .ret)) (.skip)))) (
  .seq (.region [
    ⟨some 5, .move false (.c (.int .i64 0)), none⟩]) (
  .seq (.seq (.region [
    ⟨some 31, .load 2 false 1 (.t 1), none⟩, 
    ⟨some 32, .len (.t 31), none⟩, 
    ⟨some 33, .bin .gtr (.t 32) (.c (.int .i64 64)), none⟩]) (
  .cond (.t 33) (.region [
    ⟨some 5, .move false (.c (.int .i64 2)), none⟩]) (.skip))) (
  .seq (.seq (.region [
    ⟨some 34, .load 2 false 1 (.t 1), none⟩, 
    ⟨some 35, .len (.t 34), none⟩, 
    ⟨some 36, .move false (.c (.int .i64 0)), none⟩]) (
  .block 0 (.loop (.seq (.region [
    ⟨some 37, .bin .lss (.t 36) (.t 35), none⟩]) (
  .seq (.cond (.t 37) (.skip) (.exit 0)) (
  .seq (.block 1 (.seq (.region [
    ⟨some 38, .iaddr 1 (.t 34) (.t 36), none⟩, 
    ⟨some 39, .load 2 false 1 (.t 38), none⟩, 
    ⟨some 7, .move false (.t 39), none⟩]) (
  .seq (.region [
    ⟨some 40, .move false (.t 5), none⟩, 
    ⟨some 41, .bin .eql (.t 40) (.c (.int .i64 0)), none⟩, 
    ⟨some 42, .move false (.t 41), none⟩, 
    ⟨some 43, .move false (.t 7), (some (42, true))⟩, 
    ⟨some 44, .mkf F.gantlaw5_RingTells_1 [(.t 1)], (some (42, true))⟩, 
    ⟨some 45, .call true F.slices_ContainsFunc_int [(.t 43), (.t 44)], (some (42, true))⟩, 
    ⟨some 46, .pick (.t 42) (.t 45) (.c (.bool false)), none⟩]) (
  .cond (.t 46) (.region [
    ⟨some 5, .move false (.c (.int .i64 1)), none⟩]) (.skip))))) (
  .region [
    ⟨some 47, .bin .add (.t 36) (.c (.int .i64 1)), none⟩, 
    ⟨some 36, .move false (.t 47), none⟩]))))))) (
  .seq (.region [
    ⟨some 49, .load 2 false 1 (.t 1), none⟩, 
    ⟨some 50, .call true F.ring_Stuck [(.t 49)], none⟩, 
    ⟨some 48, .move false (.t 50), none⟩, 
    ⟨some 51, .ext 0 (.t 48), none⟩, 
    ⟨some 52, .ext 1 (.t 48), none⟩, 
    ⟨some 8, .move false (.t 51), none⟩, 
    ⟨some 9, .move false (.t 52), none⟩]) (
  .seq (.region [
    ⟨some 54, .load 2 false 1 (.t 1), none⟩, 
    ⟨some 55, .call true F.ring_Find [(.t 54)], none⟩, 
    ⟨some 53, .move false (.t 55), none⟩, 
    ⟨some 56, .ext 0 (.t 53), none⟩, 
    ⟨some 57, .ext 1 (.t 53), none⟩, 
    ⟨some 10, .move false (.t 56), none⟩, 
    ⟨some 11, .move false (.t 57), none⟩]) (
  .seq (.region [
    ⟨some 59, .load 2 false 1 (.t 1), none⟩, 
    ⟨some 60, .call true F.ring_Order [(.t 59)], none⟩, 
    ⟨some 58, .move false (.t 60), none⟩, 
    ⟨some 61, .ext 0 (.t 58), none⟩, 
    ⟨some 62, .ext 1 (.t 58), none⟩, 
    ⟨some 12, .move false (.t 61), none⟩, 
    ⟨some 13, .move false (.t 62), none⟩]) (
  .seq (.seq (.region [
    ⟨some 63, .load 2 false 1 (.t 1), none⟩, 
    ⟨some 64, .call true F.ring_Check [(.t 63)], none⟩, 
    ⟨some 65, .move false (.t 5), none⟩, 
    ⟨some 66, .bin .neq (.t 64) (.t 65), none⟩]) (
  .cond (.t 66) (.seq (.region [
    ⟨some 2, .move false (.c (.bool false)), none⟩]) (
  .ret)) (.skip))) (
  .seq (.seq (.region [
    ⟨some 67, .move false (.t 5), none⟩, 
    ⟨some 68, .bin .neq (.t 67) (.c (.int .i64 0)), none⟩]) (
  .cond (.t 68) (.seq (.region [
    ⟨some 69, .move false (.t 9), none⟩, 
    ⟨some 70, .move false (.t 5), none⟩, 
    ⟨some 71, .bin .eql (.t 69) (.t 70), none⟩, 
    ⟨some 72, .move false (.t 71), none⟩, 
    ⟨some 73, .move false (.t 11), (some (72, true))⟩, 
    ⟨some 74, .move false (.t 5), (some (72, true))⟩, 
    ⟨some 75, .bin .eql (.t 73) (.t 74), (some (72, true))⟩, 
    ⟨some 76, .pick (.t 72) (.t 75) (.c (.bool false)), none⟩, 
    ⟨some 77, .move false (.t 76), none⟩, 
    ⟨some 78, .move false (.t 13), (some (77, true))⟩, 
    ⟨some 79, .move false (.t 5), (some (77, true))⟩, 
    ⟨some 80, .bin .eql (.t 78) (.t 79), (some (77, true))⟩, 
    ⟨some 81, .pick (.t 77) (.t 80) (.c (.bool false)), none⟩, 
    ⟨some 82, .move false (.t 81), none⟩, 
    ⟨some 83, .move false (.t 8), (some (82, true))⟩, 
    ⟨some 84, .len (.t 83), (some (82, true))⟩, 
    ⟨some 85, .move false (.t 10), (some (82, true))⟩, 
    ⟨some 86, .len (.t 85), (some (82, true))⟩, 
    ⟨some 87, .bin .add (.t 84) (.t 86), (some (82, true))⟩, 
    ⟨some 88, .move false (.t 12), (some (82, true))⟩, 
    ⟨some 89, .len (.t 88), (some (82, true))⟩, 
    ⟨some 90, .bin .add (.t 87) (.t 89), (some (82, true))⟩, 
    ⟨some 91, .bin .eql (.t 90) (.c (.int .i64 0)), (some (82, true))⟩, 
    ⟨some 92, .pick (.t 82) (.t 91) (.c (.bool false)), none⟩, 
    ⟨some 2, .move false (.t 92), none⟩]) (
  .ret)) (.skip))) (
  .seq (.region [
    ⟨some 14, .move false (.c (.lst .nil [])), none⟩]) (
  .seq (.seq (.region [
    ⟨some 93, .load 2 false 1 (.t 1), none⟩, 
    ⟨some 94, .len (.t 93), none⟩, 
    ⟨some 95, .move false (.c (.int .i64 0)), none⟩]) (
  .block 2 (.loop (.seq (.region [
    ⟨some 96, .bin .lss (.t 95) (.t 94), none⟩]) (
  .seq (.cond (.t 96) (.skip) (.exit 2)) (
  .seq (.block 3 (.seq (.region [
    ⟨some 97, .move false (.t 95), none⟩, 
    ⟨some 15, .move false (.t 97), none⟩]) (
  .seq (.region [
    ⟨some 98, .load 2 false 1 (.t 1), none⟩, 
    ⟨some 99, .move false (.t 15), none⟩, 
    ⟨some 100, .call true F.gantref5_Reached [(.t 98), (.t 99)], none⟩, 
    ⟨some 101, .move false (.t 15), none⟩, 
    ⟨some 102, .iaddr 1 (.t 100) (.t 101), none⟩, 
    ⟨some 103, .load 2 false 1 (.t 102), none⟩]) (
  .cond (.t 103) (.region [
    ⟨some 104, .move true (.t 14), none⟩, 
    ⟨some 105, .move false (.t 15), none⟩, 
    ⟨some 106, .buildS false 1 [(.t 105)], none⟩, 
    ⟨some 107, .append 1 8 (.t 104) (.t 106), none⟩, 
    ⟨some 14, .move true (.t 107), none⟩]) (.skip))))) (
  .region [
    ⟨some 108, .bin .add (.t 95) (.c (.int .i64 1)), none⟩, 
    ⟨some 95, .move false (.t 108), none⟩]))))))) (
  .seq (.seq (.region [
    ⟨some 109, .move false (.t 9), none⟩, 
    ⟨some 110, .bin .neq (.t 109) (.c (.int .i64 0)), none⟩, 
    ⟨some 111, .move false (.t 110), none⟩, 
    ⟨some 112, .move false (.t 8), (some (111, false))⟩, 
    ⟨some 113, .move false (.t 14), (some (111, false))⟩, 
    ⟨some 114, .call true F.slices_Equal_int [(.t 112), (.t 113)], (some (111, false))⟩, 
    ⟨some 115, .un .not (.t 114), (some (111, false))⟩, 
    ⟨some 116, .pick (.t 111) (.c (.bool true)) (.t 115), none⟩]) (
  .cond (.t 116) (.seq (.region [
    ⟨some 2, .move false (.c (.bool false)), none⟩]) (
  .ret)) (.skip))) (
  .seq (.seq (.region [
    ⟨some 117, .move false (.t 14), none⟩, 
    ⟨some 118, .len (.t 117), none⟩, 
    ⟨some 119, .bin .eql (.t 118) (.c (.int .i64 0)), none⟩]) (
  .cond (.t 119) (.seq (.region [
    ⟨some 120, .move false (.t 11), none⟩, 
    ⟨some 121, .bin .eql (.t 120) (.c (.int .i64 4)), none⟩, 
    ⟨some 122, .move false (.t 121), none⟩, 
    ⟨some 123, .move false (.t 10), (some (122, true))⟩, 
    ⟨some 124, .len (.t 123), (some (122, true))⟩, 
    ⟨some 125, .bin .eql (.t 124) (.c (.int .i64 0)), (some (122, true))⟩, 
    ⟨some 126, .pick (.t 122) (.t 125) (.c (.bool false)), none⟩, 
    ⟨some 127, .move false (.t 126), none⟩, 
    ⟨some 128, .move false (.t 13), (some (127, true))⟩, 
    ⟨some 129, .bin .eql (.t 128) (.c (.int .i64 0)), (some (127, true))⟩, 
    ⟨some 130, .pick (.t 127) (.t 129) (.c (.bool false)), none⟩, 
    ⟨some 131, .move false (.t 130), none⟩, 
    ⟨some 132, .move false (.t 12), (some (131, true))⟩, 
    ⟨some 133, .load 2 false 1 (.t 1), (some (131, true))⟩, 
    ⟨some 134, .call true F.gantlaw5_orderOf [(.t 133)], (some (131, true))⟩, 
    ⟨some 135, .call true F.slices_Equal_int [(.t 132), (.t 134)], (some (131, true))⟩, 
    ⟨some 136, .pick (.t 131) (.t 135) (.c (.bool false)), none⟩, 
    ⟨some 2, .move false (.t 136), none⟩]) (
  .ret)) (.skip))) (
  .seq (.drawn [0, 1, 2, 3, 4, 5, 6, 7, 8, 9, 10, 11, 12, 13, 14, 15, 16, 17, 18, 19, 20] [0, 1, 3, 7, 7, 7, 39, 103, 247, 511, 1023, 2047, 4095, 8191, 16383, 32767, 65535, 131071, 262143, 524287, 1048575] [
    ⟨some 137, .move false (.t 11), none⟩, 
    ⟨some 138, .bin .eql (.t 137) (.c (.int .i64 0)), none⟩, 
    ⟨some 139, .move false (.t 138), none⟩, 
    ⟨some 140, .move false (.t 10), (some (139, true))⟩, 
    ⟨some 141, .loadX 0 false 1 (.t 1), (some (139, true))⟩, 
    ⟨some 142, .move false (.t 14), (some (139, true))⟩, 
    ⟨some 143, .iaddr 1 (.t 142) (.c (.int .i64 0)), (some (139, true))⟩, 
    ⟨some 144, .load 0 false 1 (.t 143), (some (139, true))⟩, 
    ⟨some 145, .hop (.callp F.gantlaw5_ringOf [(.t 141), (.t 144)]), (some (139, true))⟩, 
    ⟨some 146, .hop (.callp F.slices_Equal_int [(.t 140), (.t 145)]), (some (139, true))⟩, 
    ⟨some 147, .pick (.t 139) (.t 146) (.c (.bool false)), none⟩, 
    ⟨some 148, .move false (.t 147), none⟩, 
    ⟨some 149, .move false (.t 13), (some (148, true))⟩, 
    ⟨some 150, .bin .eql (.t 149) (.c (.int .i64 11)), (some (148, true))⟩, 
    ⟨some 151, .pick (.t 148) (.t 150) (.c (.bool false)), none⟩, 
    ⟨some 152, .move false (.t 151), none⟩, 
    ⟨some 153, .move false (.t 12), (some (152, true))⟩, 
    ⟨some 154, .len (.t 153), (some (152, true))⟩, 
    ⟨some 155, .bin .eql (.t 154) (.c (.int .i64 0)), (some (152, true))⟩, 
    ⟨some 156, .pick (.t 152) (.t 155) (.c (.bool false)), none⟩, 
    ⟨some 2, .move false (.t 156), none⟩]) (
  .ret)))))))))))))))
def R.gantlaw5_RingTells : List ARes := [.t 2]
set_option maxRecDepth 100000 in
theorem K.gantlaw5_RingTells : ckFun Try.prog Try.f23 C.gantlaw5_RingTells R.gantlaw5_RingTells = true := by kernel_rfl
/-- gantry/gantlaw5.RingTells$1 -/
def C.gantlaw5_RingTells_1 : ACode :=
  .seq (.region [
    ⟨some 3, .move false (.c (.bool false)), none⟩]) (
  .seq (.region [
    ⟨some 4, .move false (.t 0), none⟩, 
    ⟨some 5, .bin .lss (.t 4) (.c (.int .i64 0)), none⟩, 
    ⟨some 6, .move false (.t 5), none⟩, 
    ⟨some 7, .move false (.t 0), (some (6, false))⟩, 
    ⟨some 8, .load 2 false 1 (.t 1), (some (6, false))⟩, 
    ⟨some 9, .len (.t 8), (some (6, false))⟩, 
    ⟨some 10, .bin .geq (.t 7) (.t 9), (some (6, false))⟩, 
    ⟨some 11, .pick (.t 6) (.c (.bool true)) (.t 10), none⟩, 
    ⟨some 3, .move false (.t 11), none⟩]) (
  .ret))
def R.gantlaw5_RingTells_1 : List ARes := [.t 3]
set_option maxRecDepth 100000 in
theorem K.gantlaw5_RingTells_1 : ckFun Try.prog Try.f100 C.gantlaw5_RingTells_1 R.gantlaw5_RingTells_1 = true := by kernel_rfl
/-- gantry/gantref5.Reached -/
def C.gantref5_Reached : ACode :=
  .seq (.region [
    ⟨some 4, .move false (.c (.lst .nil [])), none⟩]) (
  .seq (.region [
    ⟨some 10, .move false (.t 0), none⟩, 
    ⟨some 11, .len (.t 10), none⟩, 
    ⟨some 12, .mkslice 1 1 true (.bool false) (.t 11), none⟩, 
    ⟨some 5, .move true (.t 12), none⟩]) (
  .seq (.seq (.thaw 5 (.region [
    ⟨some 13, .move false (.t 0), none⟩, 
    ⟨some 14, .len (.t 13), none⟩, 
    ⟨some 15, .bin .add (.t 14) (.c (.int .i64 1)), none⟩, 
    ⟨some 16, .move false (.c (.int .i64 0)), none⟩])) (
  .block 0 (.loop (.seq (.region [
    ⟨some 17, .bin .lss (.t 16) (.t 15), none⟩]) (
  .seq (.cond (.t 17) (.skip) (.exit 0)) (
  .seq (.block 1 (.seq (.region [
    ⟨some 18, .move false (.t 0), none⟩, 
    ⟨some 19, .len (.t 18), none⟩, 
    ⟨some 20, .move false (.c (.int .i64 0)), none⟩]) (
  .block 2 (.loop (.seq (.region [
    ⟨some 21, .bin .lss (.t 20) (.t 19), none⟩]) (
  .seq (.cond (.t 21) (.skip) (.exit 2)) (
  .seq (.block 3 (.seq (.region [
    ⟨some 22, .move false (.t 20), none⟩, 
    ⟨some 23, .iaddr 1 (.t 18) (.t 20), none⟩, 
    ⟨some 24, .load 2 false 1 (.t 23), none⟩, 
    ⟨some 6, .move false (.t 22), none⟩, 
    ⟨some 7, .move false (.t 24), none⟩]) (
  .seq (.seq (.region [
    ⟨some 25, .move false (.t 6), none⟩, 
    ⟨some 26, .move false (.t 1), none⟩, 
    ⟨some 27, .bin .neq (.t 25) (.t 26), none⟩, 
    ⟨some 28, .move false (.t 27), none⟩, 
    ⟨some 29, .move false (.t 5), (some (28, true))⟩, 
    ⟨some 30, .move false (.t 6), (some (28, true))⟩, 
    ⟨some 31, .iaddr 1 (.t 29) (.t 30), (some (28, true))⟩, 
    ⟨some 32, .load 2 false 1 (.t 31), (some (28, true))⟩, 
    ⟨some 33, .un .not (.t 32), (some (28, true))⟩, 
    ⟨some 34, .pick (.t 28) (.t 33) (.c (.bool false)), none⟩]) (
  .cond (.t 34) (.exit 3) (.skip))) (
  .seq (.region [
    ⟨some 35, .move false (.t 7), none⟩, 
    ⟨some 36, .len (.t 35), none⟩, 
    ⟨some 37, .move false (.c (.int .i64 0)), none⟩]) (
  .block 4 (.loop (.seq (.region [
    ⟨some 38, .bin .lss (.t 37) (.t 36), none⟩]) (
  .seq (.cond (.t 38) (.skip) (.exit 4)) (
  .seq (.block 5 (.seq (.region [
    ⟨some 39, .iaddr 1 (.t 35) (.t 37), none⟩, 
    ⟨some 40, .load 2 false 1 (.t 39), none⟩, 
    ⟨some 9, .move false (.t 40), none⟩]) (
  .region [
    ⟨some 41, .move false (.t 5), none⟩, 
    ⟨some 42, .move false (.t 9), none⟩, 
    ⟨some 43, .iaddr 1 (.t 41) (.t 42), none⟩, 
    ⟨none, .store 1 (.t 43) (.c (.bool true)), none⟩]))) (
  .region [
    ⟨some 44, .bin .add (.t 37) (.c (.int .i64 1)), none⟩, 
    ⟨some 37, .move false (.t 44), none⟩])))))))))) (
  .region [
    ⟨some 45, .bin .add (.t 20) (.c (.int .i64 1)), none⟩, 
    ⟨some 20, .move false (.t 45), none⟩])))))))) (
  .region [
    ⟨some 46, .bin .add (.t 16) (.c (.int .i64 1)), none⟩, 
    ⟨some 16, .move false (.t 46), none⟩]))))))) (
  .seq (.region [
    ⟨some 47, .move false (.t 5), none⟩, 
    ⟨some 4, .move false (.t 47), none⟩]) (
  .own 4 false 1 (.grab 4 (.ret))))))
def R.gantref5_Reached : List ARes := [.t 4]
set_option maxRecDepth 100000 in
theorem K.gantref5_Reached : ckFun Try.prog Try.f103 C.gantref5_Reached R.gantref5_Reached = true := by kernel_rfl
/-- gantry/gantlaw5.orderOf -/
def C.gantlaw5_orderOf : ACode :=
  .seq (.region [
    ⟨some 2, .move false (.c (.lst .nil [])), none⟩]) (
  .seq (.region [
    ⟨some 3, .move false (.c (.lst .nil [])), none⟩]) (
  .seq (.region [
    ⟨some 10, .move false (.t 0), none⟩, 
    ⟨some 11, .len (.t 10), none⟩, 
    ⟨some 12, .mkslice 1 1 true (.bool false) (.t 11), none⟩, 
    ⟨some 4, .move true (.t 12), none⟩]) (
  .seq (.seq (.thaw 4 (.region [
    ⟨some 13, .move false (.t 0), none⟩, 
    ⟨some 14, .len (.t 13), none⟩, 
    ⟨some 15, .move false (.c (.int .i64 0)), none⟩])) (
  .block 0 (.loop (.seq (.region [
    ⟨some 16, .bin .lss (.t 15) (.t 14), none⟩]) (
  .seq (.cond (.t 16) (.skip) (.exit 0)) (
  .seq (.block 1 (.seq (.region [
    ⟨some 5, .move false (.c (.int .i64 (-1))), none⟩]) (
  .seq (.seq (.region [
    ⟨some 17, .move false (.t 0), none⟩, 
    ⟨some 18, .len (.t 17), none⟩, 
    ⟨some 19, .bin .sub (.t 18) (.c (.int .i64 1)), none⟩, 
    ⟨some 6, .move false (.t 19), none⟩]) (
  .block 2 (.loop (.seq (.seq (.region [
    ⟨some 20, .move false (.t 6), none⟩, 
    ⟨some 21, .bin .geq (.t 20) (.c (.int .i64 0)), none⟩]) (
  .cond (.t 21) (.skip) (.exit 2))) (
  .seq (.block 3 (.seq (.region [
    ⟨some 24, .move false (.t 4), none⟩, 
    ⟨some 25, .move false (.t 6), none⟩, 
    ⟨some 26, .iaddr 1 (.t 24) (.t 25), none⟩, 
    ⟨some 27, .load 2 false 1 (.t 26), none⟩, 
    ⟨some 28, .un .not (.t 27), none⟩, 
    ⟨some 7, .move false (.t 28), none⟩]) (
  .seq (.seq (.region [
    ⟨some 29, .move false (.t 0), none⟩, 
    ⟨some 30, .move false (.t 6), none⟩, 
    ⟨some 31, .iaddr 1 (.t 29) (.t 30), none⟩, 
    ⟨some 32, .load 2 false 1 (.t 31), none⟩, 
    ⟨some 33, .len (.t 32), none⟩, 
    ⟨some 34, .move false (.c (.int .i64 0)), none⟩]) (
  .block 4 (.loop (.seq (.region [
    ⟨some 35, .bin .lss (.t 34) (.t 33), none⟩]) (
  .seq (.cond (.t 35) (.skip) (.exit 4)) (
  .seq (.block 5 (.seq (.region [
    ⟨some 36, .iaddr 1 (.t 32) (.t 34), none⟩, 
    ⟨some 37, .load 2 false 1 (.t 36), none⟩, 
    ⟨some 9, .move false (.t 37), none⟩]) (
  .region [
    ⟨some 38, .move false (.t 7), none⟩, 
    ⟨some 39, .move false (.t 38), none⟩, 
    ⟨some 40, .move false (.t 4), (some (39, true))⟩, 
    ⟨some 41, .move false (.t 9), (some (39, true))⟩, 
    ⟨some 42, .iaddr 1 (.t 40) (.t 41), (some (39, true))⟩, 
    ⟨some 43, .load 2 false 1 (.t 42), (some (39, true))⟩, 
    ⟨some 44, .pick (.t 39) (.t 43) (.c (.bool false)), none⟩, 
    ⟨some 7, .move false (.t 44), none⟩]))) (
  .region [
    ⟨some 45, .bin .add (.t 34) (.c (.int .i64 1)), none⟩, 
    ⟨some 34, .move false (.t 45), none⟩]))))))) (
  .seq (.region [
    ⟨some 46, .move false (.t 7), none⟩]) (
  .cond (.t 46) (.region [
    ⟨some 47, .move false (.t 6), none⟩, 
    ⟨some 5, .move false (.t 47), none⟩]) (.skip)))))) (
  .region [
    ⟨some 22, .move false (.t 6), none⟩, 
    ⟨some 23, .bin .sub (.t 22) (.c (.int .i64 1)), none⟩, 
    ⟨some 6, .move false (.t 23), none⟩])))))) (
  .seq (.region [
    ⟨some 48, .move false (.t 4), none⟩, 
    ⟨some 49, .move false (.t 5), none⟩, 
    ⟨some 50, .iaddr 1 (.t 48) (.t 49), none⟩, 
    ⟨none, .store 1 (.t 50) (.c (.bool true)), none⟩]) (
  .region [
    ⟨some 51, .move true (.t 3), none⟩, 
    ⟨some 52, .move false (.t 5), none⟩, 
    ⟨some 53, .buildS false 1 [(.t 52)], none⟩, 
    ⟨some 54, .append 1 8 (.t 51) (.t 53), none⟩, 
    ⟨some 3, .move true (.t 54), none⟩]))))) (
  .region [
    ⟨some 55, .bin .add (.t 15) (.c (.int .i64 1)), none⟩, 
    ⟨some 15, .move false (.t 55), none⟩]))))))) (
  .seq (.region [
    ⟨some 56, .move true (.t 3), none⟩, 
    ⟨some 2, .move true (.t 56), none⟩]) (
  .ret)))))
def R.gantlaw5_orderOf : List ARes := [.t 2]
set_option maxRecDepth 100000 in
theorem K.gantlaw5_orderOf : ckFun Try.prog Try.f104 C.gantlaw5_orderOf R.gantlaw5_orderOf = true := by kernel_rfl
/-- gantry/gantlaw5.ringOf -/
def C.gantlaw5_ringOf : ACode :=
  .seq (.region [
    ⟨some 4, .move false (.c (.lst .nil [])), none⟩]) (
  .seq (.seq (.region [
    ⟨some 5, .move false (.c (.int .i64 1)), none⟩]) (
  .block 0 (.loop (.seq (.seq (.region [
    ⟨some 7, .move false (.t 5), none⟩, 
    ⟨some 8, .move false (.t 0), none⟩, 
    ⟨some 9, .len (.t 8), none⟩, 
    ⟨some 10, .bin .leq (.t 7) (.t 9), none⟩]) (
  .cond (.t 10) (.skip) (.exit 0))) (
  .seq (.block 1 (.seq (.region [
    ⟨some 13, .move false (.t 0), none⟩, 
    ⟨some 14, .move false (.t 1), none⟩, 
    ⟨some 15, .hop (.buildR 1 [(.t 14)]), none⟩, 
    ⟨some 16, .move false (.t 5), none⟩, 
    ⟨some 17, .call true F.gantlaw5_wayBack [(.t 13), (.t 15), (.t 16)], none⟩, 
    ⟨some 6, .move true (.t 17), none⟩]) (
  .seq (.region [
    ⟨some 18, .move false (.t 6), none⟩, 
    ⟨some 19, .isnil false true (.t 18), none⟩]) (
  .cond (.t 19) (.seq (.region [
    ⟨some 20, .move true (.t 6), none⟩, 
    ⟨some 4, .move true (.t 20), none⟩]) (
  .ret)) (.skip))))) (
  .region [
    ⟨some 11, .move false (.t 5), none⟩, 
    ⟨some 12, .bin .add (.t 11) (.c (.int .i64 1)), none⟩, 
    ⟨some 5, .move false (.t 12), none⟩])))))) (
  .seq (.region [
    ⟨some 4, .move false (.c (.lst .nil [])), none⟩]) (
  .ret)))
def R.gantlaw5_ringOf : List ARes := [.t 4]
set_option maxRecDepth 100000 in
theorem K.gantlaw5_ringOf : ckFun Try.prog Try.f105 C.gantlaw5_ringOf R.gantlaw5_ringOf = true := by kernel_rfl
/-- gantry/gantlaw5.wayBack -/
def C.gantlaw5_wayBack : ACode :=
  .seq (.region [
    ⟨some 6, .move false (.c (.lst .nil [])), none⟩]) (
  .seq (.block 0 (.loop (.seq (.seq (.region [
    ⟨some 10, .move false (.t 1), none⟩, 
    ⟨some 11, .len (.t 10), none⟩, 
    ⟨some 12, .move false (.t 2), none⟩, 
    ⟨some 13, .bin .lss (.t 11) (.t 12), none⟩]) (
  .cond (.t 13) (.skip) (.exit 0))) (
  .block 1 (.seq (.region [
    ⟨some 7, .move false (.c (.int .i64 (-1))), none⟩]) (
  .seq (.seq (.region [
    ⟨some 14, .move false (.t 0), none⟩, 
    ⟨some 15, .move false (.t 1), none⟩, 
    ⟨some 16, .move false (.t 1), none⟩, 
    ⟨some 17, .len (.t 16), none⟩, 
    ⟨some 18, .bin .sub (.t 17) (.c (.int .i64 1)), none⟩, 
    ⟨some 19, .iaddr 1 (.t 15) (.t 18), none⟩, 
    ⟨some 20, .load 2 false 1 (.t 19), none⟩, 
    ⟨some 21, .iaddr 1 (.t 14) (.t 20), none⟩, 
    ⟨some 22, .load 2 false 1 (.t 21), none⟩, 
    ⟨some 23, .len (.t 22), none⟩, 
    ⟨some 24, .move false (.c (.int .i64 0)), none⟩]) (
  .block 2 (.loop (.seq (.region [
    ⟨some 25, .bin .lss (.t 24) (.t 23), none⟩]) (
  .seq (.cond (.t 25) (.skip) (.exit 2)) (
  .seq (.block 3 (.seq (.region [
    ⟨some 26, .iaddr 1 (.t 22) (.t 24), none⟩, 
    ⟨some 27, .load 2 false 1 (.t 26), none⟩, 
    ⟨some 9, .move false (.t 27), none⟩]) (
  .seq (.region [
    ⟨some 28, .move false (.t 7), none⟩, 
    ⟨some 29, .bin .lss (.t 28) (.c (.int .i64 0)), none⟩, 
    ⟨some 30, .move false (.t 29), none⟩, 
    ⟨some 31, .move false (.t 9), (some (30, false))⟩, 
    ⟨some 32, .move false (.t 7), (some (30, false))⟩, 
    ⟨some 33, .bin .lss (.t 31) (.t 32), (some (30, false))⟩, 
    ⟨some 34, .pick (.t 30) (.c (.bool true)) (.t 33), none⟩, 
    ⟨some 35, .move false (.t 34), none⟩, 
    ⟨some 36, .move false (.t 0), (some (35, true))⟩, 
    ⟨some 37, .move false (.t 9), (some (35, true))⟩, 
    ⟨some 38, .move false (.t 1), (some (35, true))⟩, 
    ⟨some 39, .iaddr 1 (.t 38) (.c (.int .i64 0)), (some (35, true))⟩, 
    ⟨some 40, .load 2 false 1 (.t 39), (some (35, true))⟩, 
    ⟨some 41, .call true F.gantlaw5_steps [(.t 36), (.t 37), (.t 40)], (some (35, true))⟩, 
    ⟨some 42, .move false (.t 2), (some (35, true))⟩, 
    ⟨some 43, .move false (.t 1), (some (35, true))⟩, 
    ⟨some 44, .len (.t 43), (some (35, true))⟩, 
    ⟨some 45, .bin .sub (.t 42) (.t 44), (some (35, true))⟩, 
    ⟨some 46, .bin .eql (.t 41) (.t 45), (some (35, true))⟩, 
    ⟨some 47, .pick (.t 35) (.t 46) (.c (.bool false)), none⟩]) (
  .cond (.t 47) (.region [
    ⟨some 48, .move false (.t 9), none⟩, 
    ⟨some 7, .move false (.t 48), none⟩]) (.skip))))) (
  .region [
    ⟨some 49, .bin .add (.t 24) (.c (.int .i64 1)), none⟩, 
    ⟨some 24, .move false (.t 49), none⟩]))))))) (
  .seq (.seq (.region [
    ⟨some 50, .move false (.t 7), none⟩, 
    ⟨some 51, .bin .lss (.t 50) (.c (.int .i64 0)), none⟩]) (
  .cond (.t 51) (.seq (.region [
    ⟨some 6, .move false (.c (.lst .nil [])), none⟩]) (
  .ret)) (.skip))) (
  .region [
    ⟨some 52, .move true (.t 1), none⟩, 
    ⟨some 53, .move false (.t 7), none⟩, 
    ⟨some 54, .buildS false 1 [(.t 53)], none⟩, 
    ⟨some 55, .hop (.appendR 1 8 (.t 52) (.t 54)), none⟩, 
    ⟨some 1, .move true (.t 55), none⟩])))))))) (
  .seq (.seq (.drawn [0, 1, 2, 3, 4, 5, 6, 7, 8, 9, 10, 11, 12] [0, 0, 0, 4, 12, 30, 62, 127, 255, 0, 512, 1536, 4095] [
    ⟨some 56, .move false (.t 0), none⟩, 
    ⟨some 57, .move false (.t 1), none⟩, 
    ⟨some 58, .move false (.t 1), none⟩, 
    ⟨some 59, .len (.t 58), none⟩, 
    ⟨some 60, .bin .sub (.t 59) (.c (.int .i64 1)), none⟩, 
    ⟨some 61, .iaddr 1 (.t 57) (.t 60), none⟩, 
    ⟨some 62, .load 2 false 1 (.t 61), none⟩, 
    ⟨some 63, .iaddr 1 (.t 56) (.t 62), none⟩, 
    ⟨some 64, .load 2 false 1 (.t 63), none⟩, 
    ⟨some 65, .move false (.t 1), none⟩, 
    ⟨some 66, .iaddr 1 (.t 65) (.c (.int .i64 0)), none⟩, 
    ⟨some 67, .load 2 false 1 (.t 66), none⟩, 
    ⟨some 68, .hop (.callp F.slices_Contains_int [(.t 64), (.t 67)]), none⟩]) (
  .cond (.t 68) (.seq (.region [
    ⟨some 69, .move false (.t 1), none⟩, 
    ⟨some 6, .move false (.t 69), none⟩]) (
  .own 6 false 1 (.grab 6 (.ret)))) (.skip))) (
  .seq (.region [
    ⟨some 6, .move false (.c (.lst .nil [])), none⟩]) (
  .ret))))
def R.gantlaw5_wayBack : List ARes := [.t 6]
set_option maxRecDepth 100000 in
theorem K.gantlaw5_wayBack : ckFun Try.prog Try.f175 C.gantlaw5_wayBack R.gantlaw5_wayBack = true := by kernel_rfl
/-- gantry/gantlaw5.steps -/
def C.gantlaw5_steps : ACode :=
  .seq (.region [
    ⟨some 6, .move false (.c (.int .i64 0)), none⟩]) (
  .seq (.region [
    ⟨some 15, .buildS false 1 [], none⟩, 
    ⟨some 7, .move true (.t 15), none⟩]) (
  .seq (.seq (.region [
    ⟨some 16, .move false (.t 0), none⟩, 
    ⟨some 17, .len (.t 16), none⟩, 
    ⟨some 18, .move false (.c (.int .i64 0)), none⟩]) (
  .block 0 (.loop (.seq (.region [
    ⟨some 19, .bin .lss (.t 18) (.t 17), none⟩]) (
  .seq (.cond (.t 19) (.skip) (.exit 0)) (
  .seq (.block 1 (.seq (.region [
    ⟨some 20, .move false (.t 18), none⟩, 
    ⟨some 8, .move false (.t 20), none⟩]) (
  .region [
    ⟨some 21, .move true (.t 7), none⟩, 
    ⟨some 22, .move false (.t 8), none⟩, 
    ⟨some 23, .move false (.t 1), none⟩, 
    ⟨some 24, .bin .eql (.t 22) (.t 23), none⟩, 
    ⟨some 25, .buildS false 1 [(.t 24)], none⟩, 
    ⟨some 26, .append 1 1 (.t 21) (.t 25), none⟩, 
    ⟨some 7, .move true (.t 26), none⟩]))) (
  .region [
    ⟨some 27, .bin .add (.t 18) (.c (.int .i64 1)), none⟩, 
    ⟨some 18, .move false (.t 27), none⟩]))))))) (
  .seq (.seq (.region [
    ⟨some 9, .move false (.c (.int .i64 1)), none⟩]) (
  .block 2 (.loop (.seq (.seq (.region [
    ⟨some 28, .move false (.t 9), none⟩, 
    ⟨some 29, .move false (.t 0), none⟩, 
    ⟨some 30, .len (.t 29), none⟩, 
    ⟨some 31, .bin .leq (.t 28) (.t 30), none⟩]) (
  .cond (.t 31) (.skip) (.exit 2))) (
  .seq (.block 3 (.seq (.region [
    ⟨some 34, .move false (.t 0), none⟩, 
    ⟨some 35, .len (.t 34), none⟩, 
    ⟨some 36, .mkslice 1 1 true (.bool false) (.t 35), none⟩, 
    ⟨some 10, .move true (.t 36), none⟩]) (
  .seq (.seq (.thaw 10 (.region [
    ⟨some 37, .move false (.t 7), none⟩, 
    ⟨some 38, .len (.t 37), none⟩, 
    ⟨some 39, .move false (.c (.int .i64 0)), none⟩])) (
  .block 4 (.loop (.seq (.region [
    ⟨some 40, .bin .lss (.t 39) (.t 38), none⟩]) (
  .seq (.cond (.t 40) (.skip) (.exit 4)) (
  .seq (.block 5 (.seq (.region [
    ⟨some 41, .move false (.t 39), none⟩, 
    ⟨some 42, .iaddr 1 (.t 37) (.t 39), none⟩, 
    ⟨some 43, .load 2 false 1 (.t 42), none⟩, 
    ⟨some 11, .move false (.t 41), none⟩, 
    ⟨some 12, .move false (.t 43), none⟩]) (
  .seq (.region [
    ⟨some 44, .move false (.t 12), none⟩]) (
  .cond (.t 44) (.seq (.region [
    ⟨some 45, .move false (.t 0), none⟩, 
    ⟨some 46, .move false (.t 11), none⟩, 
    ⟨some 47, .iaddr 1 (.t 45) (.t 46), none⟩, 
    ⟨some 48, .load 2 false 1 (.t 47), none⟩, 
    ⟨some 49, .len (.t 48), none⟩, 
    ⟨some 50, .move false (.c (.int .i64 0)), none⟩]) (
  .block 6 (.loop (.seq (.region [
    ⟨some 51, .bin .lss (.t 50) (.t 49), none⟩]) (
  .seq (.cond (.t 51) (.skip) (.exit 6)) (
  .seq (.block 7 (.seq (.region [
    ⟨some 52, .iaddr 1 (.t 48) (.t 50), none⟩, 
    ⟨some 53, .load 2 false 1 (.t 52), none⟩, 
    ⟨some 14, .move false (.t 53), none⟩]) (
  .region [
    ⟨some 54, .move false (.t 10), none⟩, 
    ⟨some 55, .move false (.t 14), none⟩, 
    ⟨some 56, .iaddr 1 (.t 54) (.t 55), none⟩, 
    ⟨none, .store 1 (.t 56) (.c (.bool true)), none⟩]))) (
  .region [
    ⟨some 57, .bin .add (.t 50) (.c (.int .i64 1)), none⟩, 
    ⟨some 50, .move false (.t 57), none⟩]))))))) (.skip))))) (
  .region [
    ⟨some 58, .bin .add (.t 39) (.c (.int .i64 1)), none⟩, 
    ⟨some 39, .move false (.t 58), none⟩]))))))) (
  .seq (.seq (.region [
    ⟨some 59, .move false (.t 10), none⟩, 
    ⟨some 60, .move false (.t 2), none⟩, 
    ⟨some 61, .iaddr 1 (.t 59) (.t 60), none⟩, 
    ⟨some 62, .load 2 false 1 (.t 61), none⟩]) (
  .cond (.t 62) (.seq (.region [
    ⟨some 63, .move false (.t 9), none⟩, 
    ⟨some 6, .move false (.t 63), none⟩]) (
  .ret)) (.skip))) (
  .own 10 false 1 (.grab 10 (.region [
    ⟨some 64, .move false (.t 10), none⟩, 
    ⟨some 7, .move false (.t 64), none⟩]))))))) (
  .region [
    ⟨some 32, .move false (.t 9), none⟩, 
    ⟨some 33, .bin .add (.t 32) (.c (.int .i64 1)), none⟩, 
    ⟨some 9, .move false (.t 33), none⟩])))))) (
  .seq (.region [
    ⟨some 6, .move false (.c (.int .i64 1000)), none⟩]) (
  .ret)))))
def R.gantlaw5_steps : List ARes := [.t 6]
set_option maxRecDepth 100000 in
theorem K.gantlaw5_steps : ckFun Try.prog Try.f201 C.gantlaw5_steps R.gantlaw5_steps = true := by kernel_rfl
end Go.Proofs.Ytpdajkbfemcdlaa
