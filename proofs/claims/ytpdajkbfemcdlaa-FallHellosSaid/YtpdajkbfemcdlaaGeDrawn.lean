/- A region whose order is drawn. -/
import Derived.Test.YtpdajkbfemcdlaaGeRow
set_option linter.unusedSimpArgs false
set_option linter.unusedVariables false
namespace Go.Ge
section
variable {P : Program} {n : Nat} {Q : Exit → Act → World → Prop}

theorem CMono_ACalls (P : Program) : CMono (ACalls P) := fun f vs h R R' hm hc => ACalls.mono hc hm
theorem wpOp_ok {S : AState} {g : Gh} {a : Act} {w : World} {ops : Array Oper} {i : Nat} {o : Oper} {ao : AO} (ho : ops[i]? = some o) (hc : ckO P n ops o ao = true) (hR : Rel n S g a w) {K : AState → Prop} {next : Act → World → Prop}
    (h : aop1 (ACalls P) ao S K) (hrest : Goes n g w K next) : wpOp P ops Q i next a w := by
  simp only [ckO, Bool.and_eq_true, beq_iff_eq] at hc
  obtain ⟨⟨⟨c1, c2⟩, c3⟩, c4⟩ := hc
  have hd : ∀ k, o.dst = some k → k < n := by
    intro k hk; rw [hk] at c2; exact of_decide_eq_true c2
  simp only [wpOp, ho]
  simp only [aop1] at h
  unfold ckGuard at c3
  split at c3
  · rename_i e1 e2
    rw [e2] at h
    simp only [Region.wanted, e1, if_true]
    exact .inl (step_ok hR c4 hd (by rw [c1]; exact h) hrest)
  · rename_i j want s want' e1 e2
    simp only [Bool.and_eq_true, beq_iff_eq, decide_eq_true_eq] at c3
    obtain ⟨⟨rfl, c5⟩, c6⟩ := c3
    rw [e2] at h
    simp only at h
    split at h
    · rename_i b hb
      have hv := hR.env s
      rw [hb] at hv
      have hv : a.tmps.getD s undef = .bool b := by simpa [RV, RV1, RVc, RI] using hv
      have hlt : s < a.tmps.size := by rw [hR.size]; exact c5
      have hget : a.tmps[s]? = some (.bool b) := by
        rw [Array.getElem?_eq_getElem hlt]
        rw [Array.getD_eq_getD_getElem?, Array.getElem?_eq_getElem hlt] at hv
        simpa using hv
      have hy : yielded ops a.tmps j = some b := by
        cases hj : ops[j]? with
        | none => rw [hj] at c6; cases c6
        | some oj =>
          rw [hj] at c6
          simp only [beq_iff_eq] at c6
          simp [yielded, hj, c6, hget]
      simp only [Region.wanted, e1, hy]
      by_cases e : b = want
      · subst e
        simp only [beq_self_eq_true, if_true]
        exact .inl (step_ok hR c4 hd (by rw [c1]; exact h.1 rfl) hrest)
      · have : (some b == some want) = false := by simpa using e
        rw [this]
        simp only [Bool.false_eq_true, if_false]
        have hk := h.2 e
        rw [← c1] at hk
        exact hrest _ g _ w hk (hR.put hd fun k _ => RV_unset) (.refl g w)
    · rename_i hb
      have hv := hR.env s
      rw [hb] at hv
      have hv := RV_unset_eq hv
      have hy : yielded ops a.tmps j = none := by
        cases hj : ops[j]? with
        | none => rw [hj] at c6; cases c6
        | some oj =>
          rw [hj] at c6
          simp only [beq_iff_eq] at c6
          rw [Array.getD_eq_getD_getElem?] at hv
          cases hg : a.tmps[s]? with
          | none => simp [yielded, hj, c6, hg]
          | some u => rw [hg] at hv; simp only [Option.getD_some] at hv; subst hv; simp [yielded, hj, c6, hg, undef]
      simp only [Region.wanted, e1, hy]
      rw [show ((none : Option Bool) == some want) = false from rfl]
      simp only [Bool.false_eq_true, if_false]
      rw [← c1] at h
      exact hrest _ g _ w h (hR.put hd fun k _ => RV_unset) (.refl g w)
    · exact h.elim
  · cases c3

/-! ### What is asked of a row whose order is drawn -/
def edges (ops : Array Oper) (i : Nat) : List Nat := match ops[i]? with | some o => (o.after.toList.filter fun e => Region.binds .any e).map (·.on) | none => []
def upM (dn : List Nat) : List Nat → Nat
  | [] => 0
  | e :: es => (1 <<< e ||| dn.getD e 0) ||| upM dn es
def clash (x y : AO) : Bool := (alS [y]).all fun s => x.dst != some s
def conB (o : AO) : Bool := match o.op with | .move true (.c v) => noBox v | _ => true
def prB (ops : Array Oper) (lk : Nat → Option AO) (dn : List Nat) (a i : Nat) : Bool :=
  match lk a, lk i with
  | some x, some y => (cm x y || (dn.getD i 0).testBit a) && clash x y && clash y x && conB x && !(edges ops a).contains i
  | _, _ => false
def pairs (p : Nat → Nat → Bool) : List Nat → Bool
  | [] => true
  | a :: l => l.all (p a) && pairs p l
def ckDraw (ops : Array Oper) (ix dn : List Nat) (l : List AO) : Bool :=
  decide (ix.length = ops.size) && decide (l.length = ops.size) && (List.range ops.size).all (fun i => ix.contains i) && decide ix.Nodup &&
  (List.range ops.size).all (fun i => (edges ops i).all (fun e => decide (e < ops.size) && e != i) && ((dn.getD i 0) ||| upM dn (edges ops i) == upM dn (edges ops i))) &&
  pairs (prB ops (look ix l) dn) ix && l.all conB
theorem upM_ok {dn : List Nat} {a : Nat} : ∀ {es : List Nat}, (upM dn es).testBit a = true → ∃ e ∈ es, e = a ∨ (dn.getD e 0).testBit a = true
  | [], h => by simp [upM] at h
  | e :: es, h => by
    simp only [upM, Nat.testBit_or, Bool.or_eq_true] at h
    rcases h with (h | h) | h
    · refine ⟨e, by simp, .inl ?_⟩
      rw [Nat.testBit_shiftLeft] at h
      simp only [Bool.and_eq_true, decide_eq_true_eq] at h
      obtain ⟨h1, h2⟩ := h
      rw [Nat.testBit_one_eq_true_iff_self_eq_zero] at h2
      omega
    · exact ⟨e, by simp, .inr h⟩
    · obtain ⟨e', h1, h2⟩ := upM_ok h
      exact ⟨e', by simp [h1], h2⟩
theorem pairs_ok {p : Nat → Nat → Bool} : ∀ {l : List Nat}, pairs p l = true → l.Pairwise (fun a b => p a b = true)
  | [], _ => .nil
  | a :: l, h => by
    simp only [pairs, Bool.and_eq_true, List.all_eq_true] at h
    exact .cons h.1 (pairs_ok h.2)
theorem conB_ok {o : AO} (h : conB o = true) : conOK o := by
  intro z h1 v h2
  subst h2
  simpa [conB, h1] using h
theorem mem_edges {ops : Array Oper} {i : Nat} {o : Oper} (ho : ops[i]? = some o) {x : Nat} : x ∈ edges ops i ↔ ∃ e ∈ o.after, Region.binds .any e = true ∧ e.on = x := by
  simp only [edges, ho, List.mem_map, List.mem_filter, Array.mem_toList_iff]
  constructor
  · rintro ⟨e, ⟨h1, h2⟩, h3⟩; exact ⟨e, h1, h2, h3⟩
  · rintro ⟨e, h1, h2, h3⟩; exact ⟨e, ⟨h1, h2⟩, h3⟩

theorem alS_append (a b : List AO) : alS (a ++ b) = alS a ++ alS b := by
  induction a with
  | nil => rfl
  | cons x a ih => simp [alS, ih]
theorem alS_mem {s : Nat} : ∀ {l : List AO}, s ∈ alS l → ∃ x ∈ l, s ∈ alS [x]
  | [], h => by cases h
  | x :: l, h => by
    have e : alS (x :: l) = alS [x] ++ alS l := alS_append [x] l
    rw [e] at h
    rcases List.mem_append.1 h with h | h
    · exact ⟨x, by simp, h⟩
    · obtain ⟨y, h1, h2⟩ := alS_mem h
      exact ⟨y, by simp [h1], h2⟩

/-- The rest of the row, in whatever order. -/
theorem draw_go {ops : Array Oper} {lk : Nat → Option AO} {dn : List Nat} {K : AState → Prop}
    (hlk : ∀ i < ops.size, ∃ o ao, ops[i]? = some o ∧ lk i = some ao ∧ ckO P n ops o ao = true ∧ conB ao = true)
    (hed : ∀ i < ops.size, ∀ e ∈ edges ops i, e < ops.size ∧ e ≠ i) (hdn : ∀ i < ops.size, ∀ a, (dn.getD i 0).testBit a = true → ∃ e ∈ edges ops i, e = a ∨ (dn.getD e 0).testBit a = true) :
    ∀ (fuel : Nat) (R : List Nat) (listed : Array Bool) {S : AState} {g : Gh} {a : Act} {w : World}, R.length = fuel → listed.size = ops.size → (∀ j < ops.size, listed.getD j true = false ↔ j ∈ R) → R.Nodup → (∀ j ∈ R, j < ops.size) →
      R.Pairwise (fun a i => prB ops lk dn a i = true) → (∀ d < ops.size, listed.getD d true = true → ∀ a < ops.size, (dn.getD d 0).testBit a = true → listed.getD a true = true) →
      WF S → (∀ s ∈ alS (R.filterMap lk), S.boxes s = none) → Rel n S g a w → aops (ACalls P) (R.filterMap lk) S K → Goes n g w K (Q .normal) → wpAny P .any ops Q fuel listed a w := by
  have hC := CMono_ACalls P
  intro fuel
  induction fuel with
  | zero =>
    intro R listed S g a w hlen hsz hun hnd hR hpw hinv hwf hal hRel h hn
    have : R = [] := List.eq_nil_of_length_eq_zero hlen
    subst this
    refine ⟨?_, hn _ _ _ _ h hRel (.refl g w)⟩
    apply List.eq_nil_iff_forall_not_mem.2
    intro j hj
    obtain ⟨h1, o, h2, _⟩ := mem_ready.1 hj
    have hlt : j < ops.size := (Array.getElem?_eq_some_iff.1 h2).1
    exact absurd ((hun j hlt).1 h1) (by simp)
  | succ fuel ih =>
    intro R listed S g a w hlen hsz hun hnd hR hpw hinv hwf hal hRel h hn
    have hlist : ∀ e, e < ops.size → e ∉ R → listed.getD e false = true := by
      intro e he hne
      cases hq : listed.getD e true with
      | false => exact absurd ((hun e he).1 hq) hne
      | true =>
        have : e < listed.size := by omega
        simp [this] at hq ⊢; exact hq
    refine ⟨fun hnil => ?_, fun i hi => ?_⟩
    · -- somebody is ready
      exfalso
      match R, hlen with
      | r :: R', _ =>
        have hr := hR r (by simp)
        have hmem : r ∈ Region.ready .any ops listed := by
          rw [mem_ready]
          obtain ⟨o, ao, ho, _⟩ := hlk r hr
          refine ⟨(hun r hr).2 (by simp), o, ho, fun e he hb => ?_⟩
          have hee : e.on ∈ edges ops r := (mem_edges ho).2 ⟨e, he, hb, rfl⟩
          obtain ⟨q1, q2⟩ := hed r hr _ hee
          refine hlist _ q1 ?_
          intro hm
          rcases List.mem_cons.1 hm with e1 | hm
          · exact q2 e1
          · have := (List.pairwise_cons.1 hpw).1 _ hm
            unfold prB at this
            split at this
            · simp only [Bool.and_eq_true, Bool.not_eq_true'] at this
              have h5 := this.2
              simp [hee] at h5
            · cases this
        rw [hnil] at hmem; cases hmem
    · -- this one is drawn
      obtain ⟨h1, o, ho, hall⟩ := mem_ready.1 hi
      have hlt : i < ops.size := (Array.getElem?_eq_some_iff.1 ho).1
      have hiR := (hun i hlt).1 h1
      obtain ⟨A, B, rfl⟩ := List.append_of_mem hiR
      obtain ⟨o', ao, ho', hao, hck, hcb⟩ := hlk i hlt
      rw [ho] at ho'; cases ho'
      have hfm : (A ++ i :: B).filterMap lk = A.filterMap lk ++ ao :: B.filterMap lk := by simp [List.filterMap_append, List.filterMap_cons, hao]
      rw [hfm] at h hal
      have hed' : ∀ e ∈ edges ops i, listed.getD e true = true := by
        intro e he
        obtain ⟨e', q1, q2, rfl⟩ := (mem_edges ho).1 he
        have := hall e' q1 q2
        have hlt2 : e'.on < listed.size := by have := (hed i hlt _ he).1; omega
        simp [hlt2] at this ⊢; exact this
      have hpwA : ∀ x ∈ A, prB ops lk dn x i = true := fun x hx => (List.pairwise_append.1 hpw).2.2 x hx i (by simp)
      have hpwB : ∀ x ∈ B, prB ops lk dn i x = true := fun x hx => (List.pairwise_cons.1 (List.pairwise_append.1 hpw).2.1).1 x hx
      have hcl : ∀ j z, (j ∈ A ∨ j ∈ B) → lk j = some z → clash z ao = true ∧ clash ao z = true := by
        intro j z hj hz
        rcases hj with hj | hj
        · have := hpwA j hj
          simp only [prB, hz, hao, Bool.and_eq_true] at this
          exact ⟨this.1.1.1.2, this.1.1.2⟩
        · have := hpwB j hj
          simp only [prB, hz, hao, Bool.and_eq_true] at this
          exact ⟨this.1.1.2, this.1.1.1.2⟩
      have hcl' : ∀ {x y : AO} {s : Nat}, clash x y = true → s ∈ alS [y] → x.dst ≠ some s := by
        intro x y s hc hs e
        have := List.all_eq_true.1 hc s hs
        rw [e] at this; simp at this
      have hAnot : ∀ x ∈ A, (dn.getD i 0).testBit x = false := by
        intro x hx
        cases hq : (dn.getD i 0).testBit x with
        | false => rfl
        | true =>
          exfalso
          have hxl : x < ops.size := hR x (by simp [hx])
          have hxu := (hun x hxl).2 (by simp [hx])
          obtain ⟨e, q1, q2⟩ := hdn i hlt x hq
          have hel := hed' e q1
          rcases q2 with rfl | q2
          · rw [hel] at hxu; cases hxu
          · have := hinv e (hed i hlt e q1).1 hel x hxl q2
            rw [this] at hxu; cases hxu
      have hfront := to_front hC (y := ao) (B := B.filterMap lk) (K := K) (A.filterMap lk) (S := S) (fun z hz => by
        obtain ⟨x, hx, hxz⟩ := List.mem_filterMap.1 hz
        have hp := hpwA x hx
        simp only [prB, hxz, hao, Bool.and_eq_true, Bool.or_eq_true, hAnot x hx, Bool.false_eq_true, or_false] at hp
        exact ⟨hp.1.1.1.1, conB_ok hp.1.2, fun s hs => hcl' hp.1.1.1.2 hs⟩) hwf (fun s hs => hal s (by rw [alS_append]; exact List.mem_append.2 (.inr (by
          have e : alS (ao :: B.filterMap lk) = alS [ao] ++ alS (B.filterMap lk) := alS_append [ao] _
          rw [e]; exact List.mem_append.2 (.inl hs))))) h
      rw [aops_cons] at hfront
      refine wpOp_ok ho hck hRel (aop1_wn hC (conB_ok hcb) hwf hfront) ?_
      rintro S1 g1 a1 w1 ⟨k1, k2, k3⟩ hR1 hE
      have hnd' : (A ++ B).Nodup := (hnd.sublist (by simp))
      have hni : i ∉ A ++ B := by
        rw [List.nodup_append] at hnd
        intro hm
        rcases List.mem_append.1 hm with hm | hm
        · exact hnd.2.2 i hm i (by simp) rfl
        · have := hnd.2.1; simp only [List.nodup_cons] at this; exact this.1 hm
      have hlen1 : listed.size = ops.size := hsz
      have hset : ∀ j, (listed.setIfInBounds i true).getD j true = if j = i then true else listed.getD j true := by
        intro j
        by_cases e : j = i
        · subst e
          rw [if_pos rfl]
          simp [show j < listed.size by omega]
        · rw [if_neg e]
          exact getD_set_ne true (fun e2 => e e2.symm)
      refine ih (A ++ B) (listed.setIfInBounds i true) (by simp at hlen ⊢; omega) (by simpa using hsz) (fun j hj => ?_) hnd' (fun j hj => hR j (by
        rcases List.mem_append.1 hj with hj | hj <;> simp [hj])) (hpw.sublist (by simp)) (fun d hd hdl x hx hb => ?_) k1 (fun s hs => ?_) hR1 (by rw [List.filterMap_append]; exact k3) (fun S2 g2 a2 w2 q1 q2 q3 => hn S2 g2 a2 w2 q1 q2 (hE.trans q3))
      · rw [hset]
        by_cases e : j = i
        · subst e; simp only [if_true]
          constructor
          · intro h; cases h
          · intro h; exact absurd h hni
        · rw [if_neg e, hun j hj]
          simp [e]
      · rw [hset] at hdl ⊢
        by_cases e : x = i
        · rw [if_pos e]
        · rw [if_neg e]
          by_cases e2 : d = i
          · subst e2
            obtain ⟨y, q1, q2⟩ := hdn d hd x hb
            have hel := hed' y q1
            rcases q2 with rfl | q2
            · exact hel
            · exact hinv y (hed d hlt y q1).1 hel x hx q2
          · rw [if_neg e2] at hdl
            exact hinv d hd hdl x hx hb
      · rw [List.filterMap_append] at hs
        obtain ⟨z, hz, hsz'⟩ := alS_mem hs
        have hz2 : ∃ j, (j ∈ A ∨ j ∈ B) ∧ lk j = some z := by
          rcases List.mem_append.1 hz with hz | hz <;> obtain ⟨j, hj, hjz⟩ := List.mem_filterMap.1 hz
          · exact ⟨j, .inl hj, hjz⟩
          · exact ⟨j, .inr hj, hjz⟩
        obtain ⟨j, hj, hjz⟩ := hz2
        refine k2 s (hcl' (hcl j z hj hjz).2 hsz') (hal s ?_)
        rw [alS_append] at hs ⊢
        rcases List.mem_append.1 hs with hs | hs
        · exact List.mem_append.2 (.inl hs)
        · refine List.mem_append.2 (.inr ?_)
          have e : alS (ao :: B.filterMap lk) = alS [ao] ++ alS (B.filterMap lk) := alS_append [ao] _
          rw [e]; exact List.mem_append.2 (.inr hs)
end
end Go.Ge
