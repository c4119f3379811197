/- Two operations change places. -/
import Derived.Test.YtpdajkbfemcdlaaGeDraw
set_option linter.unusedSimpArgs false
set_option linter.unusedVariables false
namespace Go.Ge

theorem storeV_mono {S : AState} {p : AVal} {sz : Nat} {cs : List AVal} {K K' : AState → Prop} (hm : ∀ S', K S' → K' S') (h : storeV S p sz cs K) : storeV S p sz cs K' := by
  unfold storeV at h ⊢
  split at h
  · split at h
    · exact ⟨h.1, h.2.1, hm _ h.2.2⟩
    · exact h.elim
  · split at h
    · exact ⟨h.1, h.2.1, hm _ h.2.2⟩
    · exact h.elim
  · exact h.elim
theorem astep_mono {C : CallS} (hC : CMono C) {op : AOp} {S : AState} {dst : Option Nat} {K K' : AState → Prop} (hm : ∀ S', K S' → K' S') (h : astep C op dst S K) : astep C op dst S K' := by
  unfold astep at h ⊢
  split at h
  · rename_i f hfe
    try simp only [hfe]
    exact ⟨h.1, h.2.1, hm _ h.2.2⟩
  · rename_i hfe
    try simp only [hfe]
    split at h
    · rename_i x
      cases hx : S.full x <;> rw [hx] at h <;> first | exact hm _ h | exact h.elim
    · cases dst with
      | none => exact h.elim
      | some s => exact ⟨h.1, hm _ h.2⟩
    · cases dst with
      | none => exact h.elim
      | some s => exact ⟨h.1, hm _ h.2⟩
    · cases dst with
      | none => exact h.elim
      | some s => exact ⟨h.1, hm _ h.2⟩
    · split at h
      · split at h
        · exact ⟨h.1, h.2.1, hm _ h.2.2⟩
        · exact h.elim
      · split at h
        · exact ⟨h.1, h.2.1, hm _ h.2.2⟩
        · exact h.elim
      · exact h.elim
    · exact ⟨h.1, storeV_mono hm h.2⟩
    · exact isnilV_mono (fun b hb => hm _ hb) h
    · split at h
      · exact ⟨h.1, h.2.1, h.2.2.1, hm _ h.2.2.2⟩
      · exact h.elim
    · split at h
      · exact ⟨h.1, hm _ h.2⟩
      · exact h.elim
    · split at h
      · exact ⟨h.1, h.2.1, hm _ h.2.2⟩
      · exact h.elim
    · split at h
      · exact ⟨h.1, h.2.1, h.2.2.1, h.2.2.2.1, hm _ h.2.2.2.2⟩
      · exact h.elim
    · dsimp only at h ⊢
      exact ⟨h.1, hC _ _ _ _ _ (fun r h' hk hb => hm _ (hk hb)) h.2⟩
    · dsimp only at h ⊢
      split at h
      · exact ⟨h.1, hC _ _ _ _ _ (fun r h' hk hb => hm _ (hk hb)) h.2⟩
      · exact h.elim
    · exact ⟨h.1, hm _ h.2⟩
    · exact hstep_mono hC (fun v h' _ hk hb => hm _ (hk hb)) h
    · exact h.elim
theorem aop1_mono {C : CallS} (hC : CMono C) {o : AO} {S : AState} {K K' : AState → Prop} (hm : ∀ S', K S' → K' S') (h : aop1 C o S K) : aop1 C o S K' := by
  unfold aop1 at h ⊢
  split
  · rename_i hg; simp only [hg] at h; exact astep_mono hC hm h
  · rename_i j want hg
    simp only [hg] at h
    split at h
    · exact ⟨fun e => astep_mono hC hm (h.1 e), fun e => hm _ (h.2 e)⟩
    · exact hm _ h
    · exact h.elim

/-- The guard's slot. -/
def gsl (o : AO) : List Nat := match o.guard with | some (j, _) => [j] | none => []
def rdl (o : AO) (xs : List AOpn) : List Nat := gsl o ++ xs.flatMap ot
def dis (d : Option Nat) (l : List Nat) : Bool := match d with | some k => !l.contains k | none => true
theorem dis_ok {d : Option Nat} {l : List Nat} (h : dis d l = true) {k : Nat} (e : d = some k) : k ∉ l := by subst e; simpa [dis] using h
def dsts (a b : Option Nat) : Bool := match a, b with | some x, some y => x != y | _, _ => true
theorem dsts_ok {a b : Option Nat} (h : dsts a b = true) {k : Nat} (e : a = some k) : b ≠ some k := by
  subst e; rintro rfl; simp [dsts] at h
/-- May x and y, where x is ahead in the row, change places? -/
def cm (x y : AO) : Bool :=
  match fOps x.op, qOps x.op with
  | some xs, _ =>
    match fOps y.op, qOps y.op with
    | some ys, _ => dis x.dst (rdl y ys) && dis y.dst (rdl x xs) && dsts x.dst y.dst
    | none, some ys => dis x.dst (rdl y ys) && dis y.dst (rdl x xs) && dsts x.dst y.dst && (!isExt y.op || (qTk y.op).all (fun t => !(rdl x xs).contains t)) && (decide (ldM x.op ≤ 1) || !isCall y.op)
    | none, none => (match y.op, y.dst, y.guard with
      | .alloc true _, some s, none => !(rdl x xs).contains s && x.dst != some s
      | _, _, _ => false)
  | none, some xs => (match y.op, y.dst, y.guard with
      | .alloc true _, some s, none => !(rdl x xs).contains s && x.dst != some s
      | _, _, _ => (match x.op, x.dst, x.guard, qOps y.op with
        | .move true (.t t), some d, none, some ys => !(rdl y ys).contains t && !(rdl y ys).contains d && y.dst != some t && y.dst != some d
        | _, _, _, _ => false))
  | none, none => (match x.op, x.dst, x.guard, y.op, y.dst, y.guard with
      | .alloc true _, some s, none, .alloc true _, some s', none => s != s'
      | _, _, _, _, _, _ => false)

section
variable {C : CallS} (hC : CMono C)
include hC
/-- What a quiet operation, or one of those that look at no box, leaves alone. -/
def Same (y : AO) (S S1 : AState) : Prop := (∀ t, t ∉ qTk y.op → y.dst ≠ some t → S1.env t = S.env t) ∧ S1.boxes = S.boxes ∧ (isCall y.op = false → S1.heap = S.heap) ∧ (∀ t, y.dst ≠ some t → isExt y.op = false → rdv (S1.env t) = rdv (S.env t))
omit hC in
theorem same_put (y : AO) (S : AState) (x : AVal) : Same y S (S.put y.dst x) := ⟨fun t _ h => put_env h, put_boxes _ _ _, fun _ => put_heap _ _ _, fun t h _ => by rw [put_env h]⟩
theorem aop1_same {y : AO} {ys : List AOpn} (hy : fOps y.op = some ys ∨ qOps y.op = some ys) {S : AState} {K : AState → Prop} (h : aop1 C y S K) : aop1 C y S (fun S1 => Same y S S1 ∧ K S1) := by
  have key : ∀ {K : AState → Prop}, astep C y.op y.dst S K → astep C y.op y.dst S (fun S1 => Same y S S1 ∧ K S1) := by
    intro K h
    rcases hy with hy | hy
    · obtain ⟨f, f1, h1, _⟩ := fev_same (r := S.rd) (r1 := S.rd) (bx := S.boxes) (bx1 := S.boxes) (hp := S.heap) (hp1 := S.heap) hy (fun _ _ => rfl) (fun _ _ => rfl) (.inr rfl)
      simp only [astep, h1] at h ⊢
      exact ⟨h.1, h.2.1, same_put y S _, h.2.2⟩
    · exact q_same hC hy h
  unfold aop1 at h ⊢
  split
  · rename_i hg; simp only [hg] at h; exact key h
  · rename_i j want hg
    simp only [hg] at h
    split at h
    · exact ⟨fun e => key (h.1 e), fun e => ⟨same_put y S _, h.2 e⟩⟩
    · exact ⟨same_put y S _, h⟩
    · exact h.elim
omit hC in
theorem rdl_gs {o : AO} {xs : List AOpn} {j : Nat} {b : Bool} (h : o.guard = some (j, b)) : j ∈ rdl o xs := by simp [rdl, gsl, h]
omit hC in
theorem rdl_op {o : AO} {xs : List AOpn} {x : AOpn} (h : x ∈ xs) {d : Nat} (hd : d ∉ rdl o xs) : d ∉ ot x := by
  intro e; apply hd
  simp only [rdl, List.mem_append, List.mem_flatMap]
  exact .inr ⟨x, h, e⟩
/-- The other way round than a slot's filling. -/
theorem frame_out {y : AO} {ys : List AOpn} (hy : fOps y.op = some ys ∨ qOps y.op = some ys) {d : Nat} {v : AVal} {S : AState} {K : AState → Prop} (hd : d ∉ rdl y ys) (hdst : y.dst ≠ some d) (h : aop1 C y (tr d v id S) K) :
    aop1 C y S (fun S1 => K (tr d v id S1)) := by
  have key : ∀ {K : AState → Prop}, astep C y.op y.dst (tr d v id S) K → astep C y.op y.dst S (fun S1 => K (tr d v id S1)) := by
    intro K h
    rcases hy with hy | hy
    · obtain ⟨f, f1, h1, h2, h3⟩ := fev_same (r := (tr d v id S).rd) (r1 := S.rd) (bx := (tr d v id S).boxes) (bx1 := S.boxes) (hp := (tr d v id S).heap) (hp1 := S.heap) hy (fun x hx => (tr_rd (rdl_op hx hd)).symm) (fun _ _ => rfl) (.inr rfl)
      simp only [astep, h1, h2] at h ⊢
      obtain ⟨q1, q2⟩ := h3 h.1
      rw [q2]
      refine ⟨q1, h.2.1, ?_⟩
      rw [← tr_put hdst]; exact h.2.2
    · exact (q_frame hC hy (fun x hx => rdl_op hx hd) hdst).1 h
  unfold aop1 at h ⊢
  split
  · rename_i hg; simp only [hg] at h; exact key h
  · rename_i j want hg
    simp only [hg] at h
    have hj : j ≠ d := fun e => hd (e ▸ rdl_gs hg)
    rw [tr_env hj] at h
    split at h
    · refine ⟨fun e => key (h.1 e), fun e => ?_⟩
      have := h.2 e
      rwa [tr_put hdst] at this
    · rwa [tr_put hdst] at h
    · exact h.elim
theorem frame_in {y : AO} {ys : List AOpn} (hy : fOps y.op = some ys ∨ qOps y.op = some ys) {d : Nat} {v : AVal} {β : (Nat → Option (List AVal)) → Nat → Option (List AVal)} {S : AState} {K : AState → Prop} (hβ : SubB S.boxes (β S.boxes)) (hd : d ∉ rdl y ys) (hdst : y.dst ≠ some d)
    (h : aop1 C y S (fun S1 => K (tr d v β S1))) : aop1 C y (tr d v β S) K := by
  have key : ∀ {K : AState → Prop}, astep C y.op y.dst S (fun S1 => K (tr d v β S1)) → astep C y.op y.dst (tr d v β S) K := by
    intro K h
    rcases hy with hy | hy
    · obtain ⟨f, f1, h1, h2, h3⟩ := fev_same (r := S.rd) (r1 := (tr d v β S).rd) (bx := S.boxes) (bx1 := (tr d v β S).boxes) (hp := S.heap) (hp1 := (tr d v β S).heap) hy (fun x hx => tr_rd (rdl_op hx hd)) hβ (.inr rfl)
      simp only [astep, h1, h2] at h ⊢
      obtain ⟨q1, q2⟩ := h3 h.1
      rw [q2]
      refine ⟨q1, ?_, ?_⟩
      · have := h.2.1
        cases hv : f.v <;> rw [hv] at this <;> try trivial
        simp only [AState.live] at this ⊢
        show (β S.boxes _).isSome = true
        rw [hβ _ this]; exact this
      · rw [tr_put hdst]; exact h.2.2
    · exact (q_frame hC hy (fun x hx => rdl_op hx hd) hdst).2 h
  unfold aop1 at h ⊢
  split
  · rename_i hg; simp only [hg] at h; exact key h
  · rename_i j want hg
    simp only [hg] at h
    have hj : j ≠ d := fun e => hd (e ▸ rdl_gs hg)
    rw [tr_env hj]
    split at h
    · rename_i hb
      try simp only [hb]
      refine ⟨fun e => key (h.1 e), fun e => ?_⟩
      have := h.2 e
      rwa [← tr_put hdst] at this
    · rename_i hb
      try simp only [hb]
      rwa [← tr_put hdst] at h
    · exact h.elim
omit hC in
theorem put_tr (S : AState) (d : Nat) (v : AVal) : S.put (some d) v = tr d v id S := rfl
/-- A quiet operation and one behind it. -/
theorem swap_fq {x y : AO} {xs ys : List AOpn} (hx : fOps x.op = some xs) (hy : fOps y.op = some ys ∨ qOps y.op = some ys) {S : AState} {K : AState → Prop}
    (h1 : dis x.dst (rdl y ys) = true) (h2 : dis y.dst (rdl x xs) = true) (h3 : dsts x.dst y.dst = true) (h4 : isExt y.op = false ∨ ∀ t ∈ qTk y.op, t ∉ rdl x xs) (h5 : ldM x.op ≤ 1 ∨ isCall y.op = false)
    (h : aop1 C x S (fun S1 => aop1 C y S1 K)) : aop1 C y S (fun S1 => aop1 C x S1 K) := by
  have hrd : ∀ S1, Same y S S1 → ∀ t, t ∈ rdl x xs → rdv (S1.env t) = rdv (S.env t) := fun S1 hs t ht => h4.elim (fun e => hs.2.2.2 t (fun e => dis_ok h2 e ht) e) (fun h4 => by rw [hs.1 t (fun e => h4 t e ht) (fun e => dis_ok h2 e ht)])
  have hgd : ∀ S1, Same y S S1 → ∀ t b, t ∈ rdl x xs → S.env t = .bool b → S1.env t = .bool b := by
    intro S1 hs t b ht hb
    have := hrd S1 hs t ht
    rw [hb] at this
    cases hq : S1.env t <;> rw [hq] at this <;> try (simp [rdv, rd1, rdc] at this; done)
    · simpa [rdv, rd1, rdc] using this
    · rename_i o xs; cases o <;> simp [rdv, rd1, rdc] at this
  have hgu : ∀ S1, Same y S S1 → ∀ t, t ∈ rdl x xs → S.env t = .tup [] → S1.env t = .tup [] := by
    intro S1 hs t ht hb
    have := hrd S1 hs t ht
    rw [hb] at this
    cases hq : S1.env t <;> rw [hq] at this <;> try (simp [rdv, rd1, rdc] at this; done)
    all_goals first
      | (simpa [rdv] using this; done)
      | (rename_i o xs; cases o <;> simp [rdv, rd1, rdc] at this; done)
  have hout : ∀ v, aop1 C y (S.put x.dst v) K → aop1 C y S (fun S1 => K (S1.put x.dst v)) := by
    intro v h
    cases hd : x.dst with
    | none => rw [hd] at h; exact h
    | some d =>
      rw [hd] at h
      exact frame_out hC hy (dis_ok h1 hd) (dsts_ok h3 hd) h
  have key : astep C x.op x.dst S (fun S1 => aop1 C y S1 K) → aop1 C y S (fun S1 => Same y S S1 ∧ astep C x.op x.dst S1 K) := by
    intro h
    obtain ⟨f, _, hf, _⟩ := fev_same (r := S.rd) (r1 := S.rd) (bx := S.boxes) (bx1 := S.boxes) (hp := S.heap) (hp1 := S.heap) hx (fun _ _ => rfl) (fun _ _ => rfl) (.inr rfl)
    simp only [astep, hf] at h
    obtain ⟨c1, c2, c3⟩ := h
    refine aop1_mono hC ?_ (aop1_same hC hy (hout _ c3))
    rintro S1 ⟨hs, hk⟩
    refine ⟨hs, ?_⟩
    obtain ⟨f', f1, q1, q2, q3⟩ := fev_same (r := S.rd) (r1 := S1.rd) (bx := S.boxes) (bx1 := S1.boxes) (hp := S.heap) (hp1 := S1.heap) hx (fun z hz => by
      rw [rd_full, rd_full]
      cases z with
      | c _ => rfl
      | t m =>
        refine hrd S1 hs m ?_
        simp only [rdl, List.mem_append, List.mem_flatMap]
        exact .inr ⟨_, hz, by simp [ot]⟩) (fun s _ => by rw [hs.2.1]) (h5.imp id fun e => hs.2.2.1 e)
    rw [hf] at q1; cases q1
    obtain ⟨r1, r2⟩ := q3 c1
    simp only [astep, q2]
    rw [r2]
    refine ⟨r1, ?_, hk⟩
    cases hv : f.v <;> rw [hv] at c2 <;> try trivial
    simp only [AState.live] at c2 ⊢
    rw [hs.2.1]; exact c2
  unfold aop1 at h
  split at h
  · rename_i hg
    refine aop1_mono hC ?_ (key h)
    rintro S1 ⟨_, hk⟩
    simp only [aop1, hg]; exact hk
  · rename_i j want hg
    split at h
    · rename_i b hb
      by_cases e : b = want
      · refine aop1_mono hC ?_ (key (h.1 e))
        rintro S1 ⟨hs, hk⟩
        simp only [aop1, hg, hgd S1 hs j b (rdl_gs hg) hb]
        exact ⟨fun _ => hk, fun e2 => absurd e e2⟩
      · refine aop1_mono hC ?_ (aop1_same hC hy (hout _ (h.2 e)))
        rintro S1 ⟨hs, hk⟩
        simp only [aop1, hg, hgd S1 hs j b (rdl_gs hg) hb]
        exact ⟨fun e2 => absurd e2 e, fun _ => hk⟩
    · rename_i hb
      refine aop1_mono hC ?_ (aop1_same hC hy (hout _ h))
      rintro S1 ⟨hs, hk⟩
      simp only [aop1, hg, hgu S1 hs j (rdl_gs hg) hb]
      exact hk
    · exact h.elim
/-- What is taken out of a slot, and an operation that looks elsewhere. -/
theorem swap_tq {x y : AO} {ys : List AOpn} {t d : Nat} (hx : x.op = .move true (.t t)) (hxd : x.dst = some d) (hxg : x.guard = none) (hy : qOps y.op = some ys) {S : AState} {K : AState → Prop}
    (h1 : t ∉ rdl y ys) (h2 : d ∉ rdl y ys) (h3 : y.dst ≠ some t) (h4 : y.dst ≠ some d) (h5 : t ∉ qTk y.op) (h : aop1 C x S (fun S1 => aop1 C y S1 K)) : aop1 C y S (fun S1 => aop1 C x S1 K) := by
  have hx1 : ∀ {S : AState} {K : AState → Prop}, aop1 C x S K ↔ (∀ vs, S.env t ≠ .tup vs) ∧ K (tr d (S.env t) id (tr t (remV (S.env t)) id S)) := by
    intro S K
    simp only [aop1, hxg, hx, hxd, astep, fev, AState.full]
    constructor
    · intro h
      refine ⟨fun vs e => ?_, ?_⟩
      · rw [e] at h; exact h
      · cases hf : S.env t <;> rw [hf] at h <;> first | exact h.elim | (simp only [AState.takeT, AState.set, hf] at h; exact h)
    · rintro ⟨h1, h2⟩
      cases hf : S.env t <;> rw [hf] at h2 <;> first | exact absurd hf (h1 _) | (simp only [AState.takeT, AState.set, hf]; exact h2)
  rw [hx1] at h
  obtain ⟨c1, c2⟩ := h
  have := frame_out hC (.inr hy) h2 h4 c2
  have := frame_out hC (.inr hy) h1 h3 this
  refine aop1_mono hC ?_ (aop1_same hC (.inr hy) this)
  rintro S1 ⟨hs, hk⟩
  rw [hx1]
  have e := hs.1 t h5 h3
  rw [e]
  exact ⟨c1, hk⟩
end
end Go.Ge
