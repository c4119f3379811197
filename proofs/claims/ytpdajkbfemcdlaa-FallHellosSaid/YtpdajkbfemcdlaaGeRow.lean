/- A row whose order is drawn. -/
import Derived.Test.YtpdajkbfemcdlaaGeSwap
import Derived.Orders
set_option linter.unusedSimpArgs false
set_option linter.unusedVariables false
namespace Go.Ge
section
variable {C : CallS}

/-! ### New boxes change places -/
def alB (s : Nat) (zs : List AVal) : (Nat → Option (List AVal)) → Nat → Option (List AVal) := fun b t => if t = s then some zs else b t
theorem drop_id {S : AState} (h : WF S) {s : Nat} (hs : S.boxes s = none) : S.drop s = S := by
  cases S with
  | mk env boxes heap =>
    simp only [AState.drop, AState.mk.injEq, and_true]
    funext t
    cases hv : env t <;> simp only []
    rename_i q off
    split
    · rename_i e; subst e
      have h2 : (boxes q).isSome = true := h t q off hv
      have hs2 : boxes q = none := hs
      rw [hs2] at h2; cases h2
    · rfl
theorem alloc_tr {S : AState} (h : WF S) {s : Nat} (hs : S.boxes s = none) (zs : List AVal) : ((S.drop s).setBox s (some zs)).set s (.box s 0) = tr s (.box s 0) (alB s zs) S := by
  rw [drop_id h hs]; rfl
theorem subB_al {b : Nat → Option (List AVal)} {s : Nat} (hs : b s = none) (zs : List AVal) : SubB b (alB s zs b) := by
  intro t ht
  have : t ≠ s := by rintro rfl; rw [hs] at ht; cases ht
  simp [alB, this]
theorem swap_al (hC : CMono C) {x y : AO} {xs : List AOpn} (hx : fOps x.op = some xs ∨ qOps x.op = some xs) {s : Nat} {zs : List AVal} (hy : y.op = .alloc true zs) (hyd : y.dst = some s) (hyg : y.guard = none) {S : AState} {K : AState → Prop}
    (hcon : ∀ z, x.op = .move true z → ∀ v, z = .c v → S.live v) (hS : WF S) (hs : S.boxes s = none) (h1 : s ∉ rdl x xs) (h2 : x.dst ≠ some s) (h : aop1 C x S (fun S1 => aop1 C y S1 K)) : aop1 C y S (fun S1 => aop1 C x S1 K) := by
  simp only [aop1, hyg, hy, hyd, astep, fev]
  refine ⟨fun _ => hs, ?_⟩
  rw [alloc_tr hS hs]
  refine frame_in hC hx (subB_al hs zs) h1 h2 ?_
  have hw : aop1 C x S (fun S1 => WF S1 ∧ Same x S S1 ∧ aop1 C y S1 K) := by
    have h' := aop1_same hC hx h
    unfold aop1 at h' ⊢
    split
    · rename_i hg; simp only [hg] at h'; exact astep_wf hC hS h' hcon
    · rename_i j want hg
      simp only [hg] at h'
      split at h'
      · exact ⟨fun e => astep_wf hC hS (h'.1 e) hcon, fun e => ⟨hS.put trivial, h'.2 e⟩⟩
      · exact ⟨hS.put trivial, h'⟩
      · exact h'.elim
  refine aop1_mono hC ?_ hw
  rintro S1 ⟨w1, w2, w3⟩
  simp only [aop1, hyg, hy, hyd, astep, fev] at w3
  have hs1 : S1.boxes s = none := by rw [w2.2.1]; exact hs
  rw [alloc_tr w1 hs1] at w3
  exact w3.2
theorem swap_aa {x y : AO} {s s' : Nat} {zs zs' : List AVal} (hx : x.op = .alloc true zs) (hxd : x.dst = some s) (hxg : x.guard = none) (hy : y.op = .alloc true zs') (hyd : y.dst = some s') (hyg : y.guard = none) (hne : s ≠ s') {S : AState} {K : AState → Prop}
    (hS : WF S) (hs : S.boxes s' = none) (h : aop1 C x S (fun S1 => aop1 C y S1 K)) : aop1 C y S (fun S1 => aop1 C x S1 K) := by
  simp only [aop1, hyg, hy, hyd, hxg, hx, hxd, astep, fev] at h ⊢
  obtain ⟨c1, c2, c3⟩ := h
  have hs0 : S.boxes s = none := c1 trivial
  have w1 : WF (tr s (.box s 0) (alB s zs) S) := by
    have := ((hS.drop s).setBox s zs).set (k := s) (x := .box s 0) (by simp [AState.live, AState.setBox])
    rwa [alloc_tr hS hs0] at this
  have w2 : WF (tr s' (.box s' 0) (alB s' zs') S) := by
    have := ((hS.drop s').setBox s' zs').set (k := s') (x := .box s' 0) (by simp [AState.live, AState.setBox])
    rwa [alloc_tr hS hs] at this
  rw [alloc_tr hS hs0, alloc_tr w1 (by simp [tr, alB, hne.symm, hs])] at c3
  refine ⟨fun _ => hs, fun _ => ?_, ?_⟩
  · rw [alloc_tr hS hs]; simp [tr, alB, hne, hs0]
  · rw [alloc_tr hS hs, alloc_tr w2 (by simp [tr, alB, hne, hs0])]
    have : tr s (.box s 0) (alB s zs) (tr s' (.box s' 0) (alB s' zs') S) = tr s' (.box s' 0) (alB s' zs') (tr s (.box s 0) (alB s zs) S) := by
      simp only [tr, AState.mk.injEq, and_true]
      constructor
      · funext t
        by_cases e1 : t = s
        · subst e1; simp [hne]
        · simp [e1]
      · funext t
        simp only [alB]
        by_cases e1 : t = s
        · subst e1; simp [hne]
        · simp [e1]
    rw [this]; exact c3
/-- No constant is a box's address. -/
def conOK (o : AO) : Prop := ∀ z, o.op = .move true z → ∀ v, z = .c v → noBox v = true
/-- Two operations that may change places do. -/
theorem cm_swap (hC : CMono C) {x y : AO} (h : cm x y = true) {S : AState} {K : AState → Prop} (hcon : conOK x) (hS : WF S) (hs : ∀ s ∈ alS [y], S.boxes s = none) (hk : aop1 C x S (fun S1 => aop1 C y S1 K)) : aop1 C y S (fun S1 => aop1 C x S1 K) := by
  have hcon' : ∀ z, x.op = .move true z → ∀ v, z = .c v → S.live v := fun z h1 v h2 => live_noBox (hcon z h1 v h2)
  unfold cm at h
  split at h
  · rename_i xs _ hx
    split at h
    · rename_i ys _ hy
      simp only [Bool.and_eq_true] at h
      refine swap_fq hC hx (.inl hy) h.1.1 h.1.2 h.2 (.inl ?_) (.inr ?_) hk
      · cases hq : y.op <;> rw [hq] at hy <;> simp only [fOps, reduceCtorEq] at hy <;> rfl
      · cases hq : y.op <;> rw [hq] at hy <;> simp only [fOps, reduceCtorEq] at hy <;> rfl
    · rename_i ys _ hy
      simp only [Bool.and_eq_true, List.all_eq_true, Bool.not_eq_true', Bool.or_eq_true, decide_eq_true_eq] at h
      obtain ⟨⟨⟨⟨q1, q2⟩, q3⟩, q4⟩, q5⟩ := h
      exact swap_fq hC hx (.inr hy) q1 q2 q3 (q4.imp id fun q4 t ht => by simpa using q4 t ht) q5 hk
    · split at h
      · rename_i zs s h1 h2 h3
        simp only [Bool.and_eq_true, Bool.not_eq_true', bne_iff_ne] at h
        exact swap_al hC (.inl hx) h1 h2 h3 hcon' hS (hs s (by simp [alS, h1, h2])) (by simpa using h.1) h.2 hk
      · cases h
  · rename_i xs _ hx
    split at h
    · rename_i zs s h1 h2 h3
      simp only [Bool.and_eq_true, Bool.not_eq_true', bne_iff_ne] at h
      exact swap_al hC (.inr hx) h1 h2 h3 hcon' hS (hs s (by simp [alS, h1, h2])) (by simpa using h.1) h.2 hk
    · split at h
      · rename_i t d ys h1 h2 h3 hy
        simp only [Bool.and_eq_true, Bool.not_eq_true', bne_iff_ne] at h
        obtain ⟨⟨⟨q1, q2⟩, q3⟩, q4⟩ := h
        have q1 : t ∉ rdl y ys := by simpa using q1
        refine swap_tq hC h1 h2 h3 hy q1 (by simpa using q2) q3 q4 (fun e => q1 ?_) hk
        simp only [rdl, List.mem_append, List.mem_flatMap]
        right
        cases hq : y.op <;> rw [hq] at hy e <;> simp only [qOps, qTk, Option.some.injEq, reduceCtorEq, List.not_mem_nil] at hy e
        · rename_i tk z
          cases tk <;> simp only [Option.some.injEq, reduceCtorEq, List.not_mem_nil] at hy e
          subst hy; exact ⟨z, by simp, e⟩
        · subst hy; simp only [List.mem_singleton] at e; subst e; exact ⟨.t t, by simp, by simp [ot]⟩
        · subst hy; simp only [List.mem_singleton] at e; subst e; exact ⟨.t t, by simp, by simp [ot]⟩
        · subst hy; exact ⟨_, by simp, e⟩
      · cases h
  · split at h
    · rename_i a1 s a2 s' h1 h2 h3 h4 h5 h6
      simp only [bne_iff_ne] at h
      exact swap_aa h1 h2 h3 h4 h5 h6 h hS (hs s' (by simp [alS, h4, h5])) hk
    · cases h
/-! ### Boxes that are not there do not come by themselves -/
def NoneK (dst : Option Nat) (S S1 : AState) : Prop := ∀ s, dst ≠ some s → S.boxes s = none → S1.boxes s = none
theorem NoneK.put {dst d : Option Nat} {S S1 : AState} {x : AVal} (h : NoneK d S S1) : NoneK d S (S1.put dst x) := by
  intro s h1 h2; rw [put_boxes]; exact h s h1 h2
theorem NoneK.refl (d : Option Nat) (S : AState) : NoneK d S S := fun _ _ h => h
theorem NoneK.take {d : Option Nat} {S : AState} (x : AOpn) : NoneK d S (S.takeT x) := by
  intro s h1 h2; rw [take_boxes]; exact h2
theorem NoneK.box {S S1 : AState} {s : Nat} {cs : List AVal} {x : AVal} (h : NoneK (some s) S S1) : NoneK (some s) S (((S1.drop s).setBox s (some cs)).set s x) := by
  intro q h1 h2
  have : q ≠ s := fun e => h1 (by rw [e])
  simp only [AState.set, AState.setBox, AState.drop, if_neg this]
  exact h q h1 h2
theorem NoneK.setBox {d : Option Nat} {S S1 : AState} {s : Nat} {cs old : List AVal} (h : NoneK d S S1) (ho : S1.boxes s = some old) (he : S1.boxes = S.boxes) : NoneK d S (S1.setBox s (some cs)) := by
  intro q h1 h2
  have : q ≠ s := by rintro rfl; rw [he, h2] at ho; cases ho
  simp only [AState.setBox, if_neg this]
  exact h q h1 h2
theorem NoneK.prom {d : Option Nat} : ∀ (xs : List AOpn) {S S1 : AState}, NoneK d S S1 → NoneK d S (S1.promAll xs)
  | [], S, S1, h => h
  | .c _ :: xs, S, S1, h => NoneK.prom xs (S1 := S1) h
  | .t m :: xs, S, S1, h => by
    simp only [AState.promAll]
    split
    · refine NoneK.prom xs ?_
      intro q h1 h2
      unfold AState.promote
      split
      · simp only; split
        · rfl
        · exact h q h1 h2
      · exact h q h1 h2
    · exact NoneK.prom xs h
theorem astep_none (hC : CMono C) {op : AOp} {S : AState} {dst : Option Nat} {K : AState → Prop} (h : astep C op dst S K) : astep C op dst S (fun S' => NoneK dst S S' ∧ K S') := by
  unfold astep at h ⊢
  split at h
  · rename_i f hfe
    try simp only [hfe]
    exact ⟨h.1, h.2.1, (NoneK.refl _ _).put, h.2.2⟩
  · rename_i hfe
    try simp only [hfe]
    split at h
    · rename_i x
      cases hx : S.full x <;> rw [hx] at h <;> first | exact ⟨(NoneK.take x).put, h⟩ | exact h.elim
    · cases dst with
      | none => exact h.elim
      | some s => exact ⟨h.1, (NoneK.refl _ _).box, h.2⟩
    · cases dst with
      | none => exact h.elim
      | some s => exact ⟨h.1, (NoneK.take _).box, h.2⟩
    · cases dst with
      | none => exact h.elim
      | some s => exact ⟨h.1, (NoneK.refl _ _).box, h.2⟩
    · split at h
      · split at h
        · rename_i hb
          exact ⟨h.1, h.2.1, ((NoneK.refl _ _).setBox hb rfl).put, h.2.2⟩
        · exact h.elim
      · split at h
        · exact ⟨h.1, h.2.1, NoneK.put (S1 := { S with heap := _ }) (NoneK.refl _ _), h.2.2⟩
        · exact h.elim
      · exact h.elim
    · refine ⟨h.1, ?_⟩
      have h2 := h.2
      unfold storeV at h2 ⊢
      split at h2
      · split at h2
        · rename_i hb
          exact ⟨h2.1, h2.2.1, (NoneK.take _).setBox hb (take_boxes _ _), h2.2.2⟩
        · exact h2.elim
      · split at h2
        · exact ⟨h2.1, h2.2.1, fun q q1 q2 => NoneK.take _ q q1 q2, h2.2.2⟩
        · exact h2.elim
      · exact h2.elim
    · exact isnilV_mono (fun b hb => ⟨(NoneK.refl _ _).put, hb⟩) h
    · split at h
      · exact ⟨h.1, h.2.1, h.2.2.1, NoneK.put (S1 := S.set _ _) (NoneK.refl _ S), h.2.2.2⟩
      · exact h.elim
    · split at h
      · exact ⟨h.1, NoneK.put (S1 := S.set _ _) (NoneK.refl _ S), h.2⟩
      · exact h.elim
    · split at h
      · exact ⟨h.1, h.2.1, NoneK.put (S1 := S.set _ _) (NoneK.refl _ S), h.2.2⟩
      · exact h.elim
    · split at h
      · exact ⟨h.1, h.2.1, h.2.2.1, h.2.2.2.1, (NoneK.take _).put, h.2.2.2.2⟩
      · exact h.elim
    · rename_i pr f ys
      dsimp only at h ⊢
      have hp : ∀ h', NoneK dst S { (if pr then S.promAll ys else S) with heap := h' } := by
        intro h'
        cases pr
        · exact NoneK.refl _ S
        · exact NoneK.prom ys (NoneK.refl _ S)
      exact ⟨h.1, hC _ _ _ _ _ (fun r h' hk hb => ⟨(hp h').put, hk hb⟩) h.2⟩
    · rename_i pr x ys
      dsimp only at h ⊢
      have hp : ∀ h', NoneK dst S { (if pr then S.promAll ys else S) with heap := h' } := by
        intro h'
        cases pr
        · exact NoneK.refl _ S
        · exact NoneK.prom ys (NoneK.refl _ S)
      split at h
      · exact ⟨h.1, hC _ _ _ _ _ (fun r h' hk hb => ⟨(hp h').put, hk hb⟩) h.2⟩
      · exact h.elim
    · exact ⟨h.1, (NoneK.prom _ (NoneK.refl _ S)).put, h.2⟩
    · exact hstep_mono hC (fun v h' _ hk hb => ⟨NoneK.put (S1 := { S with heap := h' }) (NoneK.refl _ S), hk hb⟩) h
    · exact h.elim
theorem aop1_wn (hC : CMono C) {x : AO} {S : AState} {K : AState → Prop} (hcon : conOK x) (hS : WF S) (h : aop1 C x S K) : aop1 C x S (fun S1 => WF S1 ∧ NoneK x.dst S S1 ∧ K S1) := by
  have hcon' : ∀ z, x.op = .move true z → ∀ v, z = .c v → S.live v := fun z h1 v h2 => live_noBox (hcon z h1 v h2)
  unfold aop1 at h ⊢
  split
  · rename_i hg; simp only [hg] at h
    exact astep_wf hC hS (astep_none hC h) hcon'
  · rename_i j want hg
    simp only [hg] at h
    split at h
    · exact ⟨fun e => astep_wf hC hS (astep_none hC (h.1 e)) hcon', fun e => ⟨hS.put trivial, (NoneK.refl _ _).put, h.2 e⟩⟩
    · exact ⟨hS.put trivial, (NoneK.refl _ _).put, h⟩
    · exact h.elim
/-- An operation goes ahead of those that it may pass. -/
theorem to_front (hC : CMono C) {y : AO} {B : List AO} {K : AState → Prop} : ∀ (A : List AO) {S : AState}, (∀ x ∈ A, cm x y = true ∧ conOK x ∧ ∀ s ∈ alS [y], x.dst ≠ some s) → WF S → (∀ s ∈ alS [y], S.boxes s = none) →
    aops C (A ++ y :: B) S K → aops C (y :: (A ++ B)) S K
  | [], S, _, _, _, h => h
  | x :: A, S, hA, hS, hs, h => by
    obtain ⟨c1, c2, c3⟩ := hA x (by simp)
    rw [List.cons_append, aops_cons] at h
    rw [aops_cons]
    have h2 : aop1 C x S (fun S1 => aop1 C y S1 (fun S2 => aops C (A ++ B) S2 K)) := by
      refine aop1_mono hC ?_ (aop1_wn hC c2 hS h)
      rintro S1 ⟨w1, w2, w3⟩
      have := to_front hC A (S := S1) (fun z hz => hA z (by simp [hz])) w1 (fun s hs' => w2 s (c3 s hs') (hs s hs')) w3
      rwa [aops_cons] at this
    refine aop1_mono hC ?_ (cm_swap hC c1 c2 hS hs h2)
    intro S1 h3
    rw [List.cons_append, aops_cons]; exact h3
end
end Go.Ge
