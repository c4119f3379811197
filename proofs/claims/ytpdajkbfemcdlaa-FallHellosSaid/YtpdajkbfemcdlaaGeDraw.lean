/- Rows of operations whose order is drawn: what may change places. -/
import Derived.Test.YtpdajkbfemcdlaaGeWp
set_option linter.unusedSimpArgs false
set_option linter.unusedVariables false
namespace Go.Ge

def ot : AOpn → List Nat
  | .t n => [n]
  | .c _ => []
/-- The operands of a quiet operation; 'none': another kind. -/
def fOps : AOp → Option (List AOpn)
  | .move false x => some [x]
  | .pick c a b => some [c, a, b]
  | .build _ ps => some (ps.map (·.2.2))
  | .buildS _ _ ps => some ps
  | .load _ _ _ x => some [x]
  | .nilck x => some [x]
  | .un _ x => some [x]
  | .conv _ x => some [x]
  | .b2s x => some [x]
  | .s2b x => some [x]
  | .same x => some [x]
  | .faddr _ x => some [x]
  | .field _ _ _ x => some [x]
  | .ext _ x => some [x]
  | .len x => some [x]
  | .slen x => some [x]
  | .mkslice _ _ _ _ x => some [x]
  | .pnil _ x => some [x]
  | .bin _ x y => some [x, y]
  | .beq _ x y => some [x, y]
  | .eqs _ _ x y => some [x, y]
  | .iaddr _ x y => some [x, y]
  | .aaddr _ _ x y => some [x, y]
  | .idx x y => some [x, y]
  | .aidx _ _ _ x y => some [x, y]
  | .slice _ x lo hi mx => some (x :: (lo.toList ++ hi.toList ++ mx.toList))
  | .sslice x lo hi => some (x :: (lo.toList ++ hi.toList))
  | .alen _ => some []
  | .mn x ys => some (x :: ys)
  | .mx x ys => some (x :: ys)
  | .empt x => some [x]
  | .sliceA _ _ x lo hi => some (x :: (lo.toList ++ hi.toList))
  | .b2sR x => some [x]
  | .capR x => some [x]
  | .mkfq _ caps => some caps
  | _ => none
def ldM : AOp → Nat
  | .load m _ _ _ => m
  | .b2sR _ => 2
  | _ => 0
theorem buildV_congr {r r1 : AOpn → AVal} : ∀ (ps : List (Nat × Nat × AOpn)) (cs : List AVal), (∀ x ∈ ps.map (·.2.2), r x = r1 x) → buildV r cs ps = buildV r1 cs ps
  | [], _, _ => rfl
  | (off, sz, x) :: ps, cs, h => by
    have h1 : r x = r1 x := h x (by simp)
    have h2 := buildV_congr ps (fillV cs off (r1 x).cells) fun y hy => h y (by
      simp only [List.map_cons, List.mem_cons]; exact .inr hy)
    simp only [buildV, h1, h2]
theorem loV_congr {r r1 : AOpn → AVal} {o : Option AOpn} (h : ∀ x ∈ o.toList, r x = r1 x) : loV r o = loV r1 o := by
  cases o with
  | none => rfl
  | some x => simp only [loV]; rw [h x (by simp)]
theorem hiV_congr {r r1 : AOpn → AVal} {o : Option AOpn} (m : Nat) (h : ∀ x ∈ o.toList, r x = r1 x) : hiV r m o = hiV r1 m o := by
  cases o with
  | none => rfl
  | some x => simp only [hiV]; rw [h x (by simp)]
/-- The boxes that are there are as they were. -/
def SubB (bx bx1 : Nat → Option (List AVal)) : Prop := ∀ s, (bx s).isSome = true → bx1 s = bx s
theorem memV_same {bx bx1 : Nat → Option (List AVal)} {hp hp1 : List HObj} {m : Nat} {ag : Bool} {sz : Nat} {p : AVal} (hb : SubB bx bx1) (hh : m ≤ 1 ∨ hp1 = hp) (h1 : memLv p ≤ m) (hc : (memV bx hp ag sz p).c) : memV bx1 hp1 ag sz p = memV bx hp ag sz p := by
  cases p <;> try rfl
  · rename_i s off
    simp only [memV] at hc ⊢
    cases hs : bx s with
    | none => rw [hs] at hc; exact hc.elim
    | some cs => rw [hb s (by simp [hs]), hs]
  · simp only [memLv] at h1
    rw [hh.resolve_left (by omega)]
    rfl
theorem fev_same {r r1 : AOpn → AVal} {bx bx1 : Nat → Option (List AVal)} {hp hp1 : List HObj} {op : AOp} {xs : List AOpn} (ho : fOps op = some xs) (hr : ∀ x ∈ xs, r1 x = r x) (hb : SubB bx bx1) (hh : ldM op ≤ 1 ∨ hp1 = hp) :
    ∃ f f1, fev r bx hp op = some f ∧ fev r1 bx1 hp1 op = some f1 ∧ (f.c → f1.c ∧ f1.v = f.v) := by
  have hr' : ∀ x ∈ xs, r x = r1 x := fun x hx => (hr x hx).symm
  have same : ∀ f, fev r bx hp op = some f → fev r1 bx1 hp1 op = some f → ∃ f f1, fev r bx hp op = some f ∧ fev r1 bx1 hp1 op = some f1 ∧ (f.c → f1.c ∧ f1.v = f.v) :=
    fun f h1 h2 => ⟨f, f, h1, h2, fun h => ⟨h, rfl⟩⟩
  cases op <;> simp only [fOps, Option.some.injEq, reduceCtorEq] at ho <;> (try subst ho)
  case move tk x =>
    cases tk <;> simp only [Option.some.injEq, reduceCtorEq] at ho
    subst ho
    exact same _ rfl (by simp only [fev, hr x (by simp)])
  case load m ag sz x =>
    refine ⟨_, _, rfl, rfl, fun h => ?_⟩
    simp only at h ⊢
    rw [hr x (by simp), memV_same hb hh h.1 h.2]
    exact ⟨h, rfl⟩
  case build zero ps =>
    exact same _ rfl (by simp only [fev, buildV_congr ps zero hr'])
  case buildS uq sz ps =>
    refine same _ rfl ?_
    simp only [fev, Option.some.injEq, FR.mk.injEq, AVal.lst.injEq, true_and]
    refine ⟨?_, List.map_congr_left hr⟩
    congr 1
    apply propext
    constructor
    · intro h x hx; have := h x hx; rwa [hr x hx] at this
    · intro h x hx; have := h x hx; rwa [hr x hx]
  case slice sz x lo hi mx =>
    refine same _ rfl ?_
    simp only [fev, Option.some.injEq]
    have h1 := hr x (by simp)
    have h2 := loV_congr (r := r1) (r1 := r) (o := lo) (fun y hy => hr y (by simp at hy ⊢; simp [hy]))
    have h3 : ∀ m, hiV r1 m hi = hiV r m hi := fun m => hiV_congr (r := r1) (r1 := r) (o := hi) m (fun y hy => hr y (by simp at hy ⊢; simp [hy]))
    have h4 : ∀ m, mx = some m → r1 m = r m := fun m e => hr m (by simp [e])
    rw [h1]
    cases mx with
    | none =>
      cases r x <;> simp only [sliceV, h2, h3]
      · rename_i ow ys
        cases loV r lo <;> cases hiV r ys.length hi <;> rfl
      · rename_i id off len cap
        cases loV r lo <;> cases hiV r len hi <;> rfl
    | some m =>
      cases r x <;> simp only [sliceV, h2, h3]
      · rename_i ow ys
        cases loV r lo <;> cases hiV r ys.length hi <;> simp only [h4 m rfl]
      · rename_i id off len cap
        cases loV r lo <;> cases hiV r len hi <;> simp only [h4 m rfl]
  case sslice x lo hi =>
    refine same _ rfl ?_
    simp only [fev, Option.some.injEq]
    have h1 := hr x (by simp)
    have h2 := loV_congr (r := r1) (r1 := r) (o := lo) (fun y hy => hr y (by simp at hy ⊢; simp [hy]))
    have h3 : ∀ m, hiV r1 m hi = hiV r m hi := fun m => hiV_congr (r := r1) (r1 := r) (o := hi) m (fun y hy => hr y (by simp at hy ⊢; simp [hy]))
    rw [h1]
    cases r x <;> simp only [ssliceV, h2, h3]
  case sliceA m sz x lo hi =>
    refine same _ rfl ?_
    simp only [fev, Option.some.injEq]
    have h1 := hr x (by simp)
    have h2 := loV_congr (r := r1) (r1 := r) (o := lo) (fun y hy => hr y (by simp at hy ⊢; simp [hy]))
    have h3 : ∀ m, hiV r1 m hi = hiV r m hi := fun m => hiV_congr (r := r1) (r1 := r) (o := hi) m (fun y hy => hr y (by simp at hy ⊢; simp [hy]))
    rw [h1]
    simp only [sliceAV, h2, h3]
  case b2sR x =>
    refine same _ rfl ?_
    rcases hh with hh | hh
    · simp [ldM] at hh
    · subst hh; simp only [fev, hr x (by simp)]
  case mkfq f caps =>
    refine same _ rfl ?_
    simp only [fev, Option.some.injEq, FR.mk.injEq, AVal.func.injEq, true_and]
    refine ⟨?_, List.map_congr_left hr⟩
    apply propext
    constructor
    · intro h x hx; have := h x hx; rwa [hr x hx] at this
    · intro h x hx; have := h x hx; rwa [hr x hx]
  case mn x ys =>
    refine same _ rfl ?_
    simp only [fev, Option.some.injEq]
    rw [hr x (by simp), List.map_congr_left (f := r1) (g := r) fun y hy => hr y (by simp [hy])]
  case mx x ys =>
    refine same _ rfl ?_
    simp only [fev, Option.some.injEq]
    rw [hr x (by simp), List.map_congr_left (f := r1) (g := r) fun y hy => hr y (by simp [hy])]
  all_goals
    refine same _ rfl ?_
    simp only [List.mem_cons, List.not_mem_nil, or_false, forall_eq_or_imp, forall_eq, false_implies, implies_true] at hr
    first
      | rfl
      | (simp only [fev, hr]; done)

/-! ### A slot that is filled beside -/
/-- Slot d is v, the boxes are β of what they were. -/
def tr (d : Nat) (v : AVal) (β : (Nat → Option (List AVal)) → Nat → Option (List AVal)) (S : AState) : AState := ⟨fun t => if t = d then v else S.env t, β S.boxes, S.heap⟩
section
variable {d : Nat} {v : AVal} {β : (Nat → Option (List AVal)) → Nat → Option (List AVal)} {S : AState}
theorem tr_full {x : AOpn} (h : d ∉ ot x) : (tr d v β S).full x = S.full x := by
  cases x with
  | c _ => rfl
  | t m =>
    have : m ≠ d := by intro e; apply h; simp [ot, e]
    simp [tr, AState.full, this]
theorem tr_rd {x : AOpn} (h : d ∉ ot x) : (tr d v β S).rd x = S.rd x := by rw [rd_full', rd_full', tr_full h]
where rd_full' (S : AState) (y : AOpn) : S.rd y = rdv (S.full y) := by cases y <;> rfl
theorem tr_env {t : Nat} (h : t ≠ d) : (tr d v β S).env t = S.env t := by simp [tr, h]
theorem tr_put {k : Option Nat} (h : k ≠ some d) (x : AVal) : (tr d v β S).put k x = tr d v β (S.put k x) := by
  cases k with
  | none => rfl
  | some k =>
    have : k ≠ d := fun e => h (by rw [e])
    simp only [tr, AState.put, AState.mk.injEq, and_true]
    funext t
    by_cases e : t = k
    · subst e; simp [this]
    · simp [e]
theorem tr_set {k : Nat} (h : k ≠ d) (x : AVal) : (tr d v β S).set k x = tr d v β (S.set k x) := tr_put (k := some k) (fun e => h (by cases e; rfl)) x
theorem tr_take {x : AOpn} (h : d ∉ ot x) : (tr d v β S).takeT x = tr d v β (S.takeT x) := by
  cases x with
  | c _ => rfl
  | t m =>
    have : m ≠ d := by intro e; apply h; simp [ot, e]
    simp only [AState.takeT]
    rw [tr_env this, tr_set this]
theorem tr_heap (h : List HObj) : ({ tr d v β S with heap := h } : AState) = tr d v β { S with heap := h } := rfl
end

/-- The operands of an operation on the heap. -/
def hOps : HOp → List AOpn
  | .appendR _ _ x y => [x, y]
  | .clearR _ _ x => [x]
  | .copyR _ x y => [x, y]
  | .callq _ ys => ys
  | .callvq x ys => x :: ys
/-- Does it leave the heap as it was? -/
def hQ : HOp → Bool
  | .callq .. | .callvq .. => true
  | _ => false
/-- The operations that do more, but look at no box and change none: what they read, what they write beside their slot. -/
def qOps : AOp → Option (List AOpn)
  | .move true x => some [x]
  | .append _ _ x y => some [x, y]
  | .sliceT _ t lo => some (.t t :: lo.toList)
  | .extT _ t => some [.t t]
  | .isnil _ _ x => some [x]
  | .call false _ xs => some xs
  | .callv false x xs => some (x :: xs)
  | .hop op => some (hOps op)
  | _ => none
def qTk : AOp → List Nat
  | .move true x => ot x
  | .append _ _ x _ => ot x
  | .sliceT _ t _ => [t]
  | .extT _ t => [t]
  | _ => []
def isExt : AOp → Bool
  | .extT .. => true
  | _ => false
def isCall : AOp → Bool
  | .call .. | .callv .. => true
  | .hop op => !hQ op
  | _ => false
theorem loV_tr {d : Nat} {v : AVal} {β : (Nat → Option (List AVal)) → Nat → Option (List AVal)} {S : AState} {lo : Option AOpn} (h : ∀ x ∈ lo.toList, d ∉ ot x) : loV (tr d v β S).rd lo = loV S.rd lo :=
  loV_congr fun x hx => tr_rd (h x hx)
def CMono (C : CallS) : Prop := ∀ f vs h R R', (∀ r h', R r h' → R' r h') → C f vs h R → C f vs h R'
theorem hstep_congr {C : CallS} {r r1 : AOpn → AVal} {hp : List HObj} {op : HOp} {K : AVal → List HObj → Prop} (hr : ∀ x ∈ hOps op, r1 x = r x) : hstep C r1 hp op K = hstep C r hp op K := by
  cases op <;> simp only [hOps] at hr
  case appendR sz bytes x y => simp only [hstep, hr x (by simp), hr y (by simp)]
  case clearR sz zero x => simp only [hstep, hr x (by simp)]
  case copyR sz x y => simp only [hstep, hr x (by simp), hr y (by simp)]
  case callq f ys =>
    simp only [hstep, List.map_congr_left hr]
    congr 1
    apply propext
    constructor
    · intro h x hx; have := h x hx; rwa [hr x hx] at this
    · intro h x hx; have := h x hx; rwa [hr x hx]
  case callvq x ys =>
    have hy : ∀ y ∈ ys, r1 y = r y := fun y hy => hr y (by simp [hy])
    simp only [hstep, hr x (by simp), List.map_congr_left hy]
    cases r x <;> try rfl
    simp only
    congr 1
    apply propext
    constructor
    · intro h x hx; have := h x hx; rwa [hy x hx] at this
    · intro h x hx; have := h x hx; rwa [hy x hx]
theorem hstep_mono {C : CallS} (hC : CMono C) {r : AOpn → AVal} {hp : List HObj} {op : HOp} {K K' : AVal → List HObj → Prop} (hm : ∀ v h, (hQ op = true → h = hp) → K v h → K' v h) (h : hstep C r hp op K) : hstep C r hp op K' := by
  cases op <;> simp only [hstep, growV] at h ⊢
  case appendR sz bytes x y =>
    have hm : ∀ v h, K v h → K' v h := fun v h => hm v h (fun e => by cases e)
    split at h
    · refine ⟨h.1, ?_⟩
      have h := h.2
      split at h
      · exact ⟨h.1, h.2.1, fun e => hm _ _ (h.2.2.1 e), fun e c hc => hm _ _ (h.2.2.2 e c hc)⟩
      · refine ⟨h.1, h.2.1, fun e => hm _ _ (h.2.2.1 e), fun e1 e2 => ?_, fun e1 e2 => ?_⟩
        · have h := h.2.2.2.1 e1 e2
          split at h
          · exact ⟨h.1, hm _ _ h.2⟩
          · exact h.elim
        · have h := h.2.2.2.2 e1 e2
          split at h
          · exact fun c hc => hm _ _ (h c hc)
          · exact h.elim
      · exact h.elim
    · exact h.elim
  case clearR sz zero x =>
    have hm : ∀ v h, K v h → K' v h := fun v h => hm v h (fun e => by cases e)
    split at h
    · exact ⟨h.1, hm _ _ h.2⟩
    · refine ⟨fun e => hm _ _ (h.1 e), fun e => ?_⟩
      have h := h.2 e
      split at h
      · exact ⟨h.1, hm _ _ h.2⟩
      · exact h.elim
    · exact h.elim
  case copyR sz x y =>
    have hm : ∀ v h, K v h → K' v h := fun v h => hm v h (fun e => by cases e)
    split at h
    · refine ⟨h.1, ?_⟩
      have h := h.2
      split at h
      · exact ⟨h.1, hm _ _ h.2⟩
      · refine ⟨fun e => hm _ _ (h.1 e), fun e1 e2 => ?_⟩
        have h := h.2 e1 e2
        split at h
        · exact ⟨h.1, hm _ _ h.2⟩
        · exact h.elim
      · exact h.elim
    · exact h.elim
  case callq f ys => exact ⟨h.1, hC _ _ _ _ _ (fun r h' hk => ⟨hk.1, fun hb => hm _ _ (fun _ => hk.1) (hk.2 hb)⟩) h.2⟩
  case callvq x ys =>
    split at h
    · exact ⟨h.1, hC _ _ _ _ _ (fun r h' hk => ⟨hk.1, fun hb => hm _ _ (fun _ => hk.1) (hk.2 hb)⟩) h.2⟩
    · exact h.elim
/-- Such an operation minds no slot that it does not name. -/
theorem q_frame {C : CallS} (hC : CMono C) {op : AOp} {xs : List AOpn} (ho : qOps op = some xs) {d : Nat} {v : AVal} {β : (Nat → Option (List AVal)) → Nat → Option (List AVal)} {S : AState} {dst : Option Nat} {K : AState → Prop}
    (hd : ∀ x ∈ xs, d ∉ ot x) (hdst : dst ≠ some d) : astep C op dst (tr d v β S) K ↔ astep C op dst S (fun S' => K (tr d v β S')) := by
  cases op <;> simp only [qOps, Option.some.injEq, reduceCtorEq] at ho
  case move tk x =>
    cases tk <;> simp only [Option.some.injEq, reduceCtorEq] at ho
    subst ho
    have h1 := hd x (by simp)
    simp only [astep, fev, tr_full h1, tr_take h1]
    cases S.full x <;> simp only [tr_put hdst]
  case append sz bytes x y =>
    subst ho
    have h1 := hd x (by simp)
    have h2 := hd y (by simp)
    simp only [astep, fev, tr_full h1, tr_take h1, tr_rd h2, tr_put hdst]
  case sliceT sz t lo =>
    subst ho
    have h1 : t ≠ d := by have := hd (.t t) (by simp); simpa [ot] using fun e => this (by simp [ot, e])
    have h2 := loV_tr (v := v) (β := β) (S := S) (lo := lo) (fun x hx => hd x (by simp [hx]))
    simp only [astep, fev, tr_env h1, h2, tr_set h1, tr_put hdst]
  case extT i t =>
    subst ho
    have h1 : t ≠ d := by have := hd (.t t) (by simp); simpa [ot] using fun e => this (by simp [ot, e])
    simp only [astep, fev, tr_env h1, tr_set h1, tr_put hdst]
  case isnil mp neg x =>
    subst ho
    have h1 := hd x (by simp)
    simp only [astep, fev, tr_rd h1, tr_put hdst]
  case call pr f ys =>
    cases pr <;> simp only [Option.some.injEq, reduceCtorEq] at ho
    subst ho
    have e1 : ys.map (tr d v β S).rd = ys.map S.rd := List.map_congr_left fun y hy => tr_rd (hd y hy)
    simp only [astep, fev, Bool.false_eq_true, if_false, e1]
    have e2 : (∀ x ∈ ys, noBox ((tr d v β S).rd x) = true) ↔ ∀ x ∈ ys, noBox (S.rd x) = true := by
      constructor
      · intro h x hx; have := h x hx; rwa [tr_rd (hd x hx)] at this
      · intro h x hx; rw [tr_rd (hd x hx)]; exact h x hx
    rw [e2]
    simp only [tr_heap, tr_put hdst]
    rfl
  case callv pr x ys =>
    cases pr <;> simp only [Option.some.injEq, reduceCtorEq] at ho
    subst ho
    have e1 : ys.map (tr d v β S).rd = ys.map S.rd := List.map_congr_left fun y hy => tr_rd (hd y (by simp [hy]))
    have e2 : (∀ x ∈ ys, noBox ((tr d v β S).rd x) = true) ↔ ∀ x ∈ ys, noBox (S.rd x) = true := by
      constructor
      · intro h x hx; have := h x hx; rwa [tr_rd (hd x (by simp [hx]))] at this
      · intro h x hx; rw [tr_rd (hd x (by simp [hx]))]; exact h x hx
    simp only [astep, fev, Bool.false_eq_true, if_false, e1, e2, tr_rd (hd x (by simp)), tr_heap, tr_put hdst]
    rfl
  case hop hh =>
    subst ho
    simp only [astep, fev]
    rw [hstep_congr (r := S.rd) (r1 := (tr d v β S).rd) (fun x hx => tr_rd (hd x hx))]
    have e : ∀ (x : AVal) h, ({ tr d v β S with heap := h } : AState).put dst x = tr d v β (({ S with heap := h } : AState).put dst x) := fun x h => by rw [tr_heap, tr_put hdst]
    simp only [e]
    rfl

/-- What such an operation leaves alone. -/
def QSame (op : AOp) (dst : Option Nat) (S S' : AState) : Prop :=
  (∀ t, t ∉ qTk op → dst ≠ some t → S'.env t = S.env t) ∧ S'.boxes = S.boxes ∧ (isCall op = false → S'.heap = S.heap) ∧ (∀ t, dst ≠ some t → isExt op = false → rdv (S'.env t) = rdv (S.env t))
theorem rdv_remV {v : AVal} (h : ∀ vs, v ≠ .tup vs) : rdv (remV v) = rdv v := by
  have hc : ∀ c : AVal, rdc (remc c) = rdc c := by intro c; cases c <;> first | rfl | (rename_i o xs; cases o <;> rfl)
  cases v with
  | tup vs => exact absurd rfl (h vs)
  | agg cs => simp only [remV, rdv, rd1, List.map_map]; congr 1; exact List.map_congr_left fun c _ => hc c
  | lst o xs => cases o <;> rfl
  | _ => rfl
theorem put_env {S : AState} {dst : Option Nat} {x : AVal} {t : Nat} (h : dst ≠ some t) : (S.put dst x).env t = S.env t := by
  cases dst with
  | none => rfl
  | some k =>
    have : t ≠ k := fun e => h (by rw [e])
    simp [AState.put, this]
theorem put_boxes (S : AState) (dst : Option Nat) (x : AVal) : (S.put dst x).boxes = S.boxes := by cases dst <;> rfl
theorem put_heap (S : AState) (dst : Option Nat) (x : AVal) : (S.put dst x).heap = S.heap := by cases dst <;> rfl
theorem take_env {S : AState} {x : AOpn} {t : Nat} (h : t ∉ ot x) : (S.takeT x).env t = S.env t := by
  cases x with
  | c _ => rfl
  | t m =>
    have : t ≠ m := fun e => h (by simp [ot, e])
    simp [AState.takeT, AState.set, this]
theorem take_rdv {S : AState} {x : AOpn} (h : ∀ vs, S.full x ≠ .tup vs) (t : Nat) : rdv ((S.takeT x).env t) = rdv (S.env t) := by
  cases x with
  | c _ => rfl
  | t m =>
    simp only [AState.takeT, AState.set]
    split
    · rename_i e; subst e; exact rdv_remV h
    · rfl
theorem take_boxes (S : AState) (x : AOpn) : (S.takeT x).boxes = S.boxes := by cases x <;> rfl
theorem take_heap (S : AState) (x : AOpn) : (S.takeT x).heap = S.heap := by cases x <;> rfl
theorem q_same {C : CallS} (hC : CMono C) {op : AOp} {xs : List AOpn} (ho : qOps op = some xs) {S : AState} {dst : Option Nat} {K : AState → Prop} (h : astep C op dst S K) :
    astep C op dst S (fun S' => QSame op dst S S' ∧ K S') := by
  cases op <;> simp only [qOps, Option.some.injEq, reduceCtorEq] at ho
  case move tk x =>
    cases tk <;> simp only [Option.some.injEq, reduceCtorEq] at ho
    simp only [astep, fev] at h ⊢
    have hnt : ∀ vs, S.full x ≠ .tup vs := by intro vs e; rw [e] at h; exact h
    have : QSame (.move true x) dst S ((S.takeT x).put dst (S.full x)) := ⟨fun t h1 h2 => by rw [put_env h2, take_env h1], by rw [put_boxes, take_boxes], fun _ => by rw [put_heap, take_heap], fun t h2 _ => by rw [put_env h2, take_rdv hnt]⟩
    cases hf : S.full x <;> rw [hf] at h this <;> first | exact ⟨this, h⟩ | exact h.elim
  case append sz bytes x y =>
    simp only [astep, fev] at h ⊢
    split at h
    · rename_i hfl _
      obtain ⟨h1, h2, h3, h4, h5⟩ := h
      exact ⟨h1, h2, h3, h4, ⟨fun t q1 q2 => by rw [put_env q2, take_env q1], by rw [put_boxes, take_boxes], fun _ => by rw [put_heap, take_heap], fun t q2 _ => by rw [put_env q2, take_rdv (by intro vs e; rw [e] at hfl; cases hfl)]⟩, h5⟩
    · exact h.elim
  case sliceT sz t lo =>
    simp only [astep, fev] at h ⊢
    split at h
    · rename_i henv _
      obtain ⟨h1, h2, h3, h4⟩ := h
      refine ⟨h1, h2, h3, ⟨fun u q1 q2 => ?_, by rw [put_boxes]; rfl, fun _ => by rw [put_heap]; rfl, fun u q2 _ => ?_⟩, h4⟩
      · rw [put_env q2]
        have : u ≠ t := fun e => q1 (by simp [qTk, e])
        simp [AState.set, this]
      · rw [put_env q2]
        simp only [AState.set]
        split
        · rename_i e; subst e; rw [henv]; rfl
        · rfl
    · exact h.elim
  case extT i t =>
    simp only [astep, fev] at h ⊢
    split at h
    · obtain ⟨h1, h2, h3⟩ := h
      refine ⟨h1, h2, ⟨fun u q1 q2 => ?_, by rw [put_boxes]; rfl, fun _ => by rw [put_heap]; rfl, fun _ _ e => by cases e⟩, h3⟩
      rw [put_env q2]
      have : u ≠ t := fun e => q1 (by simp [qTk, e])
      simp [AState.set, this]
    · exact h.elim
  case isnil mp neg x =>
    have q : ∀ b, QSame (.isnil mp neg x) dst S (S.put dst b) := fun b => ⟨fun t _ h2 => put_env h2, put_boxes _ _ _, fun _ => put_heap _ _ _, fun t h2 _ => by rw [put_env h2]⟩
    simp only [astep, fev] at h ⊢
    exact isnilV_mono (fun b hb => ⟨q _, hb⟩) h
  case call pr f ys =>
    cases pr <;> simp only [Option.some.injEq, reduceCtorEq] at ho
    simp only [astep, fev, Bool.false_eq_true, if_false] at h ⊢
    refine ⟨h.1, hC _ _ _ _ _ (fun r h' hk hb => ?_) h.2⟩
    exact ⟨⟨fun t _ h2 => by rw [put_env h2], by rw [put_boxes], (fun e => by cases e), fun t h2 _ => by rw [put_env h2]⟩, hk hb⟩
  case callv pr x ys =>
    cases pr <;> simp only [Option.some.injEq, reduceCtorEq] at ho
    simp only [astep, fev, Bool.false_eq_true, if_false] at h ⊢
    split at h
    · refine ⟨h.1, hC _ _ _ _ _ (fun r h' hk hb => ?_) h.2⟩
      exact ⟨⟨fun t _ h2 => by rw [put_env h2], by rw [put_boxes], (fun e => by cases e), fun t h2 _ => by rw [put_env h2]⟩, hk hb⟩
    · exact h.elim
  case hop hh =>
    simp only [astep, fev] at h ⊢
    refine hstep_mono hC (fun v h' hq hk hb => ?_) h
    exact ⟨⟨fun t _ h2 => by rw [put_env h2], by rw [put_boxes], (fun e => by rw [put_heap]; exact hq (by simpa [isCall] using e)), fun t h2 _ => by rw [put_env h2]⟩, hk hb⟩

/-! ### Every box that is named is there -/
def WF (S : AState) : Prop := ∀ t s off, S.env t = .box s off → (S.boxes s).isSome = true
theorem WF.put {S : AState} (h : WF S) {dst : Option Nat} {x : AVal} (hx : S.live x) : WF (S.put dst x) := by
  cases dst with
  | none => exact h
  | some k =>
    intro t s off he
    simp only [AState.put] at he ⊢
    split at he
    · subst he; exact hx
    · exact h t s off he
theorem live_of {S : AState} {x : AVal} (h : plainV x = true) : S.live x := by cases x <;> first | trivial | cases h
theorem live_noBox {S : AState} {x : AVal} (h : noBox x = true) : S.live x := by cases x <;> first | trivial | cases h
theorem remV_box {x : AVal} {s off : Nat} (h : remV x = .box s off) : x = .box s off := by
  cases x <;> simp_all [remV, remc]
  rename_i o xs; cases o <;> simp_all [remc]
theorem WF.set {S : AState} (h : WF S) {k : Nat} {x : AVal} (hx : S.live x) : WF (S.set k x) := WF.put (dst := some k) h hx
theorem WF.take {S : AState} (h : WF S) (x : AOpn) : WF (S.takeT x) := by
  cases x with
  | c _ => exact h
  | t m =>
    refine h.set ?_
    cases hx : remV (S.env m) <;> first | trivial | exact h m _ _ (remV_box hx)
theorem live_full {S : AState} (h : WF S) (x : AOpn) (hx : ∀ v, x = .c v → S.live v) : S.live (S.full x) := by
  cases x with
  | c v => exact hx v rfl
  | t m => cases e : S.env m <;> simp only [AState.full, e] <;> first | trivial | exact h m _ _ e
theorem WF.drop {S : AState} (h : WF S) (s : Nat) : WF (S.drop s) := by
  intro t q off he
  simp only [AState.drop] at he ⊢
  split at he
  · rename_i s' o hv
    split at he
    · cases he
    · cases he; exact h t _ _ hv
  · exact h t q off he
theorem drop_none {S : AState} {s : Nat} {t q off : Nat} (he : (S.drop s).env t = .box q off) : q ≠ s := by
  simp only [AState.drop] at he
  split at he
  · rename_i s' o hv
    split at he
    · cases he
    · rename_i hne; cases he; exact hne
  · rename_i hne; exact absurd he (hne q off)
theorem WF.setBox {S : AState} (h : WF S) (s : Nat) (cs : List AVal) : WF (S.setBox s (some cs)) := by
  intro t q off he
  simp only [AState.setBox]
  split
  · rfl
  · exact h t q off he
theorem WF.promote {S : AState} (h : WF S) (s : Nat) : WF (S.promote s) := by
  unfold AState.promote
  split
  · intro t q off he
    simp only at he ⊢
    split at he
    · rename_i s' o hv
      split at he
      · cases he
      · rename_i hne; cases he; rw [if_neg hne]; exact h t _ _ hv
    · rename_i hne; exact absurd he (hne q off)
  · exact h
theorem WF.promAll : ∀ (xs : List AOpn) {S : AState}, WF S → WF (S.promAll xs)
  | [], S, h => h
  | .c _ :: xs, S, h => WF.promAll xs (S := S) h
  | .t m :: xs, S, h => by
    simp only [AState.promAll]
    split
    · exact WF.promAll xs (h.promote _)
    · exact WF.promAll xs h
theorem WF.heap {S : AState} (h : WF S) (hp : List HObj) : WF { S with heap := hp } := h
theorem WF.kill {S : AState} (h : WF S) (s : Nat) : WF ((S.drop s).setBox s none) := by
  intro t q off he
  have hne := drop_none (S := S) (s := s) (t := t) (q := q) (off := off) he
  simp only [AState.setBox, if_neg hne]
  exact h.drop s t q off he
theorem storC_live {S : AState} {x : AVal} (h : storC x = true) : S.live x := by cases x <;> first | trivial | cases h
theorem astep_wf {C : CallS} (hC : CMono C) {op : AOp} {S : AState} {dst : Option Nat} {K : AState → Prop} (hS : WF S) (h : astep C op dst S K) (hcon : ∀ x, (op = .move true x → ∀ v, x = .c v → S.live v)) : astep C op dst S (fun S' => WF S' ∧ K S') := by
  have hf := hS
  unfold astep at h ⊢
  split at h
  · rename_i f hfe
    simp only [hfe]
    exact ⟨h.1, h.2.1, hS.put h.2.1, h.2.2⟩
  · rename_i hfe
    simp only [hfe]
    split at h
    · rename_i x
      have hl := live_full hS x (hcon x rfl)
      have : WF ((S.takeT x).put dst (S.full x)) := (hS.take x).put (by
        cases hx : S.full x <;> first | trivial | (rw [hx] at hl; simpa [AState.live, take_boxes] using hl))
      cases hx : S.full x <;> rw [hx] at h this <;> first | exact ⟨this, h⟩ | exact h.elim
    · cases dst with
      | none => exact h.elim
      | some s => exact ⟨h.1, ((hS.drop s).setBox s _).set (by simp [AState.live, AState.setBox]), h.2⟩
    · cases dst with
      | none => exact h.elim
      | some s => exact ⟨h.1, (((hS.take _).drop s).setBox s _).set (by simp [AState.live, AState.setBox]), h.2⟩
    · cases dst with
      | none => exact h.elim
      | some s => exact ⟨h.1, ((hS.drop s).setBox s _).set (by simp [AState.live, AState.setBox]), h.2⟩
    · split at h
      · split at h
        · exact ⟨h.1, h.2.1, (hS.setBox _ _).put (storC_live h.2.1), h.2.2⟩
        · exact h.elim
      · split at h
        · exact ⟨h.1, h.2.1, (hS.heap _).put (storC_live h.2.1), h.2.2⟩
        · exact h.elim
      · exact h.elim
    · refine ⟨h.1, ?_⟩
      have h2 := h.2
      unfold storeV at h2 ⊢
      split at h2
      · split at h2
        · exact ⟨h2.1, h2.2.1, (hS.take _).setBox _ _, h2.2.2⟩
        · exact h2.elim
      · split at h2
        · exact ⟨h2.1, h2.2.1, (hS.take _).heap _, h2.2.2⟩
        · exact h2.elim
      · exact h2.elim
    · exact isnilV_mono (fun b hb => ⟨hS.put trivial, hb⟩) h
    · split at h
      · exact ⟨h.1, h.2.1, h.2.2.1, (hS.set (live_noBox rfl)).put trivial, h.2.2.2⟩
      · exact h.elim
    · split at h
      · exact ⟨h.1, (hS.set (live_noBox rfl)).put trivial, h.2⟩
      · exact h.elim
    · split at h
      · exact ⟨h.1, h.2.1, (hS.set (live_noBox rfl)).put (live_of h.2.1), h.2.2⟩
      · exact h.elim
    · split at h
      · exact ⟨h.1, h.2.1, h.2.2.1, h.2.2.2.1, (hS.take _).put trivial, h.2.2.2.2⟩
      · exact h.elim
    · rename_i pr f ys
      have hp : WF (if pr then S.promAll ys else S) := by
        cases pr
        · exact hS
        · exact hS.promAll ys
      dsimp only at h ⊢
      exact ⟨h.1, hC _ _ _ _ _ (fun r h' hk hb => ⟨(hp.heap h').put (live_noBox hb), hk hb⟩) h.2⟩
    · rename_i pr x ys
      have hp : WF (if pr then S.promAll ys else S) := by
        cases pr
        · exact hS
        · exact hS.promAll ys
      simp only at h ⊢
      split at h
      · exact ⟨h.1, hC _ _ _ _ _ (fun r h' hk hb => ⟨(hp.heap h').put (live_noBox hb), hk hb⟩) h.2⟩
      · exact h.elim
    · exact ⟨h.1, (hS.promAll _).put trivial, h.2⟩
    · exact hstep_mono hC (fun v h' _ hk hb => ⟨(hS.heap h').put (live_noBox hb), hk hb⟩) h
    · exact h.elim
end Go.Ge
