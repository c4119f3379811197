/- A function: its results, its contract. -/
import Derived.Test.YtpdajkbfemcdlaaGeCode
set_option linter.unusedSimpArgs false
set_option linter.unusedVariables false
namespace Go.Ge
open Go.Proofs (Enters enters_of)
section
variable {P : Program} {n : Nat} {S : AState} {g : Gh} {a : Act} {w : World}

def ckRes (P : Program) : List ResultVar → List ARes → Bool
  | [], [] => true
  | .tmp t :: rs, .t t' :: qs => t == t' && ckRes P rs qs
  | .cell p ty :: rs, .c p' ag sz :: qs => p == p' && (P.underlying ty).isSome && decide (aggT P ty = ag) && decide (szT P ty = some sz) && (ag || decide (sz = 1)) && ckRes P rs qs
  | _, _ => false
/-- One result variable, read. -/
def readRes (tmps : Array Value) : ResultVar → Sem Value
  | .tmp t => pure (tmps.getD t undef)
  | .cell a t => do loadVar t (← asAddr (tmps.getD a undef))
theorem results_run {fn : Func} {us : List Value} (h : fn.results.toList.length = us.length) (hr : ∀ (i : Nat) (r : ResultVar) (u : Value), fn.results.toList[i]? = some r → us[i]? = some u → (readRes a.tmps r).run P w = .ok u w) :
    (results fn a.tmps).run P w = .ok (if us.length = 1 then us.headD undef else .tuple us.toArray) w := by
  have key : ∀ (rs : List ResultVar) (us : List Value), rs.length = us.length → (∀ (i : Nat) (r : ResultVar) (u : Value), rs[i]? = some r → us[i]? = some u → (readRes a.tmps r).run P w = .ok u w) → (rs.mapM (readRes a.tmps)).run P w = .ok us w := by
    intro rs
    induction rs with
    | nil => intro us h _; cases us <;> simp_all
    | cons r rs ih =>
      intro us h hr
      cases us with
      | nil => simp at h
      | cons u us =>
        have h1 := hr 0 r u (by simp) (by simp)
        have h2 := ih us (by simpa using h) fun i r u h3 h4 => hr (i + 1) r u (by simpa using h3) (by simpa using h4)
        simp [List.mapM_cons, h1, h2]
  have hm := key _ us h hr
  have e : results fn a.tmps = (do
      let vs ← fn.results.mapM (readRes a.tmps)
      pure (if h : vs.size = 1 then vs[0] else .tuple vs)) := by
    unfold results
    congr 1
  rw [e]
  have e2 : fn.results = fn.results.toList.toArray := by simp
  rw [e2, List.mapM_toArray]
  simp only [Sem.run_bind, Sem.run_map, hm]
  cases us with
  | nil => simp
  | cons u us => cases us <;> simp

/-- The names that a result's parts go to. -/
def retO (pre : Nat → List Nat) : Nat → List ARes → Ow → Ow
  | _, [], o => o
  | i, .t t :: rs, o => match o with
    | .slot t' p => if t' = t then .ret (pre i ++ p) else retO pre (i + 1) rs (.slot t' p)
    | o => retO pre (i + 1) rs o
  | i, .c b _ _ :: rs, o => match o with
    | .boxc s p => if s = b then .ret (pre i ++ p) else retO pre (i + 1) rs (.boxc s p)
    | o => retO pre (i + 1) rs o
theorem retO_id (pre : Nat → List Nat) {o : Ow} (h1 : ∀ t p, o ≠ .slot t p) (h2 : ∀ s p, o ≠ .boxc s p) : ∀ (rs : List ARes) (i : Nat), retO pre i rs o = o
  | [], _ => rfl
  | .t t :: rs, i => by
    cases o <;> first | exact retO_id pre h1 h2 rs (i + 1) | exact absurd rfl (h1 _ _)
  | .c b _ _ :: rs, i => by
    cases o <;> first | exact retO_id pre h1 h2 rs (i + 1) | exact absurd rfl (h2 _ _)
theorem retO_slot (pre : Nat → List Nat) {t : Nat} (p : List Nat) : ∀ (rs : List ARes) (i j : Nat), (rs.map ARes.slot).Nodup → rs[j]? = some (.t t) → retO pre i rs (.slot t p) = .ret (pre (i + j) ++ p)
  | [], _, _, _, h => by simp at h
  | r :: rs, i, j, hn, h => by
    simp only [List.map_cons, List.nodup_cons] at hn
    cases j with
    | zero => simp at h; subst h; simp [retO]
    | succ j =>
      have hj : rs[j]? = some (.t t) := by simpa using h
      have hne : r.slot ≠ t := by
        intro e; apply hn.1
        rw [e]
        exact List.mem_map.2 ⟨.t t, List.mem_of_getElem? hj, rfl⟩
      have ih := retO_slot pre p rs (i + 1) j hn.2 hj
      cases r with
      | t t' =>
        simp only [ARes.slot] at hne
        simp only [retO]
        rw [if_neg (fun e => hne e.symm), ih]
        congr 3; omega
      | c b ag sz =>
        simp only [retO]
        rw [ih]; congr 3; omega
theorem retO_boxc (pre : Nat → List Nat) {b sz : Nat} {ag : Bool} (p : List Nat) : ∀ (rs : List ARes) (i j : Nat), (rs.map ARes.slot).Nodup → rs[j]? = some (.c b ag sz) → retO pre i rs (.boxc b p) = .ret (pre (i + j) ++ p)
  | [], _, _, _, h => by simp at h
  | r :: rs, i, j, hn, h => by
    simp only [List.map_cons, List.nodup_cons] at hn
    cases j with
    | zero => simp at h; subst h; simp [retO]
    | succ j =>
      have hj : rs[j]? = some (.c b ag sz) := by simpa using h
      have hne : r.slot ≠ b := by
        intro e; apply hn.1
        rw [e]
        exact List.mem_map.2 ⟨.c b ag sz, List.mem_of_getElem? hj, rfl⟩
      have ih := retO_boxc pre p rs (i + 1) j hn.2 hj
      cases r with
      | t t' =>
        simp only [retO]
        rw [ih]; congr 3; omega
      | c b' ag' sz' =>
        simp only [ARes.slot] at hne
        simp only [retO]
        rw [if_neg (fun e => hne e.symm), ih]
        congr 3; omega

theorem RV.plain {own : List Nat → Ow} {x : AVal} {v : Value} (hx : plainV x = true) : RV g w own x v ↔ RV1 g w own x v := by
  cases x <;> first | rfl | simp [plainV] at hx
theorem mem_load (hR : Rel n S g a w) {ty : TypeId} {ag : Bool} {sz : Nat} {p : AVal} {v : Value} (hp : RT g w p v) (hu : (P.underlying ty).isSome = true) (ht : aggT P ty = ag) (hi : szT P ty = some sz) (h1 : ag = false → sz = 1)
    (hc : (memV S.boxes S.heap ag sz p).c) : ∃ b off u, v = .pointer (some ⟨b, off, none⟩) ∧ (loadVar ty ⟨b, off, none⟩).run P w = .ok u w ∧ RT g w (memV S.boxes S.heap ag sz p).v u := by
  obtain ⟨b, off, us, hv, hl, hval⟩ := mem_lies hR hp hc
  refine ⟨b, off, ?_⟩
  cases ag with
  | true =>
    simp only [if_true] at hval
    obtain ⟨cs, hsz, hcs, he⟩ := hval
    have hrun := run_loadVar' (P := P) (w := w) (t := ty) (us := us.take sz) (b := b) (off := off) hu (by rw [← szT, hi]; simp [hsz]) (fun j u hj => hl j u (by
      rcases Nat.lt_or_ge j sz with h | h
      · rwa [List.getElem?_take_of_lt h] at hj
      · simp [List.getElem?_take, Nat.not_lt.2 h] at hj))
    rw [ht] at hrun
    simp only [if_true] at hrun
    refine ⟨_, hv, hrun, ?_⟩
    rw [he]; simp only [RT, RI]; exact ⟨_, rfl, by simpa using hcs.take sz⟩
  | false =>
    simp only [Bool.false_eq_true, if_false] at hval
    obtain ⟨u, hu1, hu2, hu3⟩ := hval
    cases us with
    | nil => simp at hu1
    | cons u' us =>
      simp at hu1; subst hu1
      have hrun := run_loadVar' (P := P) (w := w) (t := ty) (us := [u']) (b := b) (off := off) hu (by rw [← szT, hi, h1 rfl]; rfl) (fun j u hj => by
        cases j with
        | zero => exact hl 0 u (by simpa using hj)
        | succ j => simp at hj)
      rw [ht] at hrun
      simp only [Bool.false_eq_true, if_false, List.head?_cons] at hrun
      exact ⟨u', hv, hrun, RT.of_RI hu2⟩

theorem RV1.of_plain {g' : Gh} {w' : World} {own : List Nat → Ow} {x : AVal} {v : Value} (hs : Stb g w g' w') (hf : flv x = true) (hx : plainV x = true) (h : RT g w x v) : RV1 g' w' own x v := by
  refine (RV.plain hx).1 (RV.of_RT hf (RT.of_RI (RI.mono hs _ _ (RI.of_RT ?_ h))))
  cases x <;> first | rfl | simp [plainV] at hx
/-- One result. -/
theorem res_one (hR : Rel n S g a w) {r : ResultVar} {q : ARes} (hck : ckRes P [r] [q] = true) (hc : (resV S q).c) {g' : Gh} {own : List Nat → Ow} (hs : Stb g w g' w) (h1 : ∀ t, q = .t t → ∀ p, Keep g w g' w (.slot t p) (own p))
    (h2 : ∀ b ag sz, q = .c b ag sz → ∀ p, Keep g w g' w (.boxc b p) (own p)) : ∃ u, (readRes a.tmps r).run P w = .ok u w ∧ RV1 g' w own (resV S q).v u ∧ plainV (resV S q).v = true := by
  cases q with
  | t t =>
    cases r <;> simp only [ckRes, Bool.and_eq_true, beq_iff_eq, Bool.false_eq_true] at hck
    obtain ⟨rfl, _⟩ := hck
    simp only [resV] at hc ⊢
    exact ⟨_, by simp [readRes], RV1.mono hs (h1 _ rfl) _ _ ((RV.plain hc).1 (hR.env _)), hc⟩
  | c b ag sz =>
    cases r <;> simp only [ckRes, Bool.and_eq_true, beq_iff_eq, decide_eq_true_eq, Bool.or_eq_true, Bool.false_eq_true] at hck
    rename_i p ty
    obtain ⟨⟨⟨⟨⟨rfl, k1⟩, k2⟩, k3⟩, k4⟩, _⟩ := hck
    simp only [resV] at hc ⊢
    split at hc
    · rename_i s hb
      split at hc
      · rename_i cs hcs
        obtain ⟨us, e, fz, b1, b2, b3, b4, b5⟩ := hR.boxes s cs hcs
        have hv := hR.env p
        rw [hb] at hv
        simp only [RV] at hv
        have hl := b5.length
        have hrun : us.toList.length = sz → _ := fun e1 => run_loadVar' (P := P) (w := w) (t := ty) (us := us.toList) (b := g.ib s) (off := 0) k1 (by rw [← szT, k3, e1]) (fun j u hj => by rw [cell_of_block b1]; simpa using hj)
        cases ag with
        | true =>
          simp only [if_true] at hc ⊢
          obtain ⟨rfl, hsz⟩ := hc
          refine ⟨.agg us, ?_, ?_, rfl⟩
          · have := hrun (by omega)
            rw [k2] at this
            simp only [if_true] at this
            simp [readRes, hv, asAddr, this]
          · simp only [RV1]
            exact ⟨us, rfl, RVs.mono hs _ _ _ (fun j => h2 _ _ _ rfl [j]) b5⟩
        | false =>
          simp only [Bool.false_eq_true, if_false] at hc ⊢
          obtain ⟨rfl, hsz, hst⟩ := hc
          cases cs with
          | nil => simp at hsz
          | cons c cs =>
            obtain rfl : cs = [] := by simpa using hsz
            have k4 : sz = 1 := k4.resolve_left (by simp)
            obtain ⟨u, hu1, hu2⟩ := b5.get 0 c (by simp)
            refine ⟨u, ?_, ?_, ?_⟩
            · have := hrun (by simp at hl ⊢; omega)
              rw [k2] at this
              simp only [Bool.false_eq_true, if_false, List.head?_eq_getElem?, hu1] at this
              simp [readRes, hv, asAddr, this]
            · simp only [List.headD_cons] at hst ⊢
              exact RV1.of_plain hs (flv_rdc _) hst (RT.of_RI (RI_rdc hu2))
            · exact hst
      · exact hc.elim
    · rename_i id off hb
      have hv := hR.env p
      rw [hb] at hv
      have hv : RT g w (.hp id off) (a.tmps.getD p undef) := by simpa [RV, RV1, RVc, RT] using hv
      obtain ⟨b', off', u, q1, q2, q3⟩ := mem_load hR hv k1 k2 k3 (fun e => k4.resolve_left (by simp [e])) hc.1
      refine ⟨u, by simp [readRes, q1, asAddr, q2], ?_, hc.2⟩
      exact RV1.of_plain hs (mem_fl _ _ _ _ _) hc.2 q3
    · exact hc.elim
theorem ckRes_cons {r : ResultVar} {rs : List ResultVar} {q : ARes} {qs : List ARes} (h : ckRes P (r :: rs) (q :: qs) = true) : ckRes P [r] [q] = true ∧ ckRes P rs qs = true := by
  cases r <;> cases q <;> simp only [ckRes, Bool.and_eq_true, Bool.false_eq_true] at h ⊢
  · exact ⟨⟨h.1, trivial⟩, h.2⟩
  · exact ⟨⟨h.1, trivial⟩, h.2⟩
theorem ckRes_length : ∀ {rs : List ResultVar} {qs : List ARes}, ckRes P rs qs = true → rs.length = qs.length
  | [], [], _ => rfl
  | r :: rs, q :: qs, h => by simp [ckRes_length (ckRes_cons h).2]
  | [], _ :: _, h => by simp [ckRes] at h
  | r :: _, [], h => by cases r <;> simp [ckRes] at h
theorem ress_ok (hR : Rel n S g a w) {g' : Gh} (hs : Stb g w g' w) : ∀ (rs : List ResultVar) (qs : List ARes) (k : Nat), ckRes P rs qs = true → (∀ q ∈ qs, (resV S q).c) →
    (∀ j t, qs[j]? = some (.t t) → ∀ p, Keep g w g' w (.slot t p) (.ret ((k + j) :: p))) → (∀ j b ag sz, qs[j]? = some (.c b ag sz) → ∀ p, Keep g w g' w (.boxc b p) (.ret ((k + j) :: p))) →
    ∃ us : List Value, rs.length = us.length ∧ (∀ (i : Nat) (r : ResultVar) (u : Value), rs[i]? = some r → us[i]? = some u → (readRes a.tmps r).run P w = .ok u w) ∧ RVt g' w Ow.ret k (qs.map fun q => (resV S q).v) us
  | [], [], k, _, _, _, _ => ⟨[], rfl, by simp, by simp [RVt]⟩
  | r :: rs, q :: qs, k, hck, hc, h1, h2 => by
    obtain ⟨c1, c2⟩ := ckRes_cons hck
    obtain ⟨u, u1, u2, _⟩ := res_one hR c1 (hc q (by simp)) hs (own := fun p => .ret (k :: p)) (fun t e p => by simpa using h1 0 t (by simp [e]) p) (fun b ag sz e p => by simpa using h2 0 b ag sz (by simp [e]) p)
    obtain ⟨us, v1, v2, v3⟩ := ress_ok hR hs rs qs (k + 1) c2 (fun q hq => hc q (by simp [hq])) (fun j t hj p => by
      have := h1 (j + 1) t (by simpa using hj) p
      rwa [show k + (j + 1) = k + 1 + j by omega] at this) (fun j b ag sz hj p => by
      have := h2 (j + 1) b ag sz (by simpa using hj) p
      rwa [show k + (j + 1) = k + 1 + j by omega] at this)
    refine ⟨u :: us, by simp [v1], fun i r' u' hi hu => ?_, ?_⟩
    · cases i with
      | zero => simp at hi hu; subst hi hu; exact u1
      | succ i => exact v2 i r' u' (by simpa using hi) (by simpa using hu)
    · simp only [List.map_cons, RVt]
      exact ⟨u, us, rfl, u2, v3⟩
  | [], _ :: _, _, h, _, _, _ => by simp [ckRes] at h
  | r :: _, [], _, h, _, _, _ => by cases r <;> simp [ckRes] at h

def ckFun (P : Program) (fn : Func) (c' : ACode) (rs : List ARes) : Bool :=
  !(fn.name == "runtime.NumGoroutine") && (match fn.body with | some c => ckCode P fn.ntmps c c' | none => false) && ckRes P fn.results.toList rs && decide ((rs.map ARes.slot).Nodup)
theorem start_ok {fn : Func} {vs : List AVal} {us : Array Value} {h : List HObj} (hus : RIs g w vs us.toList) (hfl : ∀ v ∈ vs, flv v = true) (hh : RHeap g w h) (hlen : vs.length ≤ fn.ntmps) :
    Rel fn.ntmps (.start vs h) g { tmps := us ++ Array.replicate (fn.ntmps - us.size) undef, defers := [] } w := by
  have hl := hus.length
  have hsz : us.size = vs.length := by simpa using hl
  refine ⟨by simp; omega, rfl, fun t => ?_, fun s cs hs => (by cases hs), hh⟩
  simp only [AState.start]
  rcases Nat.lt_or_ge t vs.length with h' | h'
  · have e : vs.getD t .junk = vs[t] := by simp [List.getD_eq_getElem?_getD, h']
    obtain ⟨u, hu1, hu2⟩ := hus.get t vs[t] (by simp [h'])
    have e2 : (us ++ Array.replicate (fn.ntmps - us.size) undef).getD t undef = u := by
      rw [Array.getD_eq_getD_getElem?, Array.getElem?_append_left (by omega)]
      have : us[t]? = some u := by simpa using hu1
      rw [this]; rfl
    rw [e]
    simp only [e2]
    exact RV.of_RT (hfl _ (List.getElem_mem _)) (RT.of_RI hu2)
  · have e : vs.getD t .junk = .junk := by simp [List.getD_eq_getElem?_getD, h']
    rw [e]; simp [RV, RV1, RVc, RI]
theorem ACalls.of_aw {f : FuncId} {fn : Func} (hf : P.funcs[f]? = some fn) {c' : ACode} {rs : List ARes} (hck : ckFun P fn c' rs = true) {vs : List AVal} {h : List HObj} {Q : AVal → List HObj → Prop} (hlen : vs.length ≤ fn.ntmps)
    (haw : aw (ACalls P) c' (retQ rs Q) (.start vs h)) : ACalls P f vs h Q := by
  simp only [ckFun, Bool.and_eq_true, decide_eq_true_eq, Bool.not_eq_true'] at hck
  obtain ⟨⟨⟨c1, c2⟩, c3⟩, c4⟩ := hck
  split at c2
  case h_2 => cases c2
  rename_i c hb
  refine ⟨enters_of hf c1 hb, fun g w us hus hfl hh => ?_⟩
  refine calls_of_wp hf hb (wp_mono (code_ok c' c c2 (fun t s off e => by
      simp only [AState.start] at e
      rcases Nat.lt_or_ge t vs.length with h' | h'
      · have e1 : vs.getD t .junk = vs[t] := by simp [List.getD_eq_getElem?_getD, h']
        obtain ⟨u, _, hu⟩ := hus.get t vs[t] (by simp [h'])
        rw [e1] at e; rw [e] at hu; simp [RI] at hu
      · have e1 : vs.getD t .junk = .junk := by simp [List.getD_eq_getElem?_getD, h']
        rw [e1] at e; cases e) (start_ok hus hfl hh hlen) (.refl g w) haw) ?_)
  intro e a' w' hc
  have key : ∀ S g', (ress S rs).c ∧ Q (ress S rs).v S.heap → Rel fn.ntmps S g' a' w' → Evo g w g' w' → a'.defers = [] ∧ ∃ v, (results fn a'.tmps).run P w' = .ok v w' ∧
      ∃ v', Ending.returned v = .returned v' ∧ ∃ r h' g2, Q r h' ∧ noBox r = true ∧ RV g2 w' .ret r v' ∧ RHeap g2 w' h' ∧ Evo g w g2 w' := by
    rintro S g' ⟨hc1, hc2⟩ hR hE
    refine ⟨hR.defers, ?_⟩
    have hl := ckRes_length c3
    have heap : ∀ pre, RHeap (g'.ren (retO pre 0 rs)) w' S.heap := fun pre =>
      ⟨hR.heap.nh, fun id ob hob => RObj.mono Stb.ren (by rw [hR.heap.nh]; exact (List.getElem?_eq_some_iff.1 hob).1) (Keep.ren (retO_id pre (by simp) (by simp) rs 0)) (fun p => Keep.ren (retO_id pre (by simp) (by simp) rs 0)) (hR.heap.obj id ob hob),
        fun b hb => by simp only [Gh.ren]; rw [hR.heap.valid b hb]; exact retO_id pre (by simp) (by simp) rs 0⟩
    have evo : ∀ pre, Evo g w (g'.ren (retO pre 0 rs)) w' := fun pre => hE.trans (Evo.ren (retO_id pre (by simp) (by simp) rs 0) (retO_id pre (by simp) (by simp) rs 0))
    by_cases h1 : ∃ q, rs = [q]
    · obtain ⟨q, rfl⟩ := h1
      obtain ⟨r, hr⟩ : ∃ r, fn.results.toList = [r] := by
        match hq : fn.results.toList with
        | [r] => exact ⟨r, rfl⟩
        | [] => rw [hq] at hl; simp at hl
        | _ :: _ :: _ => rw [hq] at hl; simp at hl
      rw [hr] at c3
      obtain ⟨u, u1, u2, u3⟩ := res_one hR c3 hc1 (Stb.ren (ρ := retO (fun _ => []) 0 [q])) (own := .ret) (fun t e p => Keep.ren (by subst e; simpa using retO_slot (fun _ => []) p [.t t] 0 0 c4 rfl))
        (fun b ag sz e p => Keep.ren (by subst e; simpa using retO_boxc (fun _ => []) p [.c b ag sz] 0 0 c4 rfl))
      have hrun := results_run (P := P) (a := a') (w := w') (fn := fn) (us := [u]) (by rw [hr]; rfl) (fun i r' u' hi hu => by
        rw [hr] at hi
        cases i with
        | zero => simp at hi hu; subst hi hu; exact u1
        | succ i => simp at hi)
      simp only [List.length_singleton, if_true, List.headD_cons] at hrun
      refine ⟨u, hrun, u, rfl, _, S.heap, _, hc2, ?_, (RV.plain u3).2 u2, heap (fun _ => []), evo _⟩
      simp only [ress]
      cases hv : (resV S q).v <;> first | rfl | (rw [hv] at u3; simp [plainV] at u3)
    · have hress : ress S rs = ⟨∀ r ∈ rs, (resV S r).c, .tup (rs.map fun r => (resV S r).v)⟩ := by
        unfold ress; split
        · exact absurd ⟨_, rfl⟩ h1
        · rfl
      rw [hress] at hc1 hc2
      obtain ⟨us, v1, v2, v3⟩ := ress_ok hR (Stb.ren (ρ := retO (fun i => [i]) 0 rs)) fn.results.toList rs 0 c3 hc1 (fun j t hj p => Keep.ren (retO_slot (fun i => [i]) p rs 0 j c4 hj))
        (fun j b ag sz hj p => Keep.ren (retO_boxc (fun i => [i]) p rs 0 j c4 hj))
      have hrun := results_run (P := P) (a := a') (w := w') (fn := fn) v1 v2
      have hne : us.length ≠ 1 := by
        intro e
        apply h1
        exact List.length_eq_one_iff.1 (by omega)
      rw [if_neg hne] at hrun
      refine ⟨_, hrun, _, rfl, _, S.heap, _, hc2, rfl, ?_, heap (fun i => [i]), evo _⟩
      simp only [RV]
      exact ⟨us.toArray, rfl, v3⟩
  cases e with
  | normal =>
    obtain ⟨S, g', h1, _, h2, h3⟩ := hc
    exact key S g' h1 h2 h3
  | ret =>
    obtain ⟨S, g', h1, _, h2, h3⟩ := hc
    exact key S g' h1 h2 h3
  | exit i =>
    obtain ⟨S, g', h1, _⟩ := hc
    exact h1.elim
  | goto _ => exact hc.elim
  | panic _ => exact hc.elim
  | outgrown => exact hc.elim
end
end Go.Ge
