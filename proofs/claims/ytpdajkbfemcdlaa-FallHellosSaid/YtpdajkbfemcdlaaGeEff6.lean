/- Append. -/
import Derived.Test.YtpdajkbfemcdlaaGeEff5
set_option linter.unusedSimpArgs false
set_option linter.unusedVariables false
namespace Go.Ge
section
variable {P : Program} {n : Nat} {S : AState} {g : Gh} {a : Act} {w : World} {o : Oper} {next : Act → World → Prop} {Q : Exit → Act → World → Prop}

/-! ### The cells of a row of elements -/
def flat (us : List Value) : List Value := us.flatMap fun u => u.cells.toList
theorem flat_length {sz : Nat} : ∀ {us : List Value}, (∀ u ∈ us, u.cells.size = sz) → (flat us).length = us.length * sz
  | [], _ => by simp [flat]
  | u :: us, h => by
    have := flat_length (us := us) fun v hv => h v (by simp [hv])
    have h1 := h u (by simp)
    simp only [flat, List.flatMap_cons, List.length_append, Array.length_toList, List.length_cons] at this ⊢
    rw [this, h1, Nat.add_mul, Nat.one_mul]; omega
theorem flat_append (us vs : List Value) : flat (us ++ vs) = flat us ++ flat vs := by simp [flat]
theorem flat_get {sz : Nat} : ∀ {us : List Value}, (∀ u ∈ us, u.cells.size = sz) → ∀ {i j : Nat} {u x : Value}, us[i]? = some u → u.cells[j]? = some x → (flat us)[i * sz + j]? = some x
  | [], _, i, j, u, x, hi, _ => by simp at hi
  | v :: us, h, i, j, u, x, hi, hj => by
    have h1 := h v (by simp)
    simp only [flat, List.flatMap_cons]
    cases i with
    | zero =>
      simp at hi; subst hi
      have hlt := (Array.getElem?_eq_some_iff.1 hj).1
      rw [List.getElem?_append_left (by simp; omega)]
      simpa using hj
    | succ i =>
      rw [List.getElem?_append_right (by simp [Nat.add_mul]; omega)]
      have e : (i + 1) * sz + j - v.cells.toList.length = i * sz + j := by simp [Nat.add_mul]; omega
      rw [e]
      exact flat_get (us := us) (fun v hv => h v (by simp [hv])) (by simpa using hi) hj
theorem flat_at {sz : Nat} : ∀ {us : List Value}, (∀ u ∈ us, u.cells.size = sz) → ∀ {k : Nat} {x : Value}, (flat us)[k]? = some x → ∃ i j u, us[i]? = some u ∧ u.cells[j]? = some x ∧ k = i * sz + j
  | [], _, k, x, hk => by simp [flat] at hk
  | v :: us, h, k, x, hk => by
    have h1 := h v (by simp)
    simp only [flat, List.flatMap_cons] at hk
    rcases Nat.lt_or_ge k v.cells.toList.length with hlt | hge
    · rw [List.getElem?_append_left hlt] at hk
      exact ⟨0, k, v, by simp, by simpa using hk, by simp⟩
    · rw [List.getElem?_append_right hge] at hk
      obtain ⟨i, j, u, q1, q2, q3⟩ := flat_at (us := us) (fun v hv => h v (by simp [hv])) hk
      refine ⟨i + 1, j, u, by simpa using q1, q2, ?_⟩
      simp at q3 hge
      rw [Nat.add_mul]; omega
theorem Cont.cells {A : Option Addr} {us : List Value} {sz : Nat} (h : Cont g w A us) (hw : ∀ u ∈ us, u.cells.size = sz) {b off : Nat} (hA : A = some ⟨b, off, none⟩) {k : Nat} {x : Value} (hk : (flat us)[k]? = some x) :
    w.cell? ⟨b, off + k, none⟩ = some x ∧ x.oneCell' = true ∧ off + k < g.fr b := by
  obtain ⟨i, j, u, h1, h2, rfl⟩ := flat_at hw hk
  obtain ⟨sz', h3, h4⟩ := h
  have hm := List.mem_of_getElem? h1
  have : sz' = sz := by rw [← h3 u hm, hw u hm]
  subst this
  obtain ⟨b', off', e, h5⟩ := h4 (by intro e; subst e; simp at h1)
  rw [hA] at e; cases e
  obtain ⟨q1, q2, q3⟩ := h5 i u j x h1 h2
  rw [← Nat.add_assoc]
  exact ⟨q2, q3, q1⟩
theorem Cont.addr {A : Option Addr} {us : List Value} (h : Cont g w A us) (hne : us ≠ []) : ∃ b off, A = some ⟨b, off, none⟩ := by
  obtain ⟨sz, _, h2⟩ := h
  obtain ⟨b, off, e, _⟩ := h2 hne
  exact ⟨b, off, e⟩
theorem run_first {A : Option Addr} {us : List Value} {sz len cap : Nat} (h : Cont g w A us) (hw : ∀ u ∈ us, u.cells.size = sz) (hlen : len = us.length) {w' : World} (hc : ∀ ad, w'.cell? ad = w.cell? ad) :
    (Builtin.firstCells sz len (.slice A len cap)).run P w' = .ok (flat us).toArray w' := by
  subst hlen
  by_cases hne : us = []
  · subst hne
    cases A with
    | none => exact run_firstCells_none w' sz _ _ _
    | some ad => exact run_firstCells_some w' sz _ ad _ cap [] (by simp) (by simp)
  · obtain ⟨b, off, rfl⟩ := h.addr hne
    refine run_firstCells_some w' sz _ _ _ cap (flat us) (flat_length hw) fun j v hj => ?_
    rw [hc, Addr.add_lit]
    exact (h.cells hw rfl hj).1

/-- What the second argument of an append yields. -/
theorem src_ok {v : AVal} {u : Value} {ys : List AVal} {sz : Nat} {tx : TypeId} (h : RT g w v u) (hs : srcV v = some ys) (hw : ∀ y ∈ ys, y.width = sz) (hpos : 0 < sz) (hk : (sliceE P tx).isSome = true ∨ isStrT P tx = true) :
    ∃ us, RIs g w ys us ∧ (∀ u ∈ us, u.cells.size = sz) ∧ (∀ x ∈ flat us, x.oneCell' = true) ∧ Src P sz tx u us.length (flat us) w := by
  have hk' : (∃ e', P.underlying tx = some (.slice e')) ∨ P.underlying tx = some .string := by
    rcases hk with hk | hk
    · obtain ⟨e, he⟩ := isSome_iff' hk; exact .inl ⟨e, sliceE_ok he⟩
    · exact .inr (isStrT_ok hk)
  unfold srcV at hs
  split at hs
  · rename_i ow ys'
    cases hs
    simp only [RT, RI] at h
    obtain ⟨A, c, us, rfl, hl, hus, hc, _⟩ := h
    have hws := widths hus hw hpos
    have hone : ∀ x ∈ flat us, x.oneCell' = true := by
      intro x hx
      obtain ⟨k, hk⟩ := List.getElem?_of_mem hx
      obtain ⟨i, j, u, q1, _⟩ := flat_at hws hk
      obtain ⟨b, off, e⟩ := hc.addr (by intro e; subst e; simp at q1)
      exact (hc.cells hws e hk).2.1
    exact ⟨us, hus, hws, hone, hk', fun _ => rfl, run_first hc hws rfl (fun _ => rfl), run_first hc hws rfl (fun _ => by simp), flat_length hws, hone⟩
  · rename_i s
    cases hs
    have hu : u = .string s := by simpa [RT, RI] using h
    subst hu
    have hf : flat (byteCells s) = byteCells s := by
      simp only [flat, byteCells, List.flatMap_map]
      generalize s.data.toList = l
      induction l with
      | nil => rfl
      | cons b l ih => simp only [List.flatMap_cons, List.map_cons, ih]; rfl
    have hri : RIs g w (bytesV s) (byteCells s) := RIs.of_get (by simp [bytesV, byteCells]) fun i x u hx hu => by
      simp only [bytesV, byteCells, List.getElem?_map] at hx hu
      cases hb : s.data.toList[i]? with
      | none => rw [hb] at hx; simp at hx
      | some b => rw [hb] at hx hu; simp at hx hu; subst hx hu; simp [RI]
    have hone : ∀ x ∈ byteCells s, x.oneCell' = true := fun x hx => by
      obtain ⟨b, _, rfl⟩ := List.mem_map.1 hx; rfl
    refine ⟨byteCells s, hri, widths hri hw hpos, by rw [hf]; exact hone, ?_⟩
    rw [hf, byteCells_length]
    by_cases h0 : s.size = 0
    · have hnil : byteCells s = [] := List.eq_nil_of_length_eq_zero (by rw [byteCells_length]; exact h0)
      have hr : ∀ w' : World, (Builtin.firstCells sz s.size (.string s)).run P w' = .ok (byteCells s).toArray w' := by
        intro w'
        rw [hnil, h0]
        simp [Builtin.firstCells]
      exact ⟨hk', fun _ => rfl, hr w, hr w.drew, by simp [hnil, h0], hone⟩
    · have hsz : sz = 1 := by
        have hb := hw (.int .u8 (s.data.toList[0]'(by simpa using Nat.pos_of_ne_zero h0)).toNat) (by
          simp only [bytesV, List.mem_map]
          exact ⟨_, List.getElem_mem _, rfl⟩)
        simpa [AVal.width] using hb.symm
      subst hsz
      exact ⟨hk', fun _ => rfl, firstCells_string s w, firstCells_string s w.drew, by rw [byteCells_length]; omega, hone⟩
  · cases hs

def okO (o : Own) (sz : Nat) (xs : List AVal) : Prop := match o with | .nil => xs = [] | .app sz' => sz' = sz | .uniq sz' _ => sz' = sz | .sh => False
/-- The right to append, made out of what there is. -/
theorem RVc.grab {q : Ow} {ow : Own} {sz : Nat} {xs : List AVal} {v : Value} (h : RVc g w q (.lst ow xs) v) (ho : okO ow sz xs) (hq : q ≠ .no) (hq2 : q ≠ .other) :
    ∃ g', Evo g w g' w ∧ (∀ p, p ≠ q → Keep g w g' w p p) ∧ g'.ow = g.ow ∧ g'.ib = g.ib ∧ g'.io = g.io ∧ g'.nh = g.nh ∧ RVc g' w q (.lst (.app sz) xs) v := by
  have same : RVc g w q (.lst (.app sz) xs) v → ∃ g', Evo g w g' w ∧ (∀ p, p ≠ q → Keep g w g' w p p) ∧ g'.ow = g.ow ∧ g'.ib = g.ib ∧ g'.io = g.io ∧ g'.nh = g.nh ∧ RVc g' w q (.lst (.app sz) xs) v :=
    fun h => ⟨g, .refl g w, fun _ _ b hb => ⟨hb, rfl, rfl⟩, rfl, rfl, rfl, rfl, h⟩
  cases ow with
  | sh => exact ho.elim
  | nil =>
    have ho : xs = [] := ho
    subst ho
    simp only [RVc, RI] at h
    obtain ⟨A, c, us, e, hl, hus, hc, rfl, rfl⟩ := h
    refine same ?_
    simp only [RVc]
    have : us = [] := by simpa [RIs] using hus
    subst this
    exact ⟨_, _, [], e, hl, hus, by simp, hc, .inl rfl⟩
  | app sz' =>
    have ho : sz' = sz := ho
    subst ho; exact same h
  | uniq sz' c =>
    have ho : sz' = sz := ho
    subst ho
    simp only [RVc] at h
    obtain ⟨A, us, e, hl, hus, hws, h⟩ := h
    by_cases h0 : us = []
    · subst h0
      have hx : xs = [] := by have := hus.length; simpa using this.symm
      subst hx
      rcases h with h | ⟨b, off, cur, e', fz, h1, h2, h3, h4, h5, h6, h7⟩
      · refine same ?_
        simp only [RVc]
        exact ⟨A, c, [], e, hl, hus, hws, ⟨sz', by simp, by simp⟩, .inl (by simp [h])⟩
      · refine same ?_
        simp only [RVc]
        exact ⟨A, c, [], e, hl, hus, hws, ⟨sz', by simp, by simp⟩, .inr ⟨b, off, cur, e', fz, h1, h2, by simpa using h3, h4, h5, h6⟩⟩
    · have hc0 : c ≠ 0 := by
        have := List.length_pos_iff.2 h0; omega
      obtain ⟨b, off, cur, e', fz, h1, h2, h3, h4, h5, h6, h7⟩ := h.resolve_left hc0
      have hf : g.fr b ≤ off + us.length * sz' := by omega
      have hb : ∀ k, g.ow k ≠ q → k ≠ b := by rintro k hk rfl; exact hk h2
      have hstab : ∀ k, g.fr k ≤ (g.alloc b (g.ow b) (off + us.length * sz')).fr k := by
        intro k
        by_cases e : k = b
        · subst e; simpa [Gh.alloc] using hf
        · simp [Gh.alloc, e]
      have hevo : Evo g w (g.alloc b (g.ow b) (off + us.length * sz')) w := by
        refine ⟨rfl, rfl, rfl, Nat.le_refl _, fun k _ hk => ?_, fun k _ => ⟨hstab k, fun _ _ => rfl⟩, Nat.le_refl _, fun _ _ => rfl⟩
        have := hb k (hk.elim (fun e => by rw [e]; exact hq.symm) (fun e => by rw [e]; exact hq2.symm))
        exact ⟨rfl, by simp [Gh.alloc, this], by simp [Gh.alloc, this]⟩
      have how : (g.alloc b (g.ow b) (off + us.length * sz')).ow = g.ow := by
        funext k; by_cases e : k = b <;> simp [Gh.alloc, e]
      refine ⟨_, hevo, fun p hp k hk => ?_, how, rfl, rfl, rfl, ?_⟩
      · have := hb k (by rw [hk]; exact hp)
        exact ⟨by rw [how]; exact hk, rfl, by simp [Gh.alloc, this]⟩
      · simp only [RVc]
        refine ⟨A, c, us, e, hl, RIs.mono hevo.stb _ _ hus, hws, ⟨sz', hws, fun _ => ⟨b, off, h1, fun i u j x hi hj => ?_⟩⟩, .inr ⟨b, off, cur, e', fz, h1, by rw [how]; exact h2, by simp [Gh.alloc], h4, h5, h6⟩⟩
        obtain ⟨q1, q2⟩ := h7 i u j x hi hj
        refine ⟨?_, by rw [cell_of_block h4]; exact q1, q2⟩
        have hi' : i < us.length := (List.getElem?_eq_some_iff.1 hi).1
        have hj' : j < sz' := by rw [← hws u (List.mem_of_getElem? hi)]; exact (Array.getElem?_eq_some_iff.1 hj).1
        have : (i + 1) * sz' ≤ us.length * sz' := Nat.mul_le_mul_right _ hi'
        rw [Nat.add_mul] at this
        simp [Gh.alloc]; omega
theorem Rel.forget (hR : Rel n S g a w) (d : Nat) : Rel n (S.set d .junk) g a w :=
  ⟨hR.size, hR.defers, fun u => by
    simp only [AState.set]
    by_cases e : u = d
    · rw [if_pos e]; simp [RV, RV1, RVc, RI]
    · rw [if_neg e]; exact hR.env u, hR.boxes, hR.heap⟩
theorem set_set (S : AState) (d : Nat) (x y : AVal) : (S.set d x).put (some d) y = S.put (some d) y := by
  simp only [AState.set, AState.put]
  congr 1
  funext t; split <;> rfl
/-- The operand of an append, taken. -/
theorem Rel.grab (hR : Rel n S g a w) {x : Operand} {y : AOpn} (hx : opn x y = true) {ow : Own} {xs : List AVal} (hf : S.full y = .lst ow xs) {sz : Nat} (ho : okO ow sz xs) (d : Nat) :
    ∃ g', Rel n ((S.takeT y).set d .junk) g' a w ∧ Evo g w g' w ∧ RVc g' w (.slot d []) (.lst (.app sz) xs) (a.eval x) ∧ g'.ow = (fun b => g'.ow b) := by
  cases y with
  | c v =>
    rcases RV.of_opn hR hx with ⟨t, h1, _⟩ | ⟨_, h2⟩
    · cases h1
    · have h3 : RVc g w (.slot d []) (.lst ow xs) (a.eval x) := by
        have := h2 (.slot d); rw [hf] at this; exact this
      obtain ⟨g', q1, q2, q3, q4, q5, q6, q7⟩ := h3.grab ho (by simp) (by simp)
      refine ⟨g', ?_, q1, q7, rfl⟩
      have hR2 := hR.forget d
      refine ⟨hR2.size, hR2.defers, fun u => ?_, fun s cs hs => RBox.mono q1.stb (by rw [q4]) (q2 _ (by simp)) (fun p => q2 _ (by simp)) (hR2.boxes s cs hs),
        ⟨by rw [q6]; exact hR2.heap.nh, fun id ob hob => RObj.mono q1.stb (by rw [hR2.heap.nh]; exact (List.getElem?_eq_some_iff.1 hob).1) (q2 _ (by simp)) (fun p => q2 _ (by simp)) (hR2.heap.obj id ob hob), fun b hb => by rw [q3]; exact hR2.heap.valid b hb⟩⟩
      by_cases e : u = d
      · subst e; simp [AState.takeT, AState.set, RV, RV1, RVc, RI]
      · exact RV.mono q1.stb (fun p => q2 _ (by simp; intro e2; exact absurd e2 e)) _ _ (fun _ _ _ => by rw [q4]) (hR2.env u)
  | t m =>
    have hxm : x = .tmp m := by unfold opn at hx; split at hx <;> simp_all
    subst hxm
    have h3 : RVc g w (.slot m []) (.lst ow xs) (a.eval (.tmp m)) := by
      have := hR.env m
      have e : S.env m = .lst ow xs := hf
      rw [e] at this; exact this
    obtain ⟨g1, q1, q2, q3, q4, q5, q6, q7⟩ := h3.grab ho (by simp) (by simp)
    refine ⟨g1.ren (slT m d), ?_, q1.trans slT_no, RVc.mono Stb.ren (Keep.ren (slT_self m d)) _ _ q7, rfl⟩
    have hR2 := (hR.take m).forget d
    have hstb := q1.stb
    have hR3 : Rel n ((S.set m (remV (S.env m))).set d .junk) g1 a w ∨ True := .inr trivial
    have hkeep : ∀ p, p ≠ .slot m [] → Keep g w (g1.ren (slT m d)) w p p := by
      intro p hp b hb
      obtain ⟨k1, k2, k3⟩ := q2 p hp b hb
      exact ⟨by simp [Gh.ren, k1, slT, ren1, hp], k2, k3⟩
    have hstb2 : Stb g w (g1.ren (slT m d)) w := ⟨fun b o v h => hstb.st b o v h, hstb.nh, hstb.io⟩
    refine ⟨hR2.size, hR2.defers, fun u => ?_, fun s cs hs => RBox.mono hstb2 (by show g1.ib s = _; rw [q4]) (hkeep _ (by simp)) (fun p => hkeep _ (by simp)) (hR2.boxes s cs hs),
      ⟨by show g1.nh = _; rw [q6]; exact hR2.heap.nh, fun id ob hob => RObj.mono hstb2 (by rw [hR2.heap.nh]; exact (List.getElem?_eq_some_iff.1 hob).1) (hkeep _ (by simp)) (fun p => hkeep _ (by simp)) (hR2.heap.obj id ob hob),
       fun b hb => by simp [Gh.ren, q3, hR2.heap.valid b hb, slT, ren1]⟩⟩
    by_cases e : u = d
    · subst e; simp [AState.takeT, AState.set, RV, RV1, RVc, RI]
    · by_cases e2 : u = m
      · subst e2
        have hr := hR.env u
        have e3 : S.env u = .lst ow xs := hf
        have hr2 : RVc g w (.slot u []) (.lst ow xs) (a.tmps.getD u undef) := by rw [e3] at hr; exact hr
        have hri := RI.mono hstb2 _ _ (RI_remc hr2)
        simp only [AState.takeT, AState.set, if_neg e, if_true, e3]
        have hfl := flc_remc (.lst ow xs)
        cases ow <;> exact RVc.of_RI (o := .no) hfl hri
      · exact RV.mono hstb2 (fun p => hkeep _ (by simp; intro e3; exact absurd e3 e2)) _ _ (fun _ _ _ => by show g1.ib _ = _; rw [q4]) (hR2.env u)

/-- What is held alone may be held to append. -/
theorem Rel.toApp (hR : Rel n S g a w) {d : Nat} {sz c : Nat} {xs : List AVal} (h : S.env d = .lst (.uniq sz c) xs) : ∃ g', Rel n (S.set d (.lst (.app sz) xs)) g' a w ∧ Evo g w g' w := by
  have h3 : RVc g w (.slot d []) (.lst (.uniq sz c) xs) (a.tmps.getD d undef) := by
    have := hR.env d
    rw [h] at this; exact this
  obtain ⟨g1, q1, q2, q3, q4, q5, q6, q7⟩ := h3.grab (ow := .uniq sz c) (sz := sz) rfl (by simp) (by simp)
  refine ⟨g1, ⟨hR.size, hR.defers, fun u => ?_, fun s cs hs => RBox.mono q1.stb (by rw [q4]) (q2 _ (by simp)) (fun p => q2 _ (by simp)) (hR.boxes s cs hs),
    ⟨by rw [q6]; exact hR.heap.nh, fun id ob hob => RObj.mono q1.stb (by rw [hR.heap.nh]; exact (List.getElem?_eq_some_iff.1 hob).1) (q2 _ (by simp)) (fun p => q2 _ (by simp)) (hR.heap.obj id ob hob), fun b hb => by rw [q3]; exact hR.heap.valid b hb⟩⟩, q1⟩
  by_cases e : u = d
  · subst e
    simp only [AState.set, if_true]
    exact q7
  · simp only [AState.set, if_neg e]
    exact RV.mono q1.stb (fun p => q2 _ (by simp; intro e2; exact absurd e2 e)) _ _ (fun _ _ _ => by rw [q4]) (hR.env u)
theorem eff_str8' (hR : Rel n S g a w) {ty e : TypeId} {t d : Nat} (ho : o.op = .convert ty ty (.tmp t)) (hdst : o.dst = some d) (hd : d < n) (ht : P.underlying ty = some (.slice e)) (he : P.underlying e = some (.int .u8)) {K : AState → Prop}
    (h : match S.env t with
      | .lst (.uniq 1 _) xs => xs ≠ [] ∧ K ((S.set t .junk).put o.dst (.lst (.app 1) xs))
      | _ => False) (hn : Goes n g w K next) : o.wp P a w next Q := by
  split at h
  · rename_i cap xs henv
    obtain ⟨hne, hk⟩ := h
    refine eff_str8 hR ho hdst hd ht he (K := fun S1 => S1 = (S.set t .junk).put o.dst (.lst (.uniq 1 cap) xs)) ?_ ?_
    · rw [henv]; exact ⟨hne, rfl⟩
    · rintro S1 g1 a1 w1 rfl hR1 hE1
      rw [hdst] at hR1 hk
      obtain ⟨g2, hR2, hE2⟩ := hR1.toApp (d := d) (sz := 1) (c := cap) (xs := xs) (by simp [AState.put])
      have e1 : ((S.set t .junk).put (some d) (.lst (.uniq 1 cap) xs)).set d (.lst (.app 1) xs) = (S.set t .junk).put (some d) (.lst (.app 1) xs) := by
        simp only [AState.set, AState.put]
        congr 1
        funext u; split <;> rfl
      rw [e1] at hR2
      exact hn _ g2 _ _ hk hR2 (hE1.trans hE2)
  · exact h.elim

theorem run_append_empty {t tx ty e : TypeId} {i : TypeInfo} (ht : P.underlying t = some (.slice e)) (hi : P.info? e = some i) {base : Option Addr} {sLen sCap : Nat} {x : Value} {n : Nat} {news : List Value} (hs : Src P i.size tx x n news w) (hn : n = 0) (hle : sLen ≤ sCap) :
    (Builtin.append_ #[t, tx] ty #[.slice base sLen sCap, x]).run P w = .ok (.slice base sLen sCap) w := by
  subst hn
  have hnews : news = [] := List.eq_nil_of_length_eq_zero (by rw [hs.newsLen]; simp)
  subst hnews
  have h1 := hs.cells
  rcases hs.kind with ⟨e', hk⟩ | hk <;> cases base <;> simp [Builtin.append_, run_underlying ht, run_underlying hk, sizeOf, typeInfo, hi, hs.len, hle, h1, storeCells]

theorem eff_append (hR : Rel n S g a w) {c : Call} {x y : Operand} {x' y' : AOpn} {ts tx e : TypeId} {it : TypeInfo} {z : Value} {sz bytes d : Nat} (ho : o.op = .call c) (hcal : c.callee = .builtin .append) (hargs : c.args = #[x, y]) (hts : c.argTypes = #[ts, tx])
    (hx : opn x x' = true) (hy : opn y y' = true) (ht : P.underlying ts = some (.slice e)) (hk : (sliceE P tx).isSome = true ∨ isStrT P tx = true) (hit : P.info? e = some it) (hz : it.zero = some z) (hsz : it.size = sz) (hpos : 0 < sz) (hby : it.bytes = bytes) (hzs : z.cells.size = sz)
    (hdst : o.dst = some d) (hd : d < n) {K : AState → Prop}
    (h : match S.full x', srcV (S.rd y') with
      | .lst o xs, some ys => (match o with | .nil => xs = [] | .app sz' => sz' = sz | .uniq sz' _ => sz' = sz | .sh => False) ∧
          (∀ v ∈ ys, v.width = sz) ∧ (xs.length + ys.length) * bytes ≤ 140737488355328 ∧ xs.length + ys.length ≤ 140737488355328 ∧
          K ((S.takeT x').put d (.lst (.app sz) (xs ++ ys)))
      | _, _ => False) (hn : Goes n g w K next) : o.wp P a w next Q := by
  split at h
  · rename_i ow xs ys hf hsv
    obtain ⟨h1, h2, h3, h4, hk'⟩ := h
    obtain ⟨g1, hR1, evo1, hv, _⟩ := hR.grab hx hf (sz := sz) h1 d
    simp only [RVc] at hv
    obtain ⟨A, cap, us, ee, hlc, hus, hws, hcont, hsp⟩ := hv
    obtain ⟨us2, hus2, hws2, hone2, hsrc⟩ := src_ok (RT.of_opn hR hy) hsv h2 hpos hk
    have hus2' : RIs g1 w ys us2 := RIs.mono evo1.stb _ _ hus2
    have hl1 := hus.length
    have hl2 := hus2.length
    have happ : RIs g1 w (xs ++ ys) (us ++ us2) := hus.append hus2'
    have hwa : ∀ u ∈ us ++ us2, u.cells.size = sz := fun u hu => by
      rcases List.mem_append.1 hu with hu | hu
      · exact hws u hu
      · exact hws2 u hu
    have hrun : ∀ v w', (Builtin.append_ #[ts, tx] o.type #[a.eval x, a.eval y]).run P w = .ok v w' → (execOp a.eval o).run P w = .ok (.value v) w' := by
      intro v w' hr
      simp [execOp, ho, resolve, hcal, hargs, invoke, builtin, hts, hr]
    rw [ee] at hrun
    subst hsz
    have hold : ∀ x ∈ flat us, x.oneCell' = true := by
      intro x hx
      obtain ⟨k, hk⟩ := List.getElem?_of_mem hx
      obtain ⟨i, j, u, q1, _⟩ := flat_at hws hk
      obtain ⟨b, off, e⟩ := hcont.addr (by intro e; subst e; simp at q1)
      exact (hcont.cells hws e hk).2.1
    rcases Nat.eq_zero_or_pos us2.length with h0 | h0
    · have hr := run_append_empty (ty := o.type) (sLen := us.length) (sCap := cap) (base := A) ht hit hsrc h0 hlc
      refine wp_value (hrun _ _ hr) ?_
      rw [hdst]
      have hys : ys = [] := List.eq_nil_of_length_eq_zero (by omega)
      subst hys
      rw [List.append_nil] at hk'
      have := hR1.put (d := some d) (x := .lst (.app it.size) xs) (v := .slice A us.length cap) (by intro k hk; cases hk; exact hd) (by
        intro k hk; cases hk
        simp only [RV, RV1, RVc]
        exact ⟨A, cap, us, rfl, hlc, hus, hws, hcont, hsp⟩)
      rw [set_set] at this
      exact hn _ _ _ _ hk' this evo1
    · have hfl2 := flat_length hws2
      by_cases hroom : us.length + us2.length ≤ cap
      · obtain ⟨b, off, cur, e', fz, s1, s2, s3, s4, s5, s6⟩ := hsp.resolve_left (by omega)
        subst s1
        have hmul : us.length * it.size + us2.length * it.size ≤ cap * it.size := by rw [← Nat.add_mul]; exact Nat.mul_le_mul_right _ hroom
        have hle : off + us.length * it.size + (flat us2).length ≤ cur.size := by omega
        have hr := run_append_room_src (P := P) w ts tx o.type e it ht hit b off us.length cap (a.eval y) us2.length (flat us2) hsrc hroom
          (fun j hj => by rw [cell_of_block s4]; simp; omega)
          (fun j hj => by
            simp only [World.frozen?, s4]
            have := s6.at (off + us.length * it.size + j) (by omega)
            simpa using this)
        refine wp_value (hrun _ _ hr) ?_
        rw [hdst]
        have evo2 := Evo.write (g := g1) (w := w) (vs := flat us2) s4 hle s3 (by rw [s2]; simp) (by rw [s2]; simp) (.slot d []) (off + (us.length + us2.length) * it.size) (by rw [Nat.add_mul]; omega)
        have keep2 : ∀ q, q ≠ .slot d [] → Keep g1 w (g1.alloc b (.slot d []) (off + (us.length + us2.length) * it.size)) (w.setCells b (off + us.length * it.size) (flat us2)) q q := by
          intro q hq
          exact Keep.write (by rw [s2]; exact fun e => hq e.symm)
        have hblk := setCells_block (flat us2) _ w cur s4 hle
        have hblt : b < w.heap.size := (Array.getElem?_eq_some_iff.1 s4).1
        have base : Rel n ((S.takeT x').set d .junk) (g1.alloc b (.slot d []) (off + (us.length + us2.length) * it.size)) a (w.setCells b (off + us.length * it.size) (flat us2)) := by
          refine ⟨hR1.size, hR1.defers, fun u => ?_, fun s cs hs => RBox.mono evo2.stb rfl (keep2 _ (by simp)) (fun p => keep2 _ (by simp)) (hR1.boxes s cs hs),
            ⟨hR1.heap.nh, fun id ob hob => RObj.mono evo2.stb (by rw [hR1.heap.nh]; exact (List.getElem?_eq_some_iff.1 hob).1) (keep2 _ (by simp)) (fun p => keep2 _ (by simp)) (hR1.heap.obj id ob hob), fun b' hb' => ?_⟩⟩
          · by_cases e2 : u = d
            · subst e2; simp [AState.set, RV, RV1, RVc, RI]
            · exact RV.mono evo2.stb (fun p => keep2 _ (by simp; intro e3; exact absurd e3 e2)) _ _ (fun _ _ _ => rfl) (hR1.env u)
          · rw [setCells_size] at hb'
            have : b' ≠ b := by omega
            simp [Gh.alloc, this, hR1.heap.valid b' hb']
        have := base.put (d := some d) (x := .lst (.app it.size) (xs ++ ys)) (v := .slice (some ⟨b, off, none⟩) (us.length + us2.length) cap) (by intro k hk; cases hk; exact hd) (by
          intro k hk; cases hk
          simp only [RV, RV1, RVc]
          refine ⟨_, cap, us ++ us2, by rw [List.length_append], by rw [List.length_append]; exact hroom, RIs.mono evo2.stb _ _ happ, hwa, ⟨it.size, hwa, fun _ => ⟨b, off, rfl, fun i u j x hi hj => ?_⟩⟩,
            .inr ⟨b, off, _, e', fz, rfl, by simp [Gh.alloc], by simp [Gh.alloc], hblk, by rw [putArr_size hle]; exact s5, by rw [putArr_size hle]; exact s6⟩⟩
          have hfa := flat_get hwa hi hj
          rw [flat_append] at hfa
          have hlen := (List.getElem?_eq_some_iff.1 hfa).1
          rw [List.length_append, flat_length hws, hfl2] at hlen
          refine ⟨by simp only [Gh.alloc, if_true]; rw [Nat.add_mul]; omega, ?_, ?_⟩
          · rw [cell_of_block hblk]
            rcases Nat.lt_or_ge (i * it.size + j) (us.length * it.size) with hlt | hge
            · rw [putArr_out hle (.inl (by omega))]
              rw [List.getElem?_append_left (by rw [flat_length hws]; exact hlt)] at hfa
              have := (hcont.cells hws rfl hfa).1
              rwa [cell_of_block s4, ← Nat.add_assoc] at this
            · rw [List.getElem?_append_right (by rw [flat_length hws]; exact hge), flat_length hws] at hfa
              have e3 : off + i * it.size + j = off + us.length * it.size + (i * it.size + j - us.length * it.size) := by omega
              rw [e3, putArr_in hle (by omega)]
              exact hfa
          · have hm := List.mem_of_getElem? hfa
            rcases List.mem_append.1 hm with hm | hm
            · exact hold x hm
            · exact hone2 x hm)
        rw [set_set] at this
        exact hn _ _ _ _ hk' this (evo1.trans evo2)
      · have hg : cap < us.length + us2.length := by omega
        have hr := run_append_grow_src (P := P) w ts tx o.type e it z ht hit hz A us.length cap (flat us) (run_first hcont hws rfl (fun _ => by simp)) (a.eval y) us2.length (flat us2) hsrc hg (by omega) (growslice_fits hg (by rw [hby, hl1, hl2]; exact h3))
        refine wp_value (hrun _ _ hr) ?_
        rw [hdst]
        have hge := grownCap_ge w (us.length + us2.length) cap e
        generalize hG : grownCap w (us.length + us2.length) cap e = G at hge ⊢
        have hzc : (Builtin.zeroCells z.cells (G - (us.length + us2.length))).size = (G - (us.length + us2.length)) * it.size := by simp [Builtin.zeroCells, hzs]
        have hfa := flat_length hwa
        rw [flat_append] at hfa
        have hsize : ((flat us ++ flat us2).toArray ++ Builtin.zeroCells z.cells (G - (us.length + us2.length))).size = G * it.size := by
          rw [Array.size_append, hzc, List.size_toArray, hfa, List.length_append, ← Nat.add_mul]
          congr 1; omega
        obtain ⟨f1, f2⟩ := new_row (g := g1) (w := w) (w' := w.drew.alloc (.cells ((flat us ++ flat us2).toArray ++ Builtin.zeroCells z.cells (G - (us.length + us2.length))) e)) hR1.heap.valid
          ⟨rfl, rfl, rfl, by simp, fun b hb => heap_alloc w.drew _ b (by show b ≠ w.heap.size; omega)⟩ (by simp) (heap_alloc_self w.drew _) (.inl rfl) (xs := xs ++ ys) (us := us ++ us2) (sz := it.size) (cap := G) happ hwa (by rw [List.length_append]; exact hge) (by rw [hsize]; exact Nat.le_refl _)
          (fun i u j x hi hj => by
            have hfg := flat_get hwa hi hj
            rw [flat_append] at hfg
            have hlt := (List.getElem?_eq_some_iff.1 hfg).1
            refine ⟨by rw [Array.getElem?_append_left (by simpa using hlt)]; simpa using hfg, ?_⟩
            rcases List.mem_append.1 (List.mem_of_getElem? hfg) with hm | hm
            · exact hold x hm
            · exact hone2 x hm) false (.slot d)
        rw [List.length_append] at f1 f2
        have := (hR1.fresh f1).put (d := some d) (x := .lst (.app it.size) (xs ++ ys)) (v := .slice (some ⟨w.heap.size, 0, none⟩) (us.length + us2.length) G) (by intro k hk; cases hk; exact hd) (by
          intro k hk; cases hk; exact f2)
        rw [set_set] at this
        exact hn _ _ _ _ hk' this (evo1.trans f1.evo)
  · exact h.elim
end
end Go.Ge
