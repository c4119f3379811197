/- The operations that do more than fill their slot, one by one: moves that take, boxes, loads that take, stores. -/
import Derived.Test.YtpdajkbfemcdlaaGeEff1
set_option linter.unusedSimpArgs false
set_option linter.unusedVariables false
namespace Go.Ge
section
variable {P : Program} {n : Nat} {S : AState} {g : Gh} {a : Act} {w : World} {o : Oper} {next : Act → World → Prop} {Q : Exit → Act → World → Prop}

theorem wp_value {u : Value} {w' : World} (h : (execOp a.eval o).run P w = .ok (.value u) w') (k : next (a.put o.dst u) w') : o.wp P a w next Q := by
  unfold Oper.wp; rw [h]; exact k
theorem wp_skip' {w' : World} (h : (execOp a.eval o).run P w = .ok .skip w') (k : next (a.put o.dst undef) w') : o.wp P a w next Q := by
  unfold Oper.wp; rw [h]; exact k
/-- Goes on from every state that K lets in. -/
def Goes (n : Nat) (g : Gh) (w : World) (K : AState → Prop) (next : Act → World → Prop) : Prop :=
  ∀ S' g' a' w', K S' → Rel n S' g' a' w' → Evo g w g' w' → next a' w'
theorem wp_ok1 (hR : Rel n S g a w) (hd : ∀ k, o.dst = some k → k < n) {x : AVal} (h : ∀ own, Ok1 P (execOp a.eval o) g w own x) {K : AState → Prop} (hK : K (S.put o.dst x)) (hn : Goes n g w K next) : o.wp P a w next Q := by
  cases hdst : o.dst with
  | none =>
    obtain ⟨u, w', g', h1, h2, h3⟩ := h (fun p => .slot 0 p)
    refine wp_value h1 (hn (S.put o.dst x) g' _ w' hK ?_ h2.evo)
    exact (hR.fresh h2).put hd (by rw [hdst]; intro k hk; cases hk)
  | some d =>
    obtain ⟨u, w', g', h1, h2, h3⟩ := h (.slot d)
    refine wp_value h1 (hn (S.put o.dst x) g' _ w' hK ?_ h2.evo)
    exact (hR.fresh h2).put hd (by rw [hdst]; intro k hk; cases hk; exact h3)

/-- A change of names that lets boxes and the heap be. -/
structure Calm (ρ : Ow → Ow) : Prop where
  no : ρ .no = .no
  other : ρ .other = .other
  box : ∀ s, ρ (.box s) = .box s
  boxc : ∀ s p, ρ (.boxc s p) = .boxc s p
  obj : ∀ i, ρ (.obj i) = .obj i
  objc : ∀ i p, ρ (.objc i p) = .objc i p
theorem RHeap.ren {ρ : Ow → Ow} {h : List HObj} (hρ : Calm ρ) (hh : RHeap g w h) : RHeap (g.ren ρ) w h :=
  ⟨hh.nh, fun id o ho => RObj.mono Stb.ren (by rw [hh.nh]; exact (List.getElem?_eq_some_iff.1 ho).1) (Keep.ren (hρ.obj id)) (fun p => Keep.ren (hρ.objc id p)) (hh.obj id o ho),
    fun b hb => by simp [Gh.ren, hh.valid b hb, hρ.no]⟩
theorem RBox.ren {ρ : Ow → Ow} {s : Nat} {cs : List AVal} (hρ : Calm ρ) (h : RBox g w s cs) : RBox (g.ren ρ) w s cs :=
  RBox.mono Stb.ren rfl (Keep.ren (hρ.box s)) (fun p => Keep.ren (hρ.boxc s p)) h
/-- Slot t's holdings go to the names q. -/
def renSlot (t : Nat) (q : List Nat → Ow) : Ow → Ow
  | .slot t' p => if t' = t then q p else .slot t' p
  | o => o
theorem Calm.renSlot (t : Nat) (q : List Nat → Ow) : Calm (renSlot t q) := ⟨rfl, rfl, fun _ => rfl, fun _ _ => rfl, fun _ => rfl, fun _ _ => rfl⟩
theorem renSlot_self (t : Nat) (q : List Nat → Ow) (p : List Nat) : renSlot t q (.slot t p) = q p := by simp [renSlot]
theorem renSlot_other {t u : Nat} (h : u ≠ t) (q : List Nat → Ow) (p : List Nat) : renSlot t q (.slot u p) = .slot u p := by simp [renSlot, h]
theorem tmps_put {m : Nat} {a : Act} (hs : a.tmps.size = m) {k : Nat} (hk : k < m) (v : Value) (u : Nat) : (a.put (some k) v).tmps.getD u undef = if u = k then v else a.tmps.getD u undef := by
  simp only [Act.put]
  by_cases e : u = k
  · subst e; simp [Array.getD_eq_getD_getElem?, hs, hk]
  · rw [if_neg e]
    simp only [Array.getD_eq_getD_getElem?, Array.getElem?_setIfInBounds]
    rw [if_neg (by omega)]

/-- A slot's value goes to another slot; the first keeps what it may. -/
theorem Rel.move (hR : Rel n S g a w) {t d : Nat} (hd : d < n) : ∃ g', Rel n ((S.set t (remV (S.env t))).set d (S.env t)) g' (a.put (some d) (a.tmps.getD t undef)) w ∧ Evo g w g' w := by
  refine ⟨g.ren (renSlot t (.slot d)), ⟨by simpa [Act.put] using hR.size, hR.defers, fun u => ?_, fun s cs hs => (hR.boxes s cs hs).ren (.renSlot ..), hR.heap.ren (.renSlot ..)⟩, Evo.ren rfl rfl⟩
  rw [tmps_put hR.size hd]
  simp only [AState.set]
  by_cases e : u = d
  · rw [if_pos e, if_pos e]; subst e
    exact RV.mono Stb.ren (fun p => Keep.ren (renSlot_self ..)) _ _ (fun _ _ _ => rfl) (hR.env t)
  · rw [if_neg e, if_neg e]
    by_cases e2 : u = t
    · rw [if_pos e2]; subst e2
      exact (RV.mono (own' := .slot d) Stb.ren (fun p => Keep.ren (renSlot_self ..)) _ _ (fun _ _ _ => rfl) (hR.env u)).rem
    · rw [if_neg e2]
      exact RV.mono Stb.ren (fun p => Keep.ren (renSlot_other e2 ..)) _ _ (fun _ _ _ => rfl) (hR.env u)
theorem Rel.take (hR : Rel n S g a w) (t : Nat) : Rel n (S.set t (remV (S.env t))) g a w :=
  ⟨hR.size, hR.defers, fun u => by
    simp only [AState.set]
    by_cases e : u = t
    · rw [if_pos e]; subst e; exact (hR.env u).rem
    · rw [if_neg e]; exact hR.env u, hR.boxes, hR.heap⟩
theorem eff_move (hR : Rel n S g a w) {x : Operand} {y : AOpn} (ho : o.op = .move x ∨ o.op = .assign x) (hx : opn x y = true) (hd : ∀ k, o.dst = some k → k < n) {K : AState → Prop}
    (h : match S.full y with | .tup _ => False | v => K ((S.takeT y).put o.dst v)) (hn : Goes n g w K next) : o.wp P a w next Q := by
  have hrun : (execOp a.eval o).run P w = .ok (.value (a.eval x)) w := by rcases ho with ho | ho <;> simp [execOp, ho]
  have hK : K ((S.takeT y).put o.dst (S.full y)) := by
    cases hf : S.full y <;> rw [hf] at h <;> first | exact h | exact h.elim
  refine wp_value hrun ?_
  cases y with
  | c v =>
    rcases RV.of_opn hR hx with ⟨t, h1, _⟩ | ⟨_, h2⟩
    · cases h1
    · exact hn _ g _ w hK (hR.put hd fun k _ => h2 _) (.refl g w)
  | t m =>
    have hxm : x = .tmp m := by unfold opn at hx; split at hx <;> simp_all
    subst hxm
    cases hdst : o.dst with
    | none => rw [hdst] at hK; exact hn _ g _ w hK (hR.take m) (.refl g w)
    | some d =>
      obtain ⟨g', r1, r2⟩ := hR.move (t := m) (hd d hdst)
      rw [hdst] at hK
      exact hn _ g' _ w hK r1 r2

/-! ### Boxes -/
theorem RV.ibs {g g' : Gh} {own : List Nat → Ow} {x : AVal} {v : Value} (hg : g'.fr = g.fr) (ho : g'.ow = g.ow) (hio : g'.io = g.io) (hnh : g'.nh = g.nh) (hb : ∀ s off, x = .box s off → g'.ib s = g.ib s) (h : RV g w own x v) : RV g' w own x v :=
  RV.mono ⟨fun b o v ⟨h1, h2⟩ => ⟨by rw [hg]; exact h1, h2⟩, by rw [hnh]; exact Nat.le_refl _, fun id _ => by rw [hio]⟩ (fun p b hb => ⟨by rw [ho]; exact hb, rfl, by rw [hg]⟩) _ _ hb h
def Gh.newBox (g : Gh) (b s : Nat) : Gh := { g.alloc b (.box s) 0 with ib := fun t => if t = s then b else g.ib t }
/-- A new box in slot s. -/
theorem Rel.newBox (hR : Rel n S g a w) {s : Nat} (hs : s < n) {us : Array Value} {e : TypeId} {cs : List AVal} (hcs : RVs (g.newBox w.heap.size s) (w.alloc (.cells us e)) (fun i => .boxc s [i]) 0 cs us.toList) :
    Rel n (((S.drop s).setBox s (some cs)).set s (.box s 0)) (g.newBox w.heap.size s) (a.put (some s) (.pointer (some ⟨w.heap.size, 0, none⟩))) (w.alloc (.cells us e)) ∧ Evo g w (g.newBox w.heap.size s) (w.alloc (.cells us e)) := by
  have hf := Fresh.alloc (g := g) (w := w) hR.heap.valid (.cells us e) (.box s) 0
  have hR' := hR.fresh hf
  have hevo : Evo g w (g.newBox w.heap.size s) (w.alloc (.cells us e)) := ⟨hf.evo.os, hf.evo.tape, hf.evo.output, hf.evo.size, hf.evo.fixed, hf.evo.stab, hf.evo.nh, hf.evo.io⟩
  refine ⟨⟨by simpa [Act.put] using hR.size, hR.defers, fun u => ?_, fun q ds hq => ?_, ?_⟩, hevo⟩
  · rw [tmps_put hR.size hs]
    simp only [AState.set, AState.setBox, AState.drop]
    by_cases e : u = s
    · rw [if_pos e, if_pos e]
      simp [RV, Gh.newBox]
    · rw [if_neg e, if_neg e]
      have h := hR'.env u
      split
      · rename_i s' off hv
        rw [hv] at h
        by_cases e2 : s' = s
        · rw [if_pos e2]; simp [RV, RV1, RVc, RI]
        · rw [if_neg e2]
          simp only [RV] at h ⊢
          simp only [Gh.newBox, e2, if_false]; exact h
      · rename_i v hv hne
        exact RV.ibs (g := g.alloc w.heap.size (.box s) 0) rfl rfl rfl rfl (fun s' off hx => absurd hx (hne s' off)) h
  · simp only [AState.set, AState.setBox, AState.drop] at hq
    by_cases e2 : q = s
    · subst e2
      rw [if_pos rfl] at hq; cases hq
      refine ⟨us, e, (0, 0), ?_, (.inl rfl), by simp [Gh.newBox, Gh.alloc], by simp [Gh.newBox, Gh.alloc], hcs⟩
      simp only [Gh.newBox, if_true]; exact heap_alloc_self _ _
    · rw [if_neg e2] at hq
      obtain ⟨us', e', fz, h1, h2, h3, h4, h5⟩ := hR'.boxes q ds hq
      have hib : (g.newBox w.heap.size s).ib q = g.ib q := by simp [Gh.newBox, e2]
      refine ⟨us', e', fz, by rw [hib]; exact h1, h2, by rw [hib]; exact h3, by rw [hib]; exact h4, ?_⟩
      exact RVs.mono (g := g.alloc w.heap.size (.box s) 0) (g' := g.newBox w.heap.size s) ⟨fun _ _ _ h => h, Nat.le_refl _, fun _ _ => rfl⟩ _ _ _ (fun j b hb => ⟨hb, rfl, rfl⟩) h5
  · refine ⟨hR'.heap.nh, fun id o ho => ?_, hR'.heap.valid⟩
    exact RObj.mono (g := g.alloc w.heap.size (.box s) 0) (g' := g.newBox w.heap.size s) ⟨fun _ _ _ h => h, Nat.le_refl _, fun _ _ => rfl⟩ (by rw [hR'.heap.nh]; exact (List.getElem?_eq_some_iff.1 ho).1) (fun b hb => ⟨hb, rfl, rfl⟩) (fun p b hb => ⟨hb, rfl, rfl⟩) (hR'.heap.obj id o ho)
theorem eff_alloc (hR : Rel n S g a w) {t : TypeId} {zs : List AVal} {it : TypeInfo} {z : Value} {s : Nat} (ho : o.op = .alloc t) (hdst : o.dst = some s) (hs : s < n) (hit : P.info? t = some it) (hz : it.zero = some z)
    (hzs : cvs z.cells.toList zs = true) {K : AState → Prop} (h : K (((S.drop s).setBox s (some zs)).set s (.box s 0))) (hn : Goes n g w K next) : o.wp P a w next Q := by
  obtain ⟨r1, r2⟩ := hR.newBox hs (us := z.cells) (e := t) (cs := zs) (RVs.of_cvs hzs)
  refine wp_value (u := .pointer (some ⟨w.heap.size, 0, none⟩)) (w' := w.alloc (.cells z.cells t)) ?_ ?_
  · simp [execOp, ho, Instr.alloc, zeroValue, typeInfo, hit, hz, newVar, newRow]
  · rw [hdst]; exact hn _ _ _ _ h r1 r2
/-! ### The cells of a value that is stored -/
def pth (x : AVal) (i : Nat) : List Nat := match x with | .agg _ => [i] | _ => []
theorem RVc.one {q : Ow} {x : AVal} {v : Value} (h : RVc g w q x v) (hs : storC x = true) : v.oneCell' = true := by
  cases x <;> try (simp [storC] at hs; done)
  case lst o xs =>
    cases o <;> simp only [RVc, RI] at h <;> first | (obtain ⟨A, c, us, rfl, _⟩ := h; rfl) | (obtain ⟨A, us, rfl, _⟩ := h; rfl)
  all_goals exact RI.one (x := _) (by simpa [RVc] using h) hs
theorem RVs.ones {own : Nat → Ow} : ∀ {xs : List AVal} {i : Nat} {us : List Value}, RVs g w own i xs us → xs.all storC = true → ∀ c ∈ us, c.oneCell' = true
  | [], _, us, h, _ => by simp [RVs] at h; simp [h]
  | x :: xs, i, us, h, hs => by
    simp only [RVs] at h
    obtain ⟨u, us', rfl, h1, h2⟩ := h
    simp only [List.all_cons, Bool.and_eq_true] at hs
    intro c hc
    simp only [List.mem_cons] at hc
    rcases hc with rfl | hc
    · exact h1.one hs.1
    · exact RVs.ones h2 hs.2 c hc
theorem RV.cell {own : List Nat → Ow} {x : AVal} {v : Value} (h : RV g w own x v) (hs : storC x = true) : RVc g w (own []) x v := by
  cases x <;> first | exact h | simp [storC] at hs
theorem storable_cases {x : AVal} (hs : storable x = true) : (∃ cs, x = .agg cs ∧ cs.all storC = true) ∨ (storC x = true ∧ x.cells = [x] ∧ ∀ i, pth x i = []) := by
  cases x <;> first | exact .inl ⟨_, rfl, hs⟩ | exact .inr ⟨hs, rfl, fun _ => rfl⟩
theorem RV.cells {own : List Nat → Ow} {x : AVal} {v : Value} (h : RV g w own x v) (hs : storable x = true) :
    RVs g w (fun i => own (pth x i)) 0 x.cells v.cells.toList ∧ ∀ c ∈ v.cells.toList, c.oneCell' = true := by
  rcases storable_cases hs with ⟨cs, rfl, hcs⟩ | ⟨h0, h1, h2⟩
  · simp only [RV, RV1] at h
    obtain ⟨us, rfl, h⟩ := h
    exact ⟨h, h.ones hcs⟩
  · have hc := h.cell h0
    have ho := hc.one h0
    have hv : v.cells = #[v] := by cases v <;> first | rfl | simp [Value.oneCell'] at ho
    rw [hv, h1]
    refine ⟨?_, by simpa using ho⟩
    simp only [h2, RVs]
    exact ⟨v, [], rfl, hc, rfl⟩
def renStore (t : Nat) (x : AVal) (target : Nat → Ow) : Ow → Ow
  | .slot t' p => if t' = t then (match x, p with
    | .agg _, [i] => target i
    | .agg _, p => .slot t' p
    | _, [] => target 0
    | _, p => .slot t' p) else .slot t' p
  | o => o
theorem Calm.renStore (t : Nat) (x : AVal) (target : Nat → Ow) : Calm (renStore t x target) := ⟨rfl, rfl, fun _ => rfl, fun _ _ => rfl, fun _ => rfl, fun _ _ => rfl⟩
theorem renStore_pth {t : Nat} {x : AVal} {target : Nat → Ow} {i : Nat} (hi : i < x.cells.length) : renStore t x target (.slot t (pth x i)) = target i := by
  cases x <;> simp only [renStore, pth, if_true] <;> (simp [AVal.cells] at hi; subst hi; rfl)
theorem renStore_other {t u : Nat} (h : u ≠ t) {x : AVal} {target : Nat → Ow} {p : List Nat} : renStore t x target (.slot u p) = .slot u p := by simp [renStore, h]
theorem RVs.mono' {g g' : Gh} {w w' : World} (hs : Stb g w g' w') {own own' : Nat → Ow} {xs : List AVal} {i : Nat} {us : List Value} (hk : ∀ j, j < xs.length → Keep g w g' w' (own (i + j)) (own' (i + j))) (h : RVs g w own i xs us) : RVs g' w' own' i xs us := by
  refine RVs.of_get h.length fun j x u hx hu => ?_
  obtain ⟨u', h1, h2⟩ := h.get j x hx
  rw [h1] at hu; cases hu
  exact RVc.mono hs (hk j (List.getElem?_eq_some_iff.1 hx).1) _ _ h2

theorem flc_remc (x : AVal) : flc (remc x) = true := by
  cases x <;> first | rfl | (rename_i o xs; cases o <;> rfl)
/-- What was taken out of slot t. -/
theorem Rel.takeStore (hR : Rel n S g a w) (t : Nat) (target : Nat → Ow) (hs : storable (S.env t) = true) :
    Rel n (S.set t (remV (S.env t))) (g.ren (renStore t (S.env t) target)) a w ∧ Evo g w (g.ren (renStore t (S.env t) target)) w ∧
      RVs (g.ren (renStore t (S.env t) target)) w target 0 (S.env t).cells (a.tmps.getD t undef).cells.toList ∧ ∀ c ∈ (a.tmps.getD t undef).cells.toList, c.oneCell' = true := by
  obtain ⟨h1, h2⟩ := (hR.env t).cells hs
  refine ⟨⟨hR.size, hR.defers, fun u => ?_, fun s cs hq => (hR.boxes s cs hq).ren (.renStore ..), hR.heap.ren (.renStore ..)⟩, Evo.ren rfl rfl, RVs.mono' Stb.ren (fun j hj => Keep.ren (by simpa using renStore_pth hj)) h1, h2⟩
  simp only [AState.set]
  by_cases e : u = t
  · rw [if_pos e]; subst e
    have hr := (hR.env u).rem (own' := .slot u)
    -- what is left holds nothing
    have hfl : flv (remV (S.env u)) = true ∨ ∃ s off, remV (S.env u) = .box s off := by
      cases hx : S.env u <;> simp only [remV] <;> first
        | exact .inr ⟨_, _, rfl⟩
        | (left; rfl)
        | (left; rename_i o xs; cases o <;> rfl)
        | (left; simp only [flv, fl1, List.all_map, List.all_eq_true]; exact fun c _ => flc_remc c)
    rcases hfl with hfl | ⟨s, off, hb⟩
    · have h3 := RT_rdv hr
      have hid : rdv (remV (S.env u)) = remV (S.env u) := by
        have hc : ∀ c : AVal, rdc (remc c) = remc c := by intro c; cases c <;> first | rfl | (rename_i o xs; cases o <;> rfl)
        cases hx : S.env u <;> simp only [remV] <;> first
          | rfl
          | (rename_i o xs; cases o <;> rfl)
          | (simp only [rdv, rd1, List.map_map]; congr 1; apply List.map_congr_left; intro c _; exact hc c)
      rw [hid] at h3
      refine RV.of_RT hfl ?_
      unfold RT at h3 ⊢
      split at h3
      · exact h3
      · exact RI.mono Stb.ren _ _ h3
    · rw [hb] at hr ⊢; exact hr
  · rw [if_neg e]
    exact RV.mono Stb.ren (fun p => Keep.ren (renStore_other e)) _ _ (fun _ _ _ => rfl) (hR.env u)
/-- An operand whose value is stored: what the state is behind it. -/
theorem Rel.takeOpn (hR : Rel n S g a w) {x : Operand} {y : AOpn} (hx : opn x y = true) (target : Nat → Ow) (hs : storable (S.full y) = true) :
    ∃ g', Rel n (S.takeT y) g' a w ∧ Evo g w g' w ∧ RVs g' w target 0 (S.full y).cells (a.eval x).cells.toList ∧ (∀ c ∈ (a.eval x).cells.toList, c.oneCell' = true) ∧ g'.fr = g.fr ∧ g'.io = g.io ∧ g'.ib = g.ib ∧ g'.nh = g.nh ∧
      ∀ q, (∀ t p, q ≠ .slot t p) → ∀ b, g.ow b = q → g'.ow b = q := by
  cases y with
  | c v =>
    rcases RV.of_opn hR hx with ⟨t, h1, _⟩ | ⟨_, h2⟩
    · cases h1
    · obtain ⟨h3, h4⟩ := (h2 (fun p => .no)).cells hs
      have h5 : RVs g w target 0 (S.full (.c v)).cells (a.eval x).cells.toList := by
        obtain ⟨h6, _⟩ := (h2 (fun p => match p with | [i] => target i | _ => target 0)).cells hs
        refine RVs.of_get h6.length fun j x u hx hu => ?_
        obtain ⟨u', q1, q2⟩ := h6.get j x hx
        rw [q1] at hu; cases hu
        have hj := (List.getElem?_eq_some_iff.1 hx).1
        cases hf : S.full (.c v) <;> rw [hf] at q2 hj <;> simp only [pth, AVal.cells, List.length_singleton] at q2 hj ⊢ <;> first
          | simpa using q2
          | (obtain rfl : j = 0 := by omega
             simpa using q2)
      exact ⟨g, hR, .refl g w, h5, h4, rfl, rfl, rfl, rfl, fun _ _ _ h => h⟩
  | t m =>
    have hxm : x = .tmp m := by unfold opn at hx; split at hx <;> simp_all
    subst hxm
    obtain ⟨h1, h2, h3, h4⟩ := hR.takeStore m target hs
    refine ⟨_, h1, h2, h3, h4, rfl, rfl, rfl, rfl, fun q hq b hb => ?_⟩
    simp only [Gh.ren, hb]
    cases q <;> first | rfl | exact absurd rfl (hq _ _)
end
end Go.Ge
