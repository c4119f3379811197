/- More quiet operations: those that make a block, and those that build or convert. -/
import Derived.Test.YtpdajkbfemcdlaaGeOps5
import Derived.Great.FillDense
import Derived.Laws.OwnMore
set_option linter.unusedSimpArgs false
set_option linter.unusedVariables false
namespace Go.Ge
section
variable {P : Program} {n : Nat} {S : AState} {g : Gh} {a : Act} {w : World} {o : Oper}
open Go.RowKit

theorem Fresh.new {w' : World} (hv : ∀ b, w.heap.size ≤ b → g.ow b = .no) (h : Below w.heap.size w w') (hs : w'.heap.size = w.heap.size + 1) (q : Ow) (f : Nat) : Fresh g w (g.alloc w.heap.size q f) w' where
  evo := {
    os := h.os, tape := h.tape, output := h.output, size := by omega
    fixed := fun b hb _ => ⟨h.block b hb, by simp [Gh.alloc, Nat.ne_of_lt hb], by simp [Gh.alloc, Nat.ne_of_lt hb]⟩
    stab := fun b hb => ⟨by simp [Gh.alloc, Nat.ne_of_lt hb], fun o _ => World.cell?_of_block (w := w) (h.block b hb)⟩
    nh := Nat.le_refl _, io := fun _ _ => rfl }
  keep := fun o ho b hb => by
    have : b ≠ w.heap.size := fun e => ho (by rw [← hb, hv b (by omega)])
    have hlt : b < w.heap.size := by
      rcases Nat.lt_or_ge b w.heap.size with h' | h'
      · exact h'
      · exact absurd (hv b h') (by rw [hb]; exact ho)
    exact ⟨by simp [Gh.alloc, this, hb], h.block b hlt, by simp [Gh.alloc, this]⟩
  ib := rfl
  nh := rfl
  valid := fun b hb => by
    have : b ≠ w.heap.size := by omega
    simp only [Gh.alloc, this, if_false]
    exact hv b (by omega)
/-- A new row of elements. -/
theorem new_row {w' : World} (hv : ∀ b, w.heap.size ≤ b → g.ow b = .no) (hb : Below w.heap.size w w') (hs : w'.heap.size = w.heap.size + 1) {cur : Array Value} {e : TypeId} {fz : Nat × Nat}
    (hblk : w'.heap[w.heap.size]? = some (.cells cur e fz)) (hfz : Unfr cur.size fz) {xs : List AVal} {us : List Value} {sz cap : Nat} (hus : RIs g w xs us) (hsz : ∀ u ∈ us, u.cells.size = sz) (hcap : us.length ≤ cap) (hcur : cap * sz ≤ cur.size)
    (hcells : ∀ i u j x, us[i]? = some u → u.cells[j]? = some x → cur[i * sz + j]? = some x ∧ x.oneCell' = true) (uq : Bool) (own : List Nat → Ow) :
    Fresh g w (g.alloc w.heap.size (own []) (if uq then 0 else us.length * sz)) w' ∧
      RV (g.alloc w.heap.size (own []) (if uq then 0 else us.length * sz)) w' own (.lst (if uq then .uniq sz cap else .app sz) xs) (.slice (some ⟨w.heap.size, 0, none⟩) us.length cap) := by
  have hf := Fresh.new (g := g) hv hb hs (own []) (if uq then 0 else us.length * sz)
  refine ⟨hf, ?_⟩
  have hus' := RIs.mono hf.evo.stb _ _ hus
  cases uq with
  | true =>
    simp only [RV, RV1, RVc, if_true]
    refine ⟨_, us, rfl, hcap, hus', hsz, .inr ⟨w.heap.size, 0, cur, e, fz, rfl, by simp [Gh.alloc], by simp [Gh.alloc], hblk, by omega, hfz, fun i u j x hi hj => ?_⟩⟩
    rw [Nat.zero_add]; exact hcells i u j x hi hj
  | false =>
    simp only [RV, RV1, RVc, Bool.false_eq_true, if_false]
    refine ⟨_, cap, us, rfl, hcap, hus', hsz, ⟨sz, hsz, fun _ => ⟨w.heap.size, 0, rfl, fun i u j x hi hj => ?_⟩⟩, .inr ⟨w.heap.size, 0, cur, e, fz, rfl, by simp [Gh.alloc], by simp [Gh.alloc], hblk, by omega, hfz⟩⟩
    obtain ⟨h1, h2⟩ := hcells i u j x hi hj
    refine ⟨?_, ?_, h2⟩
    · have hi' : i < us.length := (List.getElem?_eq_some_iff.1 hi).1
      have hj' : j < u.cells.size := (Array.getElem?_eq_some_iff.1 hj).1
      rw [hsz u (List.mem_of_getElem? hi)] at hj'
      simp only [Gh.alloc, if_true]
      have : (i + 1) * sz ≤ us.length * sz := Nat.mul_le_mul_right _ hi'
      rw [Nat.add_mul] at this; omega
    · rw [cell_of_block hblk, Nat.zero_add]; exact h1

/-- A value that may be stored: its cells are cells. -/
theorem RI.one {x : AVal} {v : Value} (h : RI g w x v) (hs : storC x = true) : v.oneCell' = true := by
  cases x <;> simp only [storC] at hs <;> try (cases hs; done)
  all_goals
    simp only [RI] at h
    first
      | (subst h; rfl)
      | (obtain ⟨_, rfl⟩ := h; rfl)
      | (obtain ⟨us, rfl, _⟩ := h; rfl)
      | (obtain ⟨A, c, us, rfl, _⟩ := h; rfl)
      | (obtain ⟨b, off, us, rfl, _⟩ := h; rfl)
      | (obtain ⟨_, c, _, rfl⟩ := h; rfl)
theorem storable_width {x : AVal} (h : storable x = true) : (∃ cs, x = .agg cs) ∨ x.width = 1 := by
  cases x <;> first | exact .inl ⟨_, rfl⟩ | exact .inr rfl | (simp [storable, storC] at h)
theorem RI.ones {x : AVal} {v : Value} (h : RI g w x v) (hs : storable x = true) : ∀ c ∈ v.cells.toList, c.oneCell' = true := by
  cases x with
  | agg cs =>
    simp only [RI] at h
    obtain ⟨us, rfl, hus⟩ := h
    intro c hc
    simp only [Value.cells] at hc
    obtain ⟨i, hi, rfl⟩ := List.getElem_of_mem hc
    have hl := hus.length
    have hi2 : i < cs.length := by omega
    obtain ⟨u, hu1, hu2⟩ := hus.get i cs[i] (by simp [hi2])
    rw [List.getElem?_eq_getElem hi] at hu1; simp only [Option.some.injEq] at hu1
    rw [hu1]
    exact hu2.one (by simp only [storable, List.all_eq_true] at hs; exact hs _ (List.getElem_mem hi2))
  | _ =>
    have h1 := h.one (by simpa [storable] using hs)
    intro c hc
    have : v.cells = #[v] := by cases v <;> first | rfl | simp [Value.oneCell'] at h1
    rw [this] at hc; simp at hc; subst hc; exact h1

theorem ok_buildS (hR : Rel n S g a w) {t e : TypeId} {len sz : Nat} {parts : Array (Nat × Operand)} {ps : List AOpn} {uq : Bool} {it : TypeInfo} {z : Value} (ho : o.op = .buildSlice t len parts)
    (ht : P.underlying t = some (.slice e)) (hit : P.info? e = some it) (hz : it.zero = some z) (hsz : it.size = sz) (hpos : 0 < sz) (hlen : len = ps.length)
    (xs : List Operand) (hp : parts.toList = (xs.zipIdx 0).map fun x => (x.2, x.1)) (hx : opns xs ps = true)
    (hc : (∀ x ∈ ps, (S.rd x).width = sz ∧ storable (S.rd x) = true) ∧ ps.length * sz ≤ 16777216) (own : List Nat → Ow) :
    Ok1 P (execOp a.eval o) g w own (.lst (if uq then .uniq sz ps.length else .app sz) (ps.map S.rd)) := by
  obtain ⟨hc1, hc2⟩ := hc
  -- the elements
  have key : ∀ (xs : List Operand) (ps : List AOpn), opns xs ps = true → (∀ x ∈ ps, (S.rd x).width = sz ∧ storable (S.rd x) = true) →
      RIs g w (ps.map S.rd) (xs.map a.eval) ∧ (∀ u ∈ xs.map a.eval, u.cells.size = sz ∧ ∀ c ∈ u.cells.toList, c.oneCell' = true) ∧ xs.length = ps.length := by
    intro xs
    induction xs with
    | nil => intro ps h _; cases ps with | nil => simp [RIs] | cons _ _ => simp [opns] at h
    | cons x xs ih =>
      intro ps h hw
      cases ps with
      | nil => simp [opns] at h
      | cons p ps =>
        simp only [opns, Bool.and_eq_true] at h
        obtain ⟨i1, i2, i3⟩ := ih ps h.2 (fun y hy => hw y (by simp [hy]))
        obtain ⟨w1, w2⟩ := hw p (by simp)
        have hrt := RT.of_opn hR h.1
        have hri : RI g w (S.rd p) (a.eval x) := RI.of_RT (by cases hq : S.rd p <;> first | rfl | (rw [hq] at w2; simp [storable, storC] at w2)) hrt
        refine ⟨?_, ?_, by simp [i3]⟩
        · simp only [List.map, RIs]; exact ⟨_, _, rfl, hri, i1⟩
        · intro u hu
          simp only [List.map_cons, List.mem_cons] at hu
          rcases hu with rfl | hu
          · exact ⟨by rw [hri.width (by omega), w1], hri.ones w2⟩
          · exact i2 u hu
  obtain ⟨hus, hws, hl⟩ := key xs ps hx hc1
  have hev : (parts.map fun (i, x) => (i, a.eval x)).toList = ((xs.map a.eval).zipIdx 0).map fun x => (x.2, x.1) := by
    rw [Array.toList_map, hp, List.zipIdx_map, List.map_map, List.map_map]; rfl
  have hul : (xs.map a.eval).length = ps.length := by simp [hl]
  rcases Nat.eq_zero_or_pos ps.length with h0 | h0
  · -- an empty one
    obtain rfl := List.eq_nil_of_length_eq_zero h0
    obtain rfl : xs = [] := List.eq_nil_of_length_eq_zero (by simpa using hl)
    simp only [List.length_nil] at hlen
    subst hlen
    have hparts : parts = #[] := by apply Array.ext'; simpa using hp
    subst hparts
    have hrun : (execOp a.eval o).run P w = .ok (.value (.slice (some ⟨w.heap.size, 0, none⟩) 0 0)) (w.alloc (.cells #[] e)) := by
      simp [execOp, ho, Instr.buildSlice, run_underlying ht, sizeOf, typeInfo, hit, newRow, Instr.fill]
      congr 2
      apply Array.ext'
      simp
    obtain ⟨f1, f2⟩ := new_row (g := g) (w' := w.alloc (.cells #[] e)) hR.heap.valid ((Below.refl _ _).alloc (Nat.le_refl _) _) (by simp) (heap_alloc_self _ _) (.inl rfl) (xs := []) (us := []) (sz := sz) (cap := 0) (by simp [RIs]) (by simp) (by simp) (by simp) (by simp) uq own
    exact ⟨_, _, _, hrun, f1, by simpa using f2⟩
  · have hpos' : 0 < ps.length * sz := Nat.mul_pos h0 hpos
    obtain ⟨r, hr, hrs, hrk⟩ := Great.fill_dense hpos (xs.map a.eval) 0 ((Array.range (len * it.size)).map (z.cells[· % z.cells.size]!)) (fun v hv => (hws v hv).1) (by simp [hlen, hl, hsz])
    have hrun : (execOp a.eval o).run P w = .ok (.value (.slice (some ⟨w.heap.size, 0, none⟩) len len)) (w.alloc (.cells r e)) := by
      have := run_buildSlice w t e len (parts.map fun (i, x) => (i, a.eval x)) r it z ht hit hz (by rw [hsz, hlen]; omega) (by rw [hsz, hlen]; omega) (by rw [hev, hsz]; rw [hsz] at hr; exact hr)
      simp only [execOp, ho, Sem.run_bind, this, Result.andThen_ok, Sem.run_pure]
    have hrs' : r.size = ps.length * sz := by rw [hrs]; simp [hlen, hsz]
    obtain ⟨f1, f2⟩ := new_row (g := g) (w' := w.alloc (.cells r e)) hR.heap.valid ((Below.refl _ _).alloc (Nat.le_refl _) _) (by simp) (heap_alloc_self _ _) (.inl rfl) (xs := ps.map S.rd) (us := xs.map a.eval) (sz := sz) (cap := len) hus (fun u hu => (hws u hu).1) (by rw [hul, hlen]; exact Nat.le_refl _) (by rw [hrs', hlen]; exact Nat.le_refl _)
      (fun i u j x hi hj => by
        have hmem := List.mem_of_getElem? hi
        have hi' : i < ps.length := by rw [← hul]; exact (List.getElem?_eq_some_iff.1 hi).1
        have hj' : j < sz := by rw [← (hws u hmem).1]; exact (Array.getElem?_eq_some_iff.1 hj).1
        refine ⟨?_, (hws u hmem).2 x (by rw [← Array.mem_def]; exact Array.mem_of_getElem? hj)⟩
        rw [hrk]
        have h1 : i * sz + j < ps.length * sz := by
          have : (i + 1) * sz ≤ ps.length * sz := Nat.mul_le_mul_right _ hi'
          rw [Nat.add_mul] at this; omega
        have h2 : (i * sz + j) / sz = i := by rw [Nat.mul_comm, Nat.mul_add_div hpos, Nat.div_eq_of_lt hj']; omega
        have h3 : (i * sz + j) % sz = j := by rw [Nat.mul_comm, Nat.mul_add_mod, Nat.mod_eq_of_lt hj']
        rw [if_pos ⟨by omega, by rw [Nat.zero_add, hul]; exact h1⟩, h2, h3, Nat.sub_zero, hi]
        exact hj) uq own
    rw [hul] at f2
    subst hlen
    rw [hul] at f1
    exact ⟨_, _, _, hrun, f1, f2⟩
theorem RIs.replicate {x : AVal} {v : Value} (h : RI g w x v) (k : Nat) : RIs g w (List.replicate k x) (List.replicate k v) := by
  refine RIs.of_get (by simp) fun i x' u hx hu => ?_
  obtain ⟨_, rfl⟩ := List.getElem?_eq_some_iff.1 hx
  obtain ⟨_, rfl⟩ := List.getElem?_eq_some_iff.1 hu
  simpa using h
theorem ok_mkslice (hR : Rel n S g a w) {t e : TypeId} {l c : Operand} {sz bytes : Nat} {uq : Bool} {zero : AVal} {x' : AOpn} {it : TypeInfo} {z : Value} (ho : o.op = .makeSlice t l c) (hl : opn l x' = true) (hcc : opn c x' = true)
    (ht : P.underlying t = some (.slice e)) (hit : P.info? e = some it) (hz : it.zero = some z) (hsz : it.size = sz) (hpos : 0 < sz) (hby : it.bytes = bytes) (hzero : cv z zero = true) (hst : storable zero = true) (hzs : z.cells.size = sz)
    (hfl : flv zero = true) (hc : (mksliceV sz bytes uq zero (S.rd x')).c) (own : List Nat → Ow) : Ok1 P (execOp a.eval o) g w own (mksliceV sz bytes uq zero (S.rd x')).v := by
  have h1 := RT.of_opn hR hl
  have h2 := RT.of_opn hR hcc
  generalize S.rd x' = p at h1 h2 hc ⊢
  cases p <;> simp only [mksliceV] at hc ⊢ <;> try exact hc.elim
  rename_i k i
  obtain ⟨c0, c1, c2⟩ := hc
  have hri : RI g w zero z := by
    have := RT_rdv (RV.of_cv (g := g) (w := w) (own := fun _ => .no) hzero)
    have e : rdv zero = zero := by
      cases zero <;> first | rfl | skip
      · rename_i cs
        simp only [rdv, rd1]
        congr 1
        simp only [flv, fl1, List.all_eq_true] at hfl
        simp only [storable, List.all_eq_true] at hst
        have : ∀ x ∈ cs, rdc x = x := by
          intro x hx
          have f1 := hfl x hx
          have f2 := hst x hx
          cases x <;> first | rfl | (simp [storC] at f2; done) | (rename_i o xs; cases o <;> first | rfl | simp [flc] at f1)
        rw [List.map_congr_left this, List.map_id']
      · simp [storable, storC] at hst
      · rename_i o xs
        cases o <;> first | rfl | simp [flv, fl1, flc] at hfl
    rw [e] at this
    exact RI.of_RT (by cases zero <;> first | rfl | simp [storable, storC] at hst) this
  have hrun := run_make w t e it z ht hit hz k k i i c0 (Int.le_refl _) (by rw [hby]; have : (bytes : Int) * i = i * bytes := Int.mul_comm _ _; omega) (by omega)
  have hm : (madeCells z.cells (i.toNat * it.size)).size = i.toNat * sz := by rw [size_madeCells, hsz]
  have hul : (List.replicate i.toNat z).length = i.toNat := by simp
  obtain ⟨f1, f2⟩ := new_row (g := g) (w' := w.alloc (.cells (madeCells z.cells (i.toNat * it.size)) e)) hR.heap.valid ((Below.refl _ _).alloc (Nat.le_refl _) _) (by simp) (heap_alloc_self _ _) (.inl rfl)
    (xs := List.replicate i.toNat zero) (us := List.replicate i.toNat z) (sz := sz) (cap := i.toNat) (RIs.replicate hri _) (fun u hu => by rw [(List.mem_replicate.1 hu).2, hzs]) (by simp) (by rw [hm]; exact Nat.le_refl _)
    (fun i' u j x hi hj => by
      obtain ⟨hlt, rfl⟩ := List.getElem?_eq_some_iff.1 hi
      simp only [List.getElem_replicate] at hj
      have hi' : i' < i.toNat := by simpa using hlt
      have hj' : j < sz := by rw [← hzs]; exact (Array.getElem?_eq_some_iff.1 hj).1
      refine ⟨?_, hri.ones hst x (by rw [← Array.mem_def]; exact Array.mem_of_getElem? hj)⟩
      have hlt2 : i' * sz + j < i.toNat * sz := by
        have : (i' + 1) * sz ≤ i.toNat * sz := Nat.mul_le_mul_right _ hi'
        rw [Nat.add_mul] at this; omega
      have h3 : (i' * sz + j) % sz = j := by rw [Nat.mul_comm, Nat.mul_add_mod, Nat.mod_eq_of_lt hj']
      simp only [madeCells, hsz, hzs]
      rw [Array.getElem?_map, Array.getElem?_range, if_pos hlt2]
      simp only [Option.map_some, h3, ← hj]
      rw [getElem!_pos z.cells j (by omega), Array.getElem?_eq_getElem (by omega)]) uq own
  rw [hul] at f1 f2
  refine ⟨_, _, _, ?_, f1, f2⟩
  have : (Instr.makeSlice t (a.eval l) (a.eval c)).run P w = .ok (.slice (some ⟨w.heap.size, 0, none⟩) i.toNat i.toNat) (w.alloc (.cells (madeCells z.cells (i.toNat * it.size)) e)) := by
    rw [RI.int_inv h1, RI.int_inv h2]; exact hrun
  simp only [execOp, ho, Sem.run_bind, this, Result.andThen_ok, Sem.run_pure]
end
end Go.Ge
