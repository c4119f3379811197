/- Boxes filled at once, stores, loads that take. -/
import Derived.Test.YtpdajkbfemcdlaaGeEff2
set_option linter.unusedSimpArgs false
set_option linter.unusedVariables false
namespace Go.Ge
section
variable {P : Program} {n : Nat} {S : AState} {g : Gh} {a : Act} {w : World} {o : Oper} {next : Act → World → Prop} {Q : Exit → Act → World → Prop}

theorem RVs.any {target : Nat → Ow} {x : AVal} {v : Value} (h : ∀ own, RV g w own x v) (hs : storable x = true) : RVs g w target 0 x.cells v.cells.toList ∧ ∀ c ∈ v.cells.toList, c.oneCell' = true := by
  obtain ⟨h6, h7⟩ := (h (fun p => match p with | [i] => target i | _ => target 0)).cells hs
  refine ⟨RVs.of_get h6.length fun j x' u hx hu => ?_, h7⟩
  obtain ⟨u', q1, q2⟩ := h6.get j x' hx
  rw [q1] at hu; cases hu
  have hj := (List.getElem?_eq_some_iff.1 hx).1
  rcases storable_cases hs with ⟨cs, rfl, _⟩ | ⟨_, h1, h2⟩
  · simpa [pth] using q2
  · rw [h1] at hj
    obtain rfl : j = 0 := by simpa using hj
    simpa [h2] using q2
theorem opn_all {x : Operand} {y : AOpn} (hR : Rel n S g a w) (hx : opn x y = true) (own : List Nat → Ow) : RV g w own (S.rd y) (a.eval x) := RV.of_RT (rd_fl S y) (RT.of_opn hR hx)

theorem newBox_keep (hv : ∀ b, w.heap.size ≤ b → g.ow b = .no) {s : Nat} {obj : Obj} {q : Ow} (hq : q ≠ .no) : Keep g w (g.newBox w.heap.size s) (w.alloc obj) q q := by
  intro b hb
  have : b ≠ w.heap.size := fun e => hq (by rw [← hb, hv b (by omega)])
  exact ⟨by simp [Gh.newBox, Gh.alloc, this, hb], heap_alloc w obj b this, by simp [Gh.newBox, Gh.alloc, this]⟩
theorem newBox_stb {s : Nat} {obj : Obj} (hv : ∀ b, w.heap.size ≤ b → g.ow b = .no) : Stb g w (g.newBox w.heap.size s) (w.alloc obj) := by
  have := (Fresh.alloc (g := g) (w := w) hv obj (.box s) 0).evo.stb
  exact ⟨this.st, this.nh, this.io⟩
theorem run_box {e : TypeId} {x : Operand} (ho : o.op = .box e x) : (execOp a.eval o).run P w = .ok (.value (.pointer (some ⟨w.heap.size, 0, none⟩))) (w.alloc (.cells (a.eval x).cells e)) := by
  simp [execOp, ho, Instr.box, newVar, newRow]
theorem eff_bxT (hR : Rel n S g a w) {e : TypeId} {x : Operand} {y : AOpn} {s : Nat} (ho : o.op = .box e x) (hx : opn x y = true) (hdst : o.dst = some s) (hs : s < n) (hst : storable (S.full y) = true) {K : AState → Prop}
    (h : K ((((S.takeT y).drop s).setBox s (some (S.full y).cells)).set s (.box s 0))) (hn : Goes n g w K next) : o.wp P a w next Q := by
  obtain ⟨g1, h1, h2, h3, h4, _⟩ := hR.takeOpn hx (fun i => .boxc s [i]) hst
  obtain ⟨r1, r2⟩ := h1.newBox hs (us := (a.eval x).cells) (e := e) (cs := (S.full y).cells) (RVs.mono (newBox_stb h1.heap.valid) _ _ _ (fun j => newBox_keep h1.heap.valid (by simp)) h3)
  refine wp_value (run_box ho) ?_
  rw [hdst]; exact hn _ _ _ _ h r1 (h2.trans r2)
theorem eff_bx (hR : Rel n S g a w) {e : TypeId} {x : Operand} {y : AOpn} {s : Nat} (ho : o.op = .box e x) (hx : opn x y = true) (hdst : o.dst = some s) (hs : s < n) (hst : storable (S.rd y) = true) {K : AState → Prop}
    (h : K (((S.drop s).setBox s (some (S.rd y).cells)).set s (.box s 0))) (hn : Goes n g w K next) : o.wp P a w next Q := by
  obtain ⟨h3, h4⟩ := RVs.any (target := fun i => .boxc s [i]) (opn_all hR hx) hst
  obtain ⟨r1, r2⟩ := hR.newBox hs (us := (a.eval x).cells) (e := e) (cs := (S.rd y).cells) (RVs.mono (newBox_stb hR.heap.valid) _ _ _ (fun j => newBox_keep hR.heap.valid (by simp)) h3)
  refine wp_value (run_box ho) ?_
  rw [hdst]; exact hn _ _ _ _ h r1 r2

/-! ### Stores -/
theorem RVs.fillO {own : Nat → Ow} {cs new : List AVal} {us vs : List Value} {off : Nat} (h : RVs g w own 0 cs us) (hn : RVs g w (fun i => own (off + i)) 0 new vs) (hle : off + new.length ≤ cs.length) :
    RVs g w own 0 (fillV cs off new) (us.take off ++ vs ++ us.drop (off + vs.length)) := by
  have hl := h.length
  have hl2 := hn.length
  have hlen : (us.take off ++ vs ++ us.drop (off + vs.length)).length = (fillV cs off new).length := by simp [fillV]; omega
  refine RVs.of_get hlen fun j x u hx hu => ?_
  simp only [fillV] at hx
  rcases Nat.lt_or_ge j off with hj | hj
  · rw [List.append_assoc, List.getElem?_append_left (by simp; omega), List.getElem?_take_of_lt hj] at hx hu
    obtain ⟨u', h1, h2⟩ := h.get j x hx
    rw [h1] at hu; cases hu; exact h2
  · rcases Nat.lt_or_ge j (off + new.length) with hj2 | hj2
    · rw [List.append_assoc, List.getElem?_append_right (by simp; omega), List.getElem?_append_left (by simp; omega)] at hx hu
      have e1 : j - (cs.take off).length = j - off := by simp; omega
      have e2 : j - (us.take off).length = j - off := by simp; omega
      rw [e1] at hx; rw [e2] at hu
      obtain ⟨u', h1, h2⟩ := hn.get _ x hx
      rw [h1] at hu; cases hu
      have e3 : off + (0 + (j - off)) = 0 + j := by omega
      simp only [e3] at h2; exact h2
    · rw [List.getElem?_append_right (by simp; omega), List.getElem?_drop] at hx hu
      have e1 : off + new.length + (j - (cs.take off ++ new).length) = j := by simp; omega
      have e2 : off + vs.length + (j - (us.take off ++ vs).length) = j := by simp; omega
      rw [e1] at hx; rw [e2] at hu
      obtain ⟨u', h1, h2⟩ := h.get j x hx
      rw [h1] at hu; cases hu; exact h2
theorem Gh.alloc_self (g : Gh) (b : Nat) : g.alloc b (g.ow b) (g.fr b) = g := by
  cases g; simp only [Gh.alloc, Gh.mk.injEq, and_true]
  constructor <;> (funext c; by_cases h : c = b <;> simp [h])
/-- Cells of a box are written. -/
theorem Rel.writeBox (hR : Rel n S g a w) {s off : Nat} {cs new : List AVal} {vs : List Value} (hs : S.boxes s = some cs) (hn : RVs g w (fun i => .boxc s [off + i]) 0 new vs) (hle : off + new.length ≤ cs.length) :
    Rel n (S.setBox s (some (fillV cs off new))) g a (w.setCells (g.ib s) off vs) ∧ Evo g w g (w.setCells (g.ib s) off vs) ∧
      (∀ j, j < vs.length → (w.cell? ⟨g.ib s, off + j, none⟩).isSome = true) ∧ ∀ j, j < vs.length → w.frozen? ⟨g.ib s, off + j, none⟩ = false := by
  obtain ⟨us, e, fz, h1, h2, h3, h4, h5⟩ := hR.boxes s cs hs
  have hl5 := h5.length
  have hln := hn.length
  have hle' : off + vs.length ≤ us.size := by simp at hl5; omega
  have hevo := Evo.write (g := g) (w := w) (vs := vs) h1 hle' (by omega) (by rw [h3]; simp) (by rw [h3]; simp) (g.ow (g.ib s)) (g.fr (g.ib s)) (Nat.le_refl _)
  rw [Gh.alloc_self] at hevo
  have hkeep : ∀ q, q ≠ .box s → Keep g w g (w.setCells (g.ib s) off vs) q q := by
    intro q hq
    have := Keep.write (g := g) (w := w) (b := g.ib s) (o := off) (vs := vs) (q' := q) (q := g.ow (g.ib s)) (f := g.fr (g.ib s)) (by rw [h3]; exact fun e => hq e.symm)
    rwa [Gh.alloc_self] at this
  refine ⟨⟨hR.size, hR.defers, fun t => RV.mono hevo.stb (fun p => hkeep _ (by simp)) _ _ (fun _ _ _ => rfl) (hR.env t), fun q ds hq => ?_, ⟨hR.heap.nh, fun id ob hob => ?_, fun b hb => ?_⟩⟩, hevo, fun j hj => ?_, fun j hj => ?_⟩
  · simp only [AState.setBox] at hq
    by_cases e2 : q = s
    · subst e2
      rw [if_pos rfl] at hq; cases hq
      refine ⟨putArr us off vs, e, fz, setCells_block vs off w us h1 hle', by rw [putArr_size hle']; exact h2, h3, h4, ?_⟩
      have := h5.fillO (off := off) hn hle
      simp only [putArr]
      exact RVs.mono hevo.stb _ _ _ (fun j => hkeep _ (by simp)) this
    · rw [if_neg e2] at hq
      exact RBox.mono hevo.stb rfl (hkeep _ (by simp; exact e2)) (fun p => hkeep _ (by simp)) (hR.boxes q ds hq)
  · exact RObj.mono hevo.stb (by rw [hR.heap.nh]; exact (List.getElem?_eq_some_iff.1 hob).1) (hkeep _ (by simp)) (fun p => hkeep _ (by simp)) (hR.heap.obj id ob hob)
  · rw [setCells_size] at hb; exact hR.heap.valid b hb
  · rw [cell_of_block h1]; simp; omega
  · simp only [World.frozen?, h1]
    have := h2.at (off + j) (by omega)
    simpa using this
/-- Cells of an object are written. -/
theorem Rel.writeObj (hR : Rel n S g a w) {id off : Nat} {cs new : List AVal} {vs : List Value} (hs : S.heap[id]? = some (.cells cs)) (hn : RVs g w (fun i => .objc id [off + i]) 0 new vs) (hle : off + new.length ≤ cs.length) :
    Rel n { S with heap := S.heap.set id (.cells (fillV cs off new)) } g a (w.setCells (g.io id).1 ((g.io id).2 + off) vs) ∧ Evo g w g (w.setCells (g.io id).1 ((g.io id).2 + off) vs) ∧
      (∀ j, j < vs.length → (w.cell? ⟨(g.io id).1, (g.io id).2 + off + j, none⟩).isSome = true) ∧ ∀ j, j < vs.length → w.frozen? ⟨(g.io id).1, (g.io id).2 + off + j, none⟩ = false := by
  by_cases hne : cs = []
  · subst hne
    have hnew : new = [] := List.eq_nil_of_length_eq_zero (by simp at hle; simp [hle])
    subst hnew
    obtain rfl : vs = [] := by simpa [RVs] using hn
    have e1 : fillV [] off [] = ([] : List AVal) := by simp [fillV]
    have e2 : S.heap.set id (.cells []) = S.heap := by
      obtain ⟨h1, h2⟩ := List.getElem?_eq_some_iff.1 hs
      rw [← h2]; exact List.set_getElem_self h1
    rw [e1, e2]
    exact ⟨hR, .refl g w, by simp, by simp⟩
  obtain ⟨cur, e, fz, us, h1, h2, h3, h4, hz, h5, h6⟩ := hR.heap.obj id _ hs hne
  have hl5 := h6.length
  have hln := hn.length
  have hidlt : id < S.heap.length := (List.getElem?_eq_some_iff.1 hs).1
  have hle' : (g.io id).2 + off + vs.length ≤ cur.size := by omega
  have hevo := Evo.write (g := g) (w := w) (vs := vs) h1 hle' (by omega) (by rw [h3]; simp) (by rw [h3]; simp) (g.ow (g.io id).1) (g.fr (g.io id).1) (Nat.le_refl _)
  rw [Gh.alloc_self] at hevo
  have hkeep : ∀ q, q ≠ .obj id → Keep g w g (w.setCells (g.io id).1 ((g.io id).2 + off) vs) q q := by
    intro q hq
    have := Keep.write (g := g) (w := w) (b := (g.io id).1) (o := (g.io id).2 + off) (vs := vs) (q' := q) (q := g.ow (g.io id).1) (f := g.fr (g.io id).1) (by rw [h3]; exact fun e => hq e.symm)
    rwa [Gh.alloc_self] at this
  refine ⟨⟨hR.size, hR.defers, fun t => RV.mono hevo.stb (fun p => hkeep _ (by simp)) _ _ (fun _ _ _ => rfl) (hR.env t),
    fun q ds hq => RBox.mono hevo.stb rfl (hkeep _ (by simp)) (fun p => hkeep _ (by simp)) (hR.boxes q ds hq), ⟨by simpa using hR.heap.nh, fun id' ob hob => ?_, fun b hb => ?_⟩⟩, hevo, fun j hj => ?_, fun j hj => ?_⟩
  · by_cases e2 : id' = id
    · subst e2
      simp only [List.getElem?_set, if_true, if_pos hidlt] at hob
      cases hob
      have hm := h6.fillO (off := off) hn hle
      have hml := hm.length
      have hlf : (fillV cs off new).length = cs.length := by simp [fillV]; omega
      refine fun _ => ⟨putArr cur ((g.io id').2 + off) vs, e, fz, _, setCells_block vs _ w cur h1 hle', by rw [putArr_size hle']; exact h2, h3, h4, ?_, fun j u hj => ?_, RVs.mono hevo.stb _ _ _ (fun j => hkeep _ (by simp)) hm⟩
      · rw [putArr_size hle']; omega
      · rcases Nat.lt_or_ge j off with hj1 | hj1
        · rw [putArr_out hle' (.inl (by omega))]
          rw [List.append_assoc, List.getElem?_append_left (by simp; omega), List.getElem?_take_of_lt hj1] at hj
          exact h5 j u hj
        · rcases Nat.lt_or_ge j (off + vs.length) with hj2 | hj2
          · obtain ⟨k, rfl⟩ : ∃ k, j = off + k := ⟨j - off, by omega⟩
            rw [← Nat.add_assoc, putArr_in hle' (by omega)]
            rw [List.append_assoc, List.getElem?_append_right (by simp; omega), List.getElem?_append_left (by simp; omega)] at hj
            have e1 : off + k - (us.take off).length = k := by simp; omega
            rwa [e1] at hj
          · rw [putArr_out hle' (.inr (by omega))]
            rw [List.getElem?_append_right (by simp; omega), List.getElem?_drop] at hj
            have e1 : off + vs.length + (j - (us.take off ++ vs).length) = j := by simp; omega
            rw [e1] at hj
            exact h5 j u hj
    · rw [List.getElem?_set_ne (fun e => e2 e.symm)] at hob
      exact RObj.mono hevo.stb (by rw [hR.heap.nh]; exact (List.getElem?_eq_some_iff.1 hob).1) (hkeep _ (by simp; exact e2)) (fun p => hkeep _ (by simp)) (hR.heap.obj id' ob hob)
  · rw [setCells_size] at hb; exact hR.heap.valid b hb
  · rw [cell_of_block h1]; simp; omega
  · simp only [World.frozen?, h1]
    have := h2.at ((g.io id).2 + off + j) (by omega)
    simpa using this
end
end Go.Ge
