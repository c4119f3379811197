/- Stores, loads that take, tests for nil, slices and parts of tuples that are taken. -/
import Derived.Test.YtpdajkbfemcdlaaGeEff3
import Derived.WalkSpells
import Derived.Lib.SliceRun
set_option linter.unusedSimpArgs false
set_option linter.unusedVariables false
namespace Go.Ge
section
variable {P : Program} {n : Nat} {S : AState} {g : Gh} {a : Act} {w : World} {o : Oper} {next : Act → World → Prop} {Q : Exit → Act → World → Prop}

theorem run_storeAt' {ty : TypeId} {b o : Nat} {v : Value} (hi : (P.info? ty).map (·.size) = some v.cells.toList.length) (h1 : ∀ j, j < v.cells.toList.length → (w.cell? ⟨b, o + j, none⟩).isSome = true)
    (h2 : ∀ j, j < v.cells.toList.length → w.frozen? ⟨b, o + j, none⟩ = false) (h3 : ∀ c ∈ v.cells.toList, c.oneCell' = true) :
    (Instr.storeAt ty (.pointer (some ⟨b, o, none⟩)) v).run P w = .ok () (w.setCells b o v.cells.toList) := by
  have := run_storeCells_cells (P := P) b o v.cells.toList 0 w (by simpa using h1) (by simpa using h2) h3
  obtain ⟨i, hi1, hi2⟩ := Option.map_eq_some_iff.1 hi
  simp only [Nat.add_zero] at this
  simp only [Array.length_toList] at hi2
  simp [Instr.storeAt, Instr.sureAddr, storeVar, sizeOf, typeInfo, hi1, hi2, this]

theorem eff_store (hR : Rel n S g a w) {t : TypeId} {p x : Operand} {p' x' : AOpn} {sz : Nat} (ho : o.op = .store t p x) (hp : opn p p' = true) (hx : opn x x' = true) (hdst : o.dst = none) (hsz : szT P t = some sz)
    (hst : storable (S.full x') = true) {K : AState → Prop} (h : storeV (S.takeT x') (S.rd p') sz (S.full x').cells K) (hn : Goes n g w K next) : o.wp P a w next Q := by
  have hpv := RT.of_opn hR hp
  have hrun : ∀ b off, a.eval p = .pointer (some ⟨b, off, none⟩) → (a.eval x).cells.toList.length = sz → (∀ j, j < (a.eval x).cells.toList.length → (w.cell? ⟨b, off + j, none⟩).isSome = true) →
      (∀ j, j < (a.eval x).cells.toList.length → w.frozen? ⟨b, off + j, none⟩ = false) → (∀ c ∈ (a.eval x).cells.toList, c.oneCell' = true) →
      (execOp a.eval o).run P w = .ok .skip (w.setCells b off (a.eval x).cells.toList) := by
    intro b off e1 e2 e3 e4 e5
    have := run_storeAt' (P := P) (w := w) (ty := t) (b := b) (o := off) (v := a.eval x) (by rw [← szT, hsz, e2]) e3 e4 e5
    simp [execOp, ho, e1, this]
  unfold storeV at h
  split at h
  · rename_i s off hrd
    split at h
    · rename_i old hs
      obtain ⟨h1, h2, h3⟩ := h
      obtain ⟨g', q1, q2, q3, q4, qf, qi, qb, qn, _⟩ := hR.takeOpn hx (fun i => .boxc s [off + i]) hst
      obtain ⟨r1, r2, r3, r4⟩ := q1.writeBox hs q3 (by omega)
      rw [hrd] at hpv
      simp only [RT] at hpv
      rw [← qb] at hpv
      have hl := q3.length
      refine wp_skip' (hrun _ _ hpv (by omega) r3 r4 q4) ?_
      rw [hdst]
      exact hn _ _ _ _ h3 r1 (q2.trans r2)
    · exact h.elim
  · rename_i id off hrd
    split at h
    · rename_i old hs
      obtain ⟨h1, h2, h3⟩ := h
      obtain ⟨g', q1, q2, q3, q4, qf, qi, qb, qn, _⟩ := hR.takeOpn hx (fun i => .objc id [off + i]) hst
      obtain ⟨r1, r2, r3, r4⟩ := q1.writeObj hs q3 (by omega)
      rw [hrd] at hpv
      simp only [RT, RI] at hpv
      have hpv := hpv.2
      rw [← qi] at hpv
      have hl := q3.length
      refine wp_skip' (hrun _ _ hpv (by omega) r3 r4 q4) ?_
      rw [hdst]
      exact hn _ _ _ _ h3 r1 (q2.trans r2)
    · exact h.elim
  · exact h.elim

/-! ### One name for another -/
def ren1 (q q' : Ow) : Ow → Ow := fun o => if o = q then q' else o
theorem ren1_self (q q' : Ow) : ren1 q q' q = q' := by simp [ren1]
theorem ren1_other {q q' p : Ow} (h : p ≠ q) : ren1 q q' p = p := by simp [ren1, h]
theorem RVc.of_stor {own : List Nat → Ow} {x : AVal} {v : Value} (h : RVc g w (own []) x v) (hs : storC x = true) : RV g w own x v := by
  cases x <;> first | exact h | (simp [storC] at hs)
theorem remc_fl (x : AVal) : flc (remc x) = true := flc_remc x
/-- One cell's holdings go to a slot. -/
theorem RVs.taken {q q' : Ow} {own : Nat → Ow} {cs : List AVal} {us : List Value} {off : Nat} (h : RVs g w own 0 cs us) (hq : ∀ j, j < cs.length → j ≠ off → own j ≠ q) :
    RVs (g.ren (ren1 q q')) w own 0 (cs.set off (remc (cs.getD off .junk))) us := by
  refine RVs.of_get (by rw [h.length]; simp) fun j x u hx hu => ?_
  have hj : j < cs.length := by have := (List.getElem?_eq_some_iff.1 hx).1; simpa using this
  obtain ⟨u', h1, h2⟩ := h.get j cs[j] (by simp [hj])
  rw [h1] at hu; cases hu
  by_cases e : j = off
  · subst e
    simp only [List.getElem?_set, if_true, if_pos hj, Option.some.injEq] at hx
    subst hx
    have e1 : cs.getD j .junk = cs[j] := by simp [List.getD_eq_getElem?_getD, hj]
    rw [e1]
    exact RVc.of_RI (flc_remc _) (RI.mono Stb.ren _ _ (RI_remc h2))
  · rw [List.getElem?_set_ne (fun e2 => e e2.symm)] at hx
    simp [hj] at hx; subst hx
    exact RVc.mono Stb.ren (Keep.ren (ren1_other (by simpa using hq j hj e))) _ _ h2
theorem run_load1 {t : TypeId} {x : Operand} {b off : Nat} {u : Value} (ho : o.op = .load t x) (hv : a.eval x = .pointer (some ⟨b, off, none⟩)) (hu : (P.underlying t).isSome = true) (ht : aggT P t = false) (hi : szT P t = some 1)
    (hc : w.cell? ⟨b, off, none⟩ = some u) : (execOp a.eval o).run P w = .ok (.value u) w := by
  have hrun := run_loadVar' (P := P) (w := w) (t := t) (us := [u]) (b := b) (off := off) hu (by rw [← szT, hi]; rfl) (fun j v hj => by
    cases j with
    | zero => simp at hj; subst hj; exact hc
    | succ j => simp at hj)
  rw [ht] at hrun
  simp only [Bool.false_eq_true, if_false, List.head?_cons] at hrun
  simp [execOp, ho, Instr.loadAt, hv, Instr.sureAddr, hrun]
theorem ren1_evo {q q' : Ow} (h1 : q ≠ .no) (h2 : q ≠ .other) : Evo g w (g.ren (ren1 q q')) w := Evo.ren (ren1_other (fun e => h1 e.symm)) (ren1_other (fun e => h2 e.symm))

theorem eff_loadT (hR : Rel n S g a w) {t : TypeId} {x : Operand} {x' : AOpn} {d : Nat} (ho : o.op = .load t x) (hx : opn x x' = true) (hdst : o.dst = some d) (hd : d < n) (hu : (P.underlying t).isSome = true) (ht : aggT P t = false) (hi : szT P t = some 1)
    {K : AState → Prop} (h : match S.rd x' with
      | .box s off => match S.boxes s with
        | some cs => off < cs.length ∧ storC (cs.getD off .junk) = true ∧ K ((S.setBox s (some (cs.set off (remc (cs.getD off .junk))))).put o.dst (cs.getD off .junk))
        | none => False
      | .hp id off => match S.heap[id]? with
        | some (.cells cs) => off < cs.length ∧ storC (cs.getD off .junk) = true ∧ K ({ S with heap := S.heap.set id (.cells (cs.set off (remc (cs.getD off .junk)))) }.put o.dst (cs.getD off .junk))
        | _ => False
      | _ => False) (hn : Goes n g w K next) : o.wp P a w next Q := by
  have hpv := RT.of_opn hR hx
  split at h
  · rename_i s off hrd
    split at h
    · rename_i cs hs
      obtain ⟨h1, h2, h3⟩ := h
      obtain ⟨us, e, fz, b1, b2, b3, b4, b5⟩ := hR.boxes s cs hs
      have e1 : cs.getD off .junk = cs[off] := by simp [List.getD_eq_getElem?_getD, h1]
      obtain ⟨u, hu1, hu2⟩ := b5.get off cs[off] (by simp [h1])
      rw [hrd] at hpv; simp only [RT] at hpv
      refine wp_value (run_load1 ho hpv hu ht hi (by rw [cell_of_block b1]; simpa using hu1)) ?_
      rw [hdst] at h3 ⊢
      refine hn _ (g.ren (ren1 (.boxc s [off]) (.slot d []))) _ _ h3 ?_ (ren1_evo (by simp) (by simp))
      have base : Rel n (S.setBox s (some (cs.set off (remc (cs.getD off .junk))))) (g.ren (ren1 (.boxc s [off]) (.slot d []))) a w := by
        refine ⟨hR.size, hR.defers, fun t => RV.mono Stb.ren (fun p => Keep.ren (ren1_other (by simp))) _ _ (fun _ _ _ => rfl) (hR.env t), fun q ds hq => ?_, ⟨hR.heap.nh, fun id ob hob => ?_, fun b hb => ?_⟩⟩
        · simp only [AState.setBox] at hq
          by_cases e2 : q = s
          · subst e2
            rw [if_pos rfl] at hq; cases hq
            exact ⟨us, e, fz, b1, b2, by simp [Gh.ren, b3, ren1], b4, b5.taken (fun j _ hj => by simp; exact hj)⟩
          · rw [if_neg e2] at hq
            exact RBox.mono Stb.ren rfl (Keep.ren (ren1_other (by simp))) (fun p => Keep.ren (ren1_other (by simp; intro e; exact absurd e e2))) (hR.boxes q ds hq)
        · exact RObj.mono Stb.ren (by rw [hR.heap.nh]; exact (List.getElem?_eq_some_iff.1 hob).1) (Keep.ren (ren1_other (by simp))) (fun p => Keep.ren (ren1_other (by simp))) (hR.heap.obj id ob hob)
        · simp [Gh.ren, hR.heap.valid b hb, ren1]
      refine base.put (by intro k hk; cases hk; exact hd) ?_
      · intro k hk; cases hk
        rw [e1] at h2 ⊢
        exact RVc.of_stor (RVc.mono Stb.ren (Keep.ren (by simp [ren1])) _ _ hu2) h2
    · exact h.elim
  · rename_i id off hrd
    split at h
    · rename_i cs hs
      obtain ⟨h1, h2, h3⟩ := h
      obtain ⟨cur, e, fz, us, b1, b2, b3, b4, bz, b5, b6⟩ := hR.heap.obj id _ hs (by rintro rfl; simp at h1)
      have hidlt : id < S.heap.length := (List.getElem?_eq_some_iff.1 hs).1
      have e1 : cs.getD off .junk = cs[off] := by simp [List.getD_eq_getElem?_getD, h1]
      obtain ⟨u, hu1, hu2⟩ := b6.get off cs[off] (by simp [h1])
      rw [hrd] at hpv; simp only [RT, RI] at hpv
      refine wp_value (run_load1 ho hpv.2 hu ht hi (by rw [cell_of_block b1]; exact b5 off u hu1)) ?_
      rw [hdst] at h3 ⊢
      refine hn _ (g.ren (ren1 (.objc id [off]) (.slot d []))) _ _ h3 ?_ (ren1_evo (by simp) (by simp))
      have base : Rel n { S with heap := S.heap.set id (.cells (cs.set off (remc (cs.getD off .junk)))) } (g.ren (ren1 (.objc id [off]) (.slot d []))) a w := by
        refine ⟨hR.size, hR.defers, fun t => RV.mono Stb.ren (fun p => Keep.ren (ren1_other (by simp))) _ _ (fun _ _ _ => rfl) (hR.env t), fun q ds hq => ?_, ⟨hR.heap.nh.trans (by simp), fun id' ob hob => ?_, fun b hb => ?_⟩⟩
        · exact RBox.mono Stb.ren rfl (Keep.ren (ren1_other (by simp))) (fun p => Keep.ren (ren1_other (by simp))) (hR.boxes q ds hq)
        · by_cases e2 : id' = id
          · subst e2
            simp only [List.getElem?_set, if_true, if_pos hidlt] at hob
            cases hob
            exact fun _ => ⟨cur, e, fz, us, b1, b2, by simp [Gh.ren, b3, ren1], b4, bz, b5, b6.taken (fun j _ hj => by simp; exact hj)⟩
          · rw [List.getElem?_set_ne (fun e => e2 e.symm)] at hob
            exact RObj.mono Stb.ren (by rw [hR.heap.nh]; exact (List.getElem?_eq_some_iff.1 hob).1) (Keep.ren (ren1_other (by simp))) (fun p => Keep.ren (ren1_other (by simp; intro e; exact absurd e e2))) (hR.heap.obj id' ob hob)
        · simp [Gh.ren, hR.heap.valid b hb, ren1]
      refine base.put (by intro k hk; cases hk; exact hd) ?_
      · intro k hk; cases hk
        rw [e1] at h2 ⊢
        exact RVc.of_stor (RVc.mono Stb.ren (Keep.ren (by simp [ren1])) _ _ hu2) h2
    · exact h.elim
  · exact h.elim

/-! ### Is it nil? -/
def isNilS : Operand → Bool
  | .const (.slice none _ _) => true
  | _ => false
def isNilM : Operand → Bool
  | .const (.map none) => true
  | _ => false
def mapKE (P : Program) (t : TypeId) : Bool := match P.underlying t with | some (.map _ _) => true | _ => false
theorem eqGuard_slice {op : BinOp} {t : TypeId} {x y : Operand} {A B : Option Addr} {i j k l : Nat} : (eqGuard op t x y (.slice A i j) (.slice B k l)).run P w = .ok () w := by
  unfold eqGuard; simp
theorem eqGuard_map {op : BinOp} {t : TypeId} {x y : Operand} {A B : Option Nat} : (eqGuard op t x y (.map A) (.map B)).run P w = .ok () w := by
  unfold eqGuard; simp
theorem run_isnilS {neg : Bool} {t e : TypeId} {x y z : Operand} {ty : TypeId} {A : Option Addr} {i j : Nat} (ho : o.op = .binOp (if neg then .neq else .eql) t y z ty) (hyz : (y = x ∧ isNilS z = true) ∨ (z = x ∧ isNilS y = true))
    (ht : P.underlying t = some (.slice e)) (hx : a.eval x = .slice A i j) : (execOp a.eval o).run P w = .ok (.value (.bool (A.isNone != neg))) w := by
  have key : ∀ z, isNilS z = true → ∃ k l, a.eval z = .slice none k l := by
    intro z hz
    unfold isNilS at hz; split at hz
    · exact ⟨_, _, rfl⟩
    · cases hz
  rcases hyz with ⟨rfl, hz⟩ | ⟨rfl, hz⟩ <;> obtain ⟨k, l, hk⟩ := key _ hz
  · cases neg <;> simp [execOp, ho, hx, hk, eqGuard_slice, Lib.run_eql_slice_nil _ _ _ _ _ _ _ _ ht, run_neq_slice_nil_any _ _ _ _ _ _ _ _ ht]
  · cases neg <;> simp [execOp, ho, hx, hk, eqGuard_slice, run_eql_nil_slice _ _ _ _ _ _ _ _ ht, run_neq_nil_slice _ _ _ _ _ _ _ _ ht]
theorem run_isnilM {neg : Bool} {t k e : TypeId} {x y z : Operand} {ty : TypeId} {A : Option Nat} (ho : o.op = .binOp (if neg then .neq else .eql) t y z ty) (hyz : (y = x ∧ isNilM z = true) ∨ (z = x ∧ isNilM y = true))
    (ht : P.underlying t = some (.map k e)) (hx : a.eval x = .map A) : (execOp a.eval o).run P w = .ok (.value (.bool (A.isNone != neg))) w := by
  have key : ∀ z, isNilM z = true → a.eval z = .map none := by
    intro z hz
    unfold isNilM at hz; split at hz
    · rfl
    · cases hz
  rcases hyz with ⟨rfl, hz⟩ | ⟨rfl, hz⟩ <;> have hk := key _ hz
  · cases neg <;> simp [execOp, ho, hx, hk, eqGuard_map, run_eql_map_nil _ _ _ _ _ ht, run_neq_map_nil _ _ _ _ _ ht]
  · cases neg <;> simp [execOp, ho, hx, hk, eqGuard_map, run_eql_nil_map _ _ _ _ _ ht, run_neq_nil_map _ _ _ _ _ ht]
theorem ok_bool {b : Bool} (hv : ∀ b, w.heap.size ≤ b → g.ow b = .no) (h : (execOp a.eval o).run P w = .ok (.value (.bool b)) w) (own : List Nat → Ow) : Ok1 P (execOp a.eval o) g w own (.bool b) :=
  Ok1.same hv h (by simp [RT, RI]) rfl
theorem eff_isnilS (hR : Rel n S g a w) {neg : Bool} {t e : TypeId} {x y z : Operand} {x' : AOpn} {ty : TypeId} (ho : o.op = .binOp (if neg then .neq else .eql) t y z ty) (hx : opn x x' = true)
    (ht : P.underlying t = some (.slice e)) (hyz : (y = x ∧ isNilS z = true) ∨ (z = x ∧ isNilS y = true)) (hd : ∀ k, o.dst = some k → k < n)
    {K : AState → Prop} (h : isnilV false (S.rd x') (fun b => K (S.put o.dst (.bool (b != neg))))) (hn : Goes n g w K next) : o.wp P a w next Q := by
  have hpv := RT.of_opn hR hx
  have hS : ∀ A i j, a.eval x = .slice A i j → K (S.put o.dst (.bool (A.isNone != neg))) → o.wp P a w next Q :=
    fun A i j e hk => wp_ok1 hR hd (ok_bool hR.heap.valid (run_isnilS ho hyz ht e)) hk hn
  revert hpv h
  generalize S.rd x' = p
  intro h hpv
  unfold isnilV at h
  split at h
  · simp only [RT, RI] at hpv
    obtain ⟨A, c, us, e, hl, hus, hc, rfl, rfl⟩ := hpv
    exact hS _ _ _ e (by simpa using h.2)
  · simp only [RT, RI] at hpv
    obtain ⟨A, c, us, e, hl, hus, hc, _⟩ := hpv
    refine hS _ _ _ e (h.2 _ fun hx => ?_)
    obtain ⟨sz, _, hc2⟩ := hc
    obtain ⟨b, off, rfl, _⟩ := hc2 (by intro e; subst e; apply hx; have := hus.length; simpa using this.symm)
    rfl
  · simp only [RT, RI] at hpv
    obtain ⟨A, e, _, hA⟩ := hpv
    refine hS _ _ _ e (h.2 _ fun hx => ?_)
    obtain ⟨_, rfl⟩ := hA hx
    rfl
  · cases h.1
  · cases h.1
  · exact h.elim
theorem eff_isnilM (hR : Rel n S g a w) {neg : Bool} {t k e : TypeId} {x y z : Operand} {x' : AOpn} {ty : TypeId} (ho : o.op = .binOp (if neg then .neq else .eql) t y z ty) (hx : opn x x' = true)
    (ht : P.underlying t = some (.map k e)) (hyz : (y = x ∧ isNilM z = true) ∨ (z = x ∧ isNilM y = true)) (hd : ∀ k, o.dst = some k → k < n)
    {K : AState → Prop} (h : isnilV true (S.rd x') (fun b => K (S.put o.dst (.bool (b != neg))))) (hn : Goes n g w K next) : o.wp P a w next Q := by
  have hpv := RT.of_opn hR hx
  have hM : ∀ A, a.eval x = .map A → K (S.put o.dst (.bool (A.isNone != neg))) → o.wp P a w next Q :=
    fun A e hk => wp_ok1 hR hd (ok_bool hR.heap.valid (run_isnilM ho hyz ht e)) hk hn
  revert hpv h
  generalize S.rd x' = p
  intro h hpv
  unfold isnilV at h
  split at h
  · cases h.1
  · cases h.1
  · cases h.1
  · simp only [RT, RI] at hpv
    exact hM _ hpv (by simpa using h.2)
  · simp only [RT, RI] at hpv
    exact hM _ hpv.2 (by simpa using h.2)
  · exact h.elim
end
end Go.Ge
