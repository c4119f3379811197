/- Slices that may be written: what only looks at them. -/
import Derived.Test.YtpdajkbfemcdlaaGeOps7
set_option linter.unusedSimpArgs false
set_option linter.unusedVariables false
namespace Go.Ge
section
variable {P : Program} {n : Nat} {S : AState} {g : Gh} {a : Act} {w : World} {o : Oper}

theorem RI.tup_nil : RI g w (.tup []) (.tuple #[]) := by simp [RI, RIs]
/-- The cells of an object's part. -/
theorem obj_part {id off k : Nat} {cs : List AVal} (h : RObj g w id (.cells cs)) (hle : off + k ≤ cs.length) : ∃ us : List Value, us.length = k ∧ RIs g w (((cs.drop off).take k).map rdc) us ∧
    ∀ j u, us[j]? = some u → w.cell? ⟨(g.io id).1, (g.io id).2 + off + j, none⟩ = some u := by
  by_cases hne : cs = []
  · subst hne
    obtain rfl : k = 0 := by simp at hle; omega
    exact ⟨[], rfl, by simp [RIs], by simp⟩
  obtain ⟨cur, e, fz, us, h1, h2, h3, h4, hz, h5, h6⟩ := h hne
  have hl := h6.length
  have hri := RIs_rdc _ _ _ h6
  refine ⟨(us.drop off).take k, by simp; omega, ?_, fun j u hj => ?_⟩
  · have := (hri.drop off).take k
    rwa [← List.map_drop, ← List.map_take] at this
  · have hjk : j < k := by
      have := (List.getElem?_eq_some_iff.1 hj).1
      simp at this; omega
    rw [List.getElem?_take_of_lt hjk, List.getElem?_drop] at hj
    rw [cell_of_block h1, Nat.add_assoc]
    exact h5 _ _ hj
theorem RIs.flat {sz : Nat} : ∀ {xs : List AVal} {us : List Value}, RIs g w xs us → (∀ x ∈ xs, x.width = sz) → 0 < sz → RIs g w (xs.flatMap AVal.cells) (us.flatMap fun u => u.cells.toList)
  | [], us, h, _, _ => by simp only [RIs] at h; subst h; simp [RIs]
  | x :: xs, us, h, hw, hp => by
    simp only [RIs] at h
    obtain ⟨u, us', rfl, h1, h2⟩ := h
    simp only [List.flatMap_cons]
    exact (h1.cells (by rw [hw x (by simp)]; exact hp)).append (h2.flat (fun y hy => hw y (by simp [hy])) hp)
theorem ok_empt (hR : Rel n S g a w) {t e : TypeId} {x : Operand} {lo : Option Operand} {kh km : IntKind} {x' : AOpn} {it : TypeInfo} (ho : o.op = .slice t x lo (some (.const (.int kh 0))) (some (.const (.int km 0)))) (hx : opn x x' = true)
    (hlo : ∀ y, lo = some y → ∃ k, y = .const (.int k 0)) (ht : P.underlying t = some (.slice e)) (hit : P.info? e = some it) (hc : (emptV (S.rd x')).c) (own : List Nat → Ow) : Ok1 P (execOp a.eval o) g w own (emptV (S.rd x')).v := by
  have h := RT.of_opn hR hx
  have hsof : (sizeOf e).run P w = .ok it.size w := by simp [sizeOf, typeInfo, hit]
  have hb : ∀ len cap, (Instr.sliceBounds true len cap (lo.map a.eval) (some (.int kh 0)) (some (.int km 0))).run P w = .ok (0, 0, 0) w := by
    intro len cap
    cases lo with
    | none => simp [Instr.sliceBounds, Instr.sliceBound, asIntOf]
    | some y =>
      obtain ⟨k, rfl⟩ := hlo y rfl
      simp [Instr.sliceBounds, Instr.sliceBound, asIntOf, Act.eval]
  have hrun : ∀ A len cap, a.eval x = .slice A len cap → (execOp a.eval o).run P w = .ok (.value (.slice A 0 0)) w := by
    intro A len cap e1
    have := hb len cap
    have e2 : ∀ k, a.eval (.const (.int k 0)) = .int k 0 := fun _ => rfl
    simp only [execOp, ho, Instr.sliceAt, Instr.slice, Option.map_some, e1, e2]
    simp [run_underlying ht, this, hsof]
  cases hp : S.rd x' <;> rw [hp] at h hc <;> simp only [emptV] at hc ⊢ <;> try exact hc.elim
  · simp only [RT, RI] at h
    obtain ⟨A, c, us, ee, _⟩ := h
    exact Ok1.same (u := _) hR.heap.valid (hrun _ _ _ ee) (by simp [RT, RI]) rfl
  · simp only [RT, RI] at h
    obtain ⟨A, ee, _⟩ := h
    exact Ok1.same (u := _) hR.heap.valid (hrun _ _ _ ee) (by simp [RT, RI]) rfl
theorem ok_sliceA (hR : Rel n S g a w) {t ar e : TypeId} {x : Operand} {lo hi : Option Operand} {m sz : Nat} {x' : AOpn} {lo' hi' : Option AOpn} {it : TypeInfo} (ho : o.op = .slice t x lo hi none) (hx : opn x x' = true)
    (h1 : oopn lo lo' = true) (h2 : oopn hi hi' = true) (ht : P.underlying t = some (.pointer ar)) (hta : P.underlying ar = some (.array m e)) (hit : P.info? e = some it) (hsz : it.size = sz)
    (hc : (sliceAV m sz S.rd (S.rd x') lo' hi').c) (own : List Nat → Ow) : Ok1 P (execOp a.eval o) g w own (sliceAV m sz S.rd (S.rd x') lo' hi').v := by
  have h := RT.of_opn hR hx
  have hsof : (sizeOf e).run P w = .ok sz w := by simp [sizeOf, typeInfo, hit, hsz]
  revert hc
  unfold sliceAV
  split
  case h_2 => exact fun hc => hc.elim
  rename_i id off l h' hp hl hh
  rintro ⟨c0, c1, c2⟩
  rw [hp] at h
  have hb := bounds_ok (P := P) hR h1 h2 false m m hl hh c0 c1 (by omega)
  simp only [RT, RI] at h
  obtain ⟨hid, ee⟩ := h
  refine Ok1.same (u := .slice (some (if m = l.toNat then ⟨(g.io id).1, (g.io id).2 + off, none⟩ else (⟨(g.io id).1, (g.io id).2 + off, none⟩ : Addr).add (l.toNat * sz))) (h'.toNat - l.toNat) (m - l.toNat)) hR.heap.valid ?_ ?_ rfl
  · simp [execOp, ho, Instr.sliceAt, Instr.slice, run_underlying ht, run_underlying hta, ee, asAddr, hb, hsof]
  · simp only [RT, RI]
    refine ⟨_, rfl, by omega, fun hne => ⟨hid, ?_⟩⟩
    rw [if_neg (by omega)]
    simp [Addr.add_lit, Nat.add_assoc]
theorem ok_b2sR (hR : Rel n S g a w) {s d e : TypeId} {x : Operand} {x' : AOpn} (ho : o.op = .convert s d x) (hx : opn x x' = true) (hs : P.underlying s = some (.slice e)) (he : P.underlying e = some (.int .u8)) (hd : P.underlying d = some .string)
    (hc : (b2sRV S.heap (S.rd x')).c) (own : List Nat → Ow) : Ok1 P (execOp a.eval o) g w own (b2sRV S.heap (S.rd x')).v := by
  have h := RT.of_opn hR hx
  generalize S.rd x' = p at h hc ⊢
  cases p <;> simp only [b2sRV] at hc ⊢ <;> try exact hc.elim
  rename_i id off len cap
  simp only [RT, RI] at h
  obtain ⟨A, ee, hlc, hA⟩ := h
  simp only [srcH] at hc ⊢
  by_cases h0 : len = 0
  · simp only [h0, if_true] at hc ⊢
    refine Ok1.same (u := .string (strOfV [])) hR.heap.valid ?_ (by simp [RT, RI]) rfl
    have hrun : (convert s d (.slice A 0 cap)).run P w = .ok (.string (strOfV [])) w := by
      rw [run_convert_bytes_string w s d e A _ cap hs he hd]
      cases A with
      | none => simp [Conv.bytesToString, strOfV]; rfl
      | some ad => simp [Conv.bytesToString, strOfV, loadCells, loadCellsFrom]; rfl
    subst h0
    simp only [execOp, ho, ee, Sem.run_bind, hrun, Result.andThen_ok, Sem.run_pure]
  · simp only [if_neg h0] at hc ⊢
    split at hc
    case h_2 => exact hc.elim
    rename_i k xs hq
    split at hq
    case h_2 => cases hq
    rename_i cs hcs
    split at hq
    case isFalse => cases hq
    rename_i hle
    simp only [Option.some.injEq, Prod.mk.injEq] at hq
    obtain ⟨rfl, rfl⟩ := hq
    obtain ⟨us, hul, hus, hcell⟩ := obj_part (hR.heap.obj id _ hcs) hle
    obtain ⟨ns, hns, hbs⟩ := bytes_vals hus hc
    obtain ⟨hid, rfl⟩ := hA (by omega)
    refine Ok1.same (u := .string (strOfV _)) hR.heap.valid ?_ (by simp only [RT, RI]; rfl) rfl
    have hnl : ns.length = len := by rw [hns] at hul; simpa using hul
    have := run_convert_bytes_arg (P := P) w s e hs he (g.io id).1 ((g.io id).2 + off) len cap ns (by omega) (fun i hi => by
      have hi' : i < ns.length := by omega
      have := hcell i (.int .u8 ns[i]) (by rw [hns]; simp [hi'])
      simpa [List.getD_eq_getElem?_getD, hi'] using this) d hd
    simp only [execOp, ho, ee, Sem.run_bind, this, Result.andThen_ok, Sem.run_pure]
    simp only [strOfV, hbs, strOfNums]
theorem ok_capR (hR : Rel n S g a w) {c : Call} {x : Operand} {x' : AOpn} {t e : TypeId} (ho : o.op = .call c) (hcal : c.callee = .builtin .cap) (hargs : c.args = #[x]) (hts : c.argTypes[0]? = some t) (hx : opn x x' = true)
    (he : P.underlying t = some (.slice e)) (hc : (capV (S.rd x')).c) (own : List Nat → Ow) : Ok1 P (execOp a.eval o) g w own (capV (S.rd x')).v := by
  have h := RT.of_opn hR hx
  generalize S.rd x' = p at h hc ⊢
  cases p <;> simp only [capV] at hc ⊢ <;> try exact hc.elim
  · rename_i ow xs
    cases ow <;> simp only [] at hc ⊢ <;> try exact hc.elim
    simp only [RT, RI] at h
    obtain ⟨A, c', us, ee, _, hus, _, rfl, rfl⟩ := h
    exact Ok1.same (u := _) hR.heap.valid (by simp [execOp, ho, resolve, hcal, hargs, invoke, builtin, Builtin.cap_, hts, run_underlying he, ee]; rfl) (by simp [RT, RI, goInt]) rfl
  · simp only [RT, RI] at h
    obtain ⟨_, ee, _, _⟩ := h
    exact Ok1.same (u := _) hR.heap.valid (by simp [execOp, ho, resolve, hcal, hargs, invoke, builtin, Builtin.cap_, hts, run_underlying he, ee]; rfl) (by simp [RT, RI, goInt]) rfl
theorem ok_mkfq (hR : Rel n S g a w) {f : FuncId} {xs : Array Operand} {ys : List AOpn} (ho : o.op = .makeFunc (.func f) #[] xs) (hx : opns xs.toList ys = true)
    (hc : ∀ x ∈ ys, storable (S.rd x) = true ∧ (S.rd x).width = 1) (own : List Nat → Ow) : Ok1 P (execOp a.eval o) g w own (.func f (ys.map S.rd)) := by
  have hri : RIs g w (ys.map S.rd) (xs.toList.map a.eval) := by
    have : ∀ {xs : List Operand} {ys : List AOpn}, opns xs ys = true → (∀ y ∈ ys, noBox (S.rd y) = true) → RIs g w (ys.map S.rd) (xs.map a.eval) := by
      intro xs
      induction xs with
      | nil => intro ys h _; cases ys <;> simp_all [opns, RIs]
      | cons x xs ih =>
        intro ys h hb
        cases ys with
        | nil => simp [opns] at h
        | cons y ys =>
          simp only [opns, Bool.and_eq_true] at h
          simp only [List.map, RIs]
          exact ⟨_, _, rfl, RI.of_RT (hb y (by simp)) (RT.of_opn hR h.1), ih h.2 fun z hz => hb z (by simp [hz])⟩
    refine this hx fun y hy => ?_
    have := (hc y hy).1
    cases hq : S.rd y <;> first | rfl | (rw [hq] at this; simp [storable, storC] at this)
  refine Ok1.same (u := .func (.func f) #[] (xs.map a.eval)) hR.heap.valid (by simp [execOp, ho, Instr.makeFunc]) ?_ rfl
  simp only [RT, RI]
  exact ⟨_, rfl, by simpa using hri⟩
end
end Go.Ge
