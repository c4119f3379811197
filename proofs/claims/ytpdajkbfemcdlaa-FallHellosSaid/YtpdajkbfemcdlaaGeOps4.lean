/- More quiet operations: parts of aggregates, lengths, least and greatest, slices. -/
import Derived.Test.YtpdajkbfemcdlaaGeOps3
set_option linter.unusedSimpArgs false
set_option linter.unusedVariables false
namespace Go.Ge
section
variable {P : Program} {n : Nat} {S : AState} {g : Gh} {a : Act} {w : World} {o : Oper}

theorem RI.flc' {x : AVal} {v : Value} (h : RI g w x v) : noBox x = true := by
  cases x <;> first | rfl | simp [RI] at h
/-- What is read is flagless, and so are its parts. -/
theorem fl_getD {cs : List AVal} (h : flv (.agg cs) = true) (i : Nat) : flv (cs.getD i .junk) = true ∨ ∃ ds, cs.getD i .junk = .agg ds ∨ cs.getD i .junk = .tup ds := by
  simp only [flv, fl1, List.all_eq_true] at h
  rw [List.getD_eq_getElem?_getD]
  cases hc : cs[i]? with
  | none => left; rfl
  | some c =>
    have := h c (List.mem_of_getElem? hc)
    simp only [Option.getD_some]
    cases c <;> first | exact .inl rfl | exact .inr ⟨_, .inl rfl⟩ | exact .inr ⟨_, .inr rfl⟩ | exact .inl this

theorem rd_agg_cells {S : AState} {y : AOpn} {cs : List AVal} (h : S.rd y = .agg cs) : ∃ ds : List AVal, cs = ds.map rdc := by
  rw [rd_full] at h
  generalize S.full y = f at h
  cases f with
  | agg ds => simp only [rdv, rd1, AVal.agg.injEq] at h; exact ⟨ds, h.symm⟩
  | lst o xs => cases o <;> simp [rdv, rd1, rdc] at h
  | _ => simp [rdv, rd1, rdc] at h
theorem flv_rdc (x : AVal) : flv (rdc x) = true := by
  cases x <;> first | rfl | (rename_i o xs; cases o <;> rfl)
theorem flv_agg_rdc (ds : List AVal) : flv (.agg (ds.map rdc)) = true := by
  simp only [flv, fl1, List.all_map, List.all_eq_true]; exact fun x _ => flc_rdc x
theorem flv_agg_take {cs : List AVal} (h : ∃ ds : List AVal, cs = ds.map rdc) (i k : Nat) : flv (.agg ((cs.drop i).take k)) = true := by
  obtain ⟨ds, rfl⟩ := h
  rw [← List.map_drop, ← List.map_take]; exact flv_agg_rdc _
theorem flv_agg_getD {cs : List AVal} (h : ∃ ds : List AVal, cs = ds.map rdc) (i : Nat) : flv (cs.getD i .junk) = true := by
  obtain ⟨ds, rfl⟩ := h
  rw [List.getD_eq_getElem?_getD, List.getElem?_map]
  cases ds[i]? with
  | none => rfl
  | some c => simpa using flv_rdc c

theorem part_ok {t : TypeId} {cs : List AVal} {us : List Value} {off sz : Nat} {ag : Bool} (hus : RIs g w cs us) (hu : (P.underlying t).isSome = true) (ht : aggT P t = ag) (hi : (P.info? t).map (·.size) = some sz) (h1 : ag = false → sz = 1)
    (hlen : off + sz ≤ cs.length) : ∃ u, (part t us.toArray off).run P w = .ok u w ∧ RI g w (if ag then .agg ((cs.drop off).take sz) else cs.getD off .junk) u := by
  have hl := hus.length
  refine ⟨_, run_part' hu hi (fun e => h1 (ht.symm.trans e)) (by omega), ?_⟩
  simp only [packT, ht]
  cases ag with
  | true => simp only [if_true, RI]; exact ⟨_, rfl, by simpa using (hus.drop off).take sz⟩
  | false =>
    have := h1 rfl; subst this
    have hlt : off < cs.length := by omega
    obtain ⟨u, hu1, hu2⟩ := hus.get off cs[off] (by simp [hlt])
    have e1 : (us.drop off).take 1 = [u] := by
      have hlt' : off < us.length := by omega
      rw [List.drop_eq_getElem_cons hlt']
      simp only [List.take_succ_cons, List.take_zero]
      rw [List.getElem?_eq_getElem hlt'] at hu1
      simp at hu1; simp [hu1]
    simp only [Bool.false_eq_true, if_false, e1, List.headD_cons, List.getD_eq_getElem?_getD, List.getElem?_eq_getElem hlt, Option.getD_some]
    exact hu2

theorem ok_field (hR : Rel n S g a w) {s : TypeId} {x : Operand} {f off sz : Nat} {ag : Bool} {x' : AOpn} {fs : Array Field} {fd : Field} (ho : o.op = .field s x f) (hx : opn x x' = true)
    (hs : P.underlying s = some (.struct fs)) (hf : fs[f]? = some fd) (hu : (P.underlying fd.type).isSome = true) (ht : aggT P fd.type = ag) (hi : (P.info? fd.type).map (·.size) = some sz) (h1 : ag = false → sz = 1) (hoff : fd.offset = off)
    (hc : (fieldV ag off sz (S.rd x')).c) (own : List Nat → Ow) : Ok1 P (execOp a.eval o) g w own (fieldV ag off sz (S.rd x')).v := by
  have h := RT.of_opn hR hx
  cases hp : S.rd x' <;> rw [hp] at h hc <;> simp only [fieldV] at hc ⊢ <;> try exact hc.elim
  rename_i cs
  have hfl := rd_agg_cells hp
  simp only [RT, RI] at h
  obtain ⟨us, e, hus⟩ := h
  have hlen : off + sz ≤ cs.length := by
    cases ag with
    | true => simpa using hc
    | false => have := h1 rfl; simp at hc; omega
  obtain ⟨u, hr, hru⟩ := part_ok (P := P) hus hu ht hi h1 hlen
  simp only [Array.toArray_toList] at hr
  have hv : (if ag = true then FR.mk (off + sz ≤ cs.length) (.agg ((cs.drop off).take sz)) else ⟨off < cs.length, cs.getD off .junk⟩).v = (if ag then .agg ((cs.drop off).take sz) else cs.getD off .junk) := by cases ag <;> rfl
  rw [hv]
  refine Ok1.same (u := u) hR.heap.valid ?_ (RT.of_RI hru) ?_
  · simp [execOp, ho, e, Instr.field, run_underlying hs, hf, asAgg, hoff, hr]
  · cases ag with
    | true => exact flv_agg_take hfl _ _
    | false => exact flv_agg_getD hfl _
theorem ok_aidx (hR : Rel n S g a w) {t e : TypeId} {x i : Operand} {m sz : Nat} {ag : Bool} {x' i' : AOpn} (ho : o.op = .index t x i) (hx : opn x x' = true) (hi : opn i i' = true)
    (ht : P.underlying t = some (.array m e)) (hu : (P.underlying e).isSome = true) (hag : aggT P e = ag) (hsz : (P.info? e).map (·.size) = some sz) (h1 : ag = false → sz = 1)
    (hc : (aidxV ag m sz (S.rd x') (S.rd i')).c) (own : List Nat → Ow) : Ok1 P (execOp a.eval o) g w own (aidxV ag m sz (S.rd x') (S.rd i')).v := by
  have h := RT.of_opn hR hx
  have h2 := RT.of_opn hR hi
  cases hp : S.rd x' <;> cases hq : S.rd i' <;> rw [hp] at h hc <;> rw [hq] at h2 hc <;> simp only [aidxV] at hc ⊢ <;> try exact hc.elim
  rename_i cs k j
  have hfl := rd_agg_cells hp
  simp only [RT, RI] at h
  obtain ⟨us, ee, hus⟩ := h
  have hlen : 0 ≤ j ∧ j < m ∧ j.toNat * sz + sz ≤ cs.length := by
    cases ag with
    | true => simpa using hc
    | false => have := h1 rfl; simp at hc; exact ⟨hc.1, hc.2.1, by omega⟩
  obtain ⟨it, hit1, hit2⟩ := Option.map_eq_some_iff.1 hsz
  obtain ⟨u, hr, hru⟩ := part_ok (P := P) hus hu hag hsz h1 hlen.2.2
  simp only [Array.toArray_toList] at hr
  have hv : (if ag = true then FR.mk (0 ≤ j ∧ j < m ∧ j.toNat * sz + sz ≤ cs.length) (.agg ((cs.drop (j.toNat * sz)).take sz)) else ⟨0 ≤ j ∧ j < m ∧ j.toNat * sz < cs.length, cs.getD (j.toNat * sz) .junk⟩).v
      = (if ag then .agg ((cs.drop (j.toNat * sz)).take sz) else cs.getD (j.toNat * sz) .junk) := by cases ag <;> rfl
  rw [hv]
  refine Ok1.same (u := u) hR.heap.valid ?_ (RT.of_RI hru) ?_
  · simp [execOp, ho, ee, RI.int_inv h2, Instr.index, run_underlying ht, asIntOf, hlen.1, hlen.2.1, sizeOf, typeInfo, hit1, hit2, hr]
  · cases ag with
    | true => exact flv_agg_take hfl _ _
    | false => exact flv_agg_getD hfl _
theorem ok_idx (hR : Rel n S g a w) {t : TypeId} {x i : Operand} {x' i' : AOpn} (ho : o.op = .index t x i) (hx : opn x x' = true) (hi : opn i i' = true) (ht : P.underlying t = some .string)
    (hc : (idxV (S.rd x') (S.rd i')).c) (own : List Nat → Ow) : Ok1 P (execOp a.eval o) g w own (idxV (S.rd x') (S.rd i')).v := by
  have h := RT.of_opn hR hx
  have h2 := RT.of_opn hR hi
  cases hp : S.rd x' <;> cases hq : S.rd i' <;> rw [hp] at h hc <;> rw [hq] at h2 hc <;> simp only [idxV] at hc ⊢ <;> try exact hc.elim
  rename_i s k j
  obtain ⟨h0, hlt⟩ := hc
  have hlt' : j.toNat < s.size := by omega
  have hlt2 : j.toNat < s.data.toList.length := by simpa using hlt'
  refine Ok1.same (u := .int .u8 (s.data.toList.getD j.toNat 0).toNat) hR.heap.valid ?_ (by simp [RT, RI]) rfl
  have e : s[j.toNat]? = some (s.data.toList.getD j.toNat 0) := by
    rw [getElem?_pos s j.toNat hlt', List.getD_eq_getElem?_getD, List.getElem?_eq_getElem hlt2]
    rfl
  simp only [execOp, ho, RI.str_inv h, RI.int_inv h2, Instr.index, Sem.run_bind, asIntOf, Sem.run_pure, Result.andThen_ok, run_underlying ht, h0, if_true, e]
theorem ok_ext (hR : Rel n S g a w) {x : Operand} {x' : AOpn} {i : Nat} (ho : o.op = .extract x i) (hx : opn x x' = true) (hc : (extV i (S.rd x')).c) (own : List Nat → Ow) : Ok1 P (execOp a.eval o) g w own (extV i (S.rd x')).v := by
  have h := RT.of_opn hR hx
  cases hp : S.rd x' <;> rw [hp] at h hc <;> simp only [extV] at hc ⊢ <;> try exact hc.elim
  rename_i vs
  simp only [RT, RI] at h
  obtain ⟨us, e, hus⟩ := h
  obtain ⟨u, hu1, hu2⟩ := hus.get i vs[i] (by simp [hc])
  have e1 : vs.getD i .junk = vs[i] := by simp [List.getD_eq_getElem?_getD, hc]
  refine Ok1.same (u := u) hR.heap.valid ?_ ?_ ?_
  · have : us[i]? = some u := by simpa using hu1
    simp [execOp, ho, e, Instr.extract, this]
  · rw [e1]; exact RT.of_RI hu2
  · rw [rd_full] at hp
    generalize S.full x' = f at hp
    cases f with
    | tup ds =>
      simp only [rdv, AVal.tup.injEq] at hp
      subst hp
      rw [e1, List.getElem_map]
      generalize ds[i]'(by simpa using hc) = q
      cases q with
      | agg cs => exact flv_agg_rdc cs
      | lst o xs => cases o <;> rfl
      | _ => rfl
    | lst o xs => cases o <;> simp [rdv, rd1, rdc] at hp
    | _ => simp [rdv, rd1, rdc] at hp
theorem ok_len (hR : Rel n S g a w) {c : Call} {x : Operand} {x' : AOpn} {t e : TypeId} (ho : o.op = .call c) (hcal : c.callee = .builtin .len) (hargs : c.args = #[x]) (hts : c.argTypes[0]? = some t) (hx : opn x x' = true)
    (he : P.underlying t = some (.slice e)) (hc : (lenV (S.rd x')).c) (own : List Nat → Ow) : Ok1 P (execOp a.eval o) g w own (lenV (S.rd x')).v := by
  have h := RT.of_opn hR hx
  cases hp : S.rd x' <;> rw [hp] at h hc <;> simp only [lenV] at hc ⊢ <;> try exact hc.elim
  · simp only [RT, RI] at h
    obtain ⟨A, c', us, ee, _, hus, _⟩ := h
    exact Ok1.same (u := _) hR.heap.valid (by simp [execOp, ho, resolve, hcal, hargs, invoke, builtin, Builtin.len_, hts, run_underlying he, ee]; rfl) (by simp [RT, RI, goInt, hus.length]) rfl
  · simp only [RT, RI] at h
    obtain ⟨_, ee, _, _⟩ := h
    exact Ok1.same (u := _) hR.heap.valid (by simp [execOp, ho, resolve, hcal, hargs, invoke, builtin, Builtin.len_, hts, run_underlying he, ee]; rfl) (by simp [RT, RI, goInt]) rfl
theorem ok_slen (hR : Rel n S g a w) {c : Call} {x : Operand} {x' : AOpn} {t : TypeId} (ho : o.op = .call c) (hcal : c.callee = .builtin .len) (hargs : c.args = #[x]) (hts : c.argTypes[0]? = some t) (hx : opn x x' = true)
    (hs : P.underlying t = some .string) (hc : (slenV (S.rd x')).c) (own : List Nat → Ow) : Ok1 P (execOp a.eval o) g w own (slenV (S.rd x')).v := by
  have h := RT.of_opn hR hx
  cases hp : S.rd x' <;> rw [hp] at h hc <;> simp only [slenV] at hc ⊢ <;> try exact hc.elim
  exact Ok1.same (u := _) hR.heap.valid (by simp [execOp, ho, resolve, hcal, hargs, invoke, builtin, Builtin.len_, hts, run_underlying hs, RI.str_inv h]; rfl) (by simp [RT, RI, goInt]) rfl
theorem ok_alen (hv : ∀ b, w.heap.size ≤ b → g.ow b = .no) {c : Call} {x : Operand} {t e : TypeId} {m : Nat} (ho : o.op = .call c) (hcal : c.callee = .builtin .len) (hargs : c.args = #[x]) (hts : c.argTypes[0]? = some t)
    (ht : P.underlying t = some (.array m e)) (own : List Nat → Ow) : Ok1 P (execOp a.eval o) g w own (.int .i64 m) := by
  exact Ok1.same (u := _) hv (by simp [execOp, ho, resolve, hcal, hargs, invoke, builtin, Builtin.len_, hts, run_underlying ht]; rfl) (by simp [RT, RI, goInt]) rfl
end
end Go.Ge
