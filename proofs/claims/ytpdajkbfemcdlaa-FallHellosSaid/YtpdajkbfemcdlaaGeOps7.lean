/- The last of the quiet operations: structs built, conversions between bytes and strings, parts of strings; and all of them together. -/
import Derived.Test.YtpdajkbfemcdlaaGeOps6
set_option linter.unusedSimpArgs false
set_option linter.unusedVariables false
namespace Go.Ge
section
variable {P : Program} {n : Nat} {S : AState} {g : Gh} {a : Act} {w : World} {o : Oper}
open Go.RowKit

def ckParts (place : Nat → Option (Nat × Nat)) : List (Nat × Operand) → List (Nat × Nat × AOpn) → Bool
  | [], [] => true
  | (i, x) :: r, (off, sz, y) :: q => decide (place i = some (off, sz)) && opn x y && decide (0 < sz) && ckParts place r q
  | _, _ => false
theorem RVs.of_RIs' {own : Nat → Ow} {xs : List AVal} {i : Nat} {us : List Value} (hf : ∀ x ∈ xs, flc x = true) (h : RIs g w xs us) : RVs g w own i xs us := RVs.of_RIs xs i us hf h
theorem fl_cells {x : AVal} (h : flv x = true) (hw : 0 < x.width) : ∀ c ∈ x.cells, flc c = true := by
  cases x <;> simp only [AVal.cells, AVal.width] at hw ⊢
  case agg cs => simpa [flv, fl1] using h
  all_goals first
    | (intro c hc; simp at hc; subst hc; exact h)
    | omega
theorem fold_list (off : Nat) (v : List Value) (cs : Array Value) (h : off + v.length ≤ cs.size) :
    ((v.zipIdx 0).foldl (fun cs (x : Value × Nat) => cs.setIfInBounds (off + x.2) x.1) cs).toList = cs.toList.take off ++ v ++ cs.toList.drop (off + v.length) := by
  obtain ⟨h1, h2⟩ := Great.foldl_set off v 0 cs
  apply List.ext_getElem?
  intro k
  rw [Array.getElem?_toList, h2 k]
  simp only [Nat.add_zero]
  rcases Nat.lt_or_ge k off with hk | hk
  · rw [if_neg (by omega), List.append_assoc, List.getElem?_append_left (by simp; omega), List.getElem?_take_of_lt hk]; simp
  · rcases Nat.lt_or_ge k (off + v.length) with hk2 | hk2
    · rw [if_pos (by omega), List.append_assoc, List.getElem?_append_right (by simp; omega), List.getElem?_append_left (by simp; omega)]
      simp [Nat.min_eq_left (show off ≤ cs.size by omega)]
    · rw [if_neg (by omega), List.getElem?_append_right (by simp; omega), List.getElem?_drop]
      have e : off + v.length + (k - (List.take off cs.toList ++ v).length) = k := by simp; omega
      rw [e]; simp
theorem RVs.fill {own : Nat → Ow} {cs new : List AVal} {us vs : List Value} {off : Nat} (h : RVs g w own 0 cs us) (hn : RIs g w new vs) (hf : ∀ c ∈ new, flc c = true) (hle : off + new.length ≤ cs.length) :
    RVs g w own 0 (fillV cs off new) (us.take off ++ vs ++ us.drop (off + vs.length)) := by
  have hl := h.length
  have hl2 := hn.length
  have hlen : (us.take off ++ vs ++ us.drop (off + vs.length)).length = (fillV cs off new).length := by simp [fillV]; omega
  refine RVs.of_get hlen fun j x u hx hu => ?_
  simp only [fillV] at hx
  rcases Nat.lt_or_ge j off with hj | hj
  · rw [List.append_assoc, List.getElem?_append_left (by simp; omega), List.getElem?_take_of_lt hj] at hx hu
    obtain ⟨u', h1, h2⟩ := h.get j x hx
    rw [h1] at hu; cases hu; exact h2
  · rcases Nat.lt_or_ge j (off + new.length) with hj2 | hj2
    · rw [List.append_assoc, List.getElem?_append_right (by simp; omega), List.getElem?_append_left (by simp; omega)] at hx hu
      have e1 : j - (cs.take off).length = j - off := by simp; omega
      have e2 : j - (us.take off).length = j - off := by simp; omega
      rw [e1] at hx; rw [e2] at hu
      obtain ⟨u', h1, h2⟩ := hn.get _ x hx
      rw [h1] at hu; cases hu
      exact RVc.of_RI (hf x (List.mem_of_getElem? hx)) h2
    · rw [List.getElem?_append_right (by simp; omega), List.getElem?_drop] at hx hu
      have e1 : off + new.length + (j - (cs.take off ++ new).length) = j := by simp; omega
      have e2 : off + vs.length + (j - (us.take off ++ vs).length) = j := by simp; omega
      rw [e1] at hx; rw [e2] at hu
      obtain ⟨u', h1, h2⟩ := h.get j x hx
      rw [h1] at hu; cases hu; exact h2
theorem fill_ok (hR : Rel n S g a w) {place : Nat → Option (Nat × Nat)} {own : Nat → Ow} : ∀ (parts : List (Nat × Operand)) (ps : List (Nat × Nat × AOpn)) (cs : List AVal) (cells : Array Value), ckParts place parts ps = true →
    RVs g w own 0 cs cells.toList → (buildV S.rd cs ps).c → ∃ cells' cs', Instr.fill place cells (parts.map fun x => (x.1, a.eval x.2)) = some cells' ∧ RVs g w own 0 cs' cells'.toList ∧ (buildV S.rd cs ps).v = .agg cs'
  | [], [], cs, cells, _, h, _ => ⟨cells, cs, rfl, h, rfl⟩
  | (i, x) :: r, (off, sz, y) :: q, cs, cells, hck, h, hc => by
    simp only [ckParts, Bool.and_eq_true, decide_eq_true_eq] at hck
    obtain ⟨⟨⟨k1, k2⟩, k3⟩, k4⟩ := hck
    simp only [buildV] at hc ⊢
    obtain ⟨c1, cb, c2, c3⟩ := hc
    have hrt := RT.of_opn hR k2
    have hri : RI g w (S.rd y) (a.eval x) := RI.of_RT cb hrt
    have hws := hri.width (by omega)
    have hcl : (S.rd y).cells.length = sz := by rw [← c1]; cases hq : S.rd y <;> first | rfl | (rw [hq] at c1; simp only [AVal.width] at c1; omega)
    have hl := h.length
    have hsz : cells.size = cs.length := by simpa using hl
    have hfl := fold_list off (a.eval x).cells.toList cells (by simp; omega)
    have hrv := h.fill (off := off) (new := (S.rd y).cells) (vs := (a.eval x).cells.toList) (hri.cells (by omega)) (fl_cells (rd_fl S y) (by omega)) (by rw [hcl]; exact c2)
    rw [← hfl] at hrv
    obtain ⟨cells', cs', h1, h2, h3⟩ := fill_ok hR r q _ _ k4 hrv c3
    refine ⟨cells', cs', ?_, h2, h3⟩
    simp only [List.map_cons, Instr.fill, k1]
    rw [if_neg (by simp; omega)]
    rw [← h1]
    congr 1
    rw [← Array.foldl_toList, Array.toList_zipIdx]
  | [], _ :: _, _, _, h, _, _ => by simp [ckParts] at h
  | _ :: _, [], _, _, h, _, _ => by simp [ckParts] at h
theorem ok_build (hR : Rel n S g a w) {t : TypeId} {parts : Array (Nat × Operand)} {zero : List AVal} {ps : List (Nat × Nat × AOpn)} {place : Nat → Option (Nat × Nat)} {z : Value} (ho : o.op = .build t parts)
    (hb : ∀ vs : List (Nat × Value), P.built t vs = Instr.fill place z.cells vs) (hz : cvs z.cells.toList zero = true) (hp : ckParts place parts.toList ps = true) (hc : (buildV S.rd zero ps).c) (own : List Nat → Ow) :
    Ok1 P (execOp a.eval o) g w own (buildV S.rd zero ps).v := by
  obtain ⟨cells', cs', h1, h2, h3⟩ := fill_ok (own := fun i => own [i]) hR parts.toList ps zero z.cells hp (RVs.of_cvs hz) hc
  have hrun := run_build (P := P) w t (parts.map fun (i, x) => (i, a.eval x)) cells' (by rw [hb, Array.toList_map]; exact h1)
  refine ⟨.agg cells', w, g, ?_, .refl hR.heap.valid, ?_⟩
  · simp only [execOp, ho, Sem.run_bind, hrun, Result.andThen_ok, Sem.run_pure]
  · rw [h3]; simp only [RV, RV1]; exact ⟨_, rfl, h2⟩

theorem bytes_vals {xs : List AVal} {us : List Value} (h : RIs g w xs us) (hb : ∀ v ∈ xs, isByteV v) : ∃ ns : List Int, us = ns.map (Value.int .u8) ∧ xs.map byteOfV = ns.map fun n => UInt8.ofNat n.toNat := by
  induction xs generalizing us with
  | nil => simp [RIs] at h; exact ⟨[], by simp [h], rfl⟩
  | cons x xs ih =>
    simp only [RIs] at h
    obtain ⟨u, us', rfl, h1, h2⟩ := h
    obtain ⟨ns, h3, h4⟩ := ih h2 (fun v hv => hb v (by simp [hv]))
    obtain ⟨k, rfl⟩ := hb x (by simp)
    simp only [RI] at h1
    exact ⟨k :: ns, by simp [h1, h3], by simp [h4, byteOfV]⟩
theorem ok_b2s (hR : Rel n S g a w) {s d e : TypeId} {x : Operand} {x' : AOpn} (ho : o.op = .convert s d x) (hx : opn x x' = true) (hs : P.underlying s = some (.slice e)) (he : P.underlying e = some (.int .u8)) (hd : P.underlying d = some .string)
    (hc : (b2sV (S.rd x')).c) (own : List Nat → Ow) : Ok1 P (execOp a.eval o) g w own (b2sV (S.rd x')).v := by
  have h := RT.of_opn hR hx
  generalize S.rd x' = p at h hc ⊢
  cases p <;> simp only [b2sV] at hc ⊢ <;> try exact hc.elim
  rename_i ow xs
  simp only [RT, RI] at h
  obtain ⟨A, cap, us, ee, hlc, hus, ⟨sz, hsz, hst⟩, _⟩ := h
  obtain ⟨ns, hns, hbs⟩ := bytes_vals hus hc
  refine Ok1.same (u := .string (strOfV xs)) hR.heap.valid ?_ (by simp [RT, RI]) rfl
  have hrun : (convert s d (.slice A us.length cap)).run P w = .ok (.string (strOfV xs)) w := by
    cases us with
    | nil =>
      have : xs = [] := List.eq_nil_of_length_eq_zero (by simpa using hus.length.symm)
      subst this
      rw [run_convert_bytes_string w s d e A _ cap hs he hd]
      cases A with
      | none => simp [Conv.bytesToString, strOfV]; rfl
      | some ad => simp [Conv.bytesToString, strOfV, loadCells, loadCellsFrom]; rfl
    | cons u us =>
      obtain ⟨b, off, rfl, hcell⟩ := hst (by simp)
      have hsz1 : sz = 1 := by
        have := hsz u (by simp)
        cases ns with
        | nil => simp at hns
        | cons k ns => simp only [List.map_cons, List.cons.injEq] at hns; rw [hns.1] at this; exact this.symm
      have := run_convert_bytes_arg (P := P) w s e hs he b off (u :: us).length cap ns (by rw [hns]; simp) (fun i hi => by
        have hi' : i < ns.length := by rw [hns] at hi; simpa using hi
        have := hcell i (.int .u8 ns[i]) 0 (.int .u8 ns[i]) (by rw [hns]; simp [hi']) rfl
        have h2 := this.2.1
        rw [hsz1] at h2
        simpa [List.getD_eq_getElem?_getD, hi'] using h2) d hd
      rw [this]
      simp only [strOfV, hbs, strOfNums]
  simp only [execOp, ho, ee, Sem.run_bind, hrun, Result.andThen_ok, Sem.run_pure]
theorem ok_s2b (hR : Rel n S g a w) {s d e : TypeId} {x : Operand} {x' : AOpn} (ho : o.op = .convert s d x) (hx : opn x x' = true) (hs : P.underlying s = some .string) (hd : P.underlying d = some (.slice e)) (he : P.underlying e = some (.int .u8))
    (hc : (s2bV (S.rd x')).c) (own : List Nat → Ow) : Ok1 P (execOp a.eval o) g w own (s2bV (S.rd x')).v := by
  have h := RT.of_opn hR hx
  generalize S.rd x' = p at h hc ⊢
  cases p <;> simp only [s2bV] at hc ⊢ <;> try exact hc.elim
  rename_i q
  have hrun := Lib.run_convert_string_bytes (P := P) w s d e q hs hd he
  have hbl : Below w.heap.size w (Lib.bytesWorld w e q) := by
    refine ⟨rfl, rfl, rfl, by rw [Lib.bytesWorld_size]; omega, fun k hk => Lib.bytesWorld_at_old w e q k hk⟩
  have hcap := grownCap_ge w q.size 0 e
  have hbs : (Lib.bytesCells w e q).size = grownCap w q.size 0 e := by simp [Lib.bytesCells]; have : q.data.size = q.size := rfl; omega
  have hul : (q.data.toList.map fun b => Value.int .u8 b.toNat).length = q.size := by simp
  obtain ⟨f1, f2⟩ := new_row (g := g) hR.heap.valid hbl (Lib.bytesWorld_size w e q) (Lib.bytesWorld_at_new w e q) (by simp [Unfr]) (xs := bytesV q) (us := q.data.toList.map fun b => .int .u8 b.toNat) (sz := 1) (cap := grownCap w q.size 0 e)
    (RIs.of_get (by simp [bytesV]) fun i x u hx hu => by
      simp only [bytesV, List.getElem?_map] at hx hu
      cases hb : q.data.toList[i]? with
      | none => rw [hb] at hx; simp at hx
      | some b => rw [hb] at hx hu; simp at hx hu; subst hx hu; simp [RI])
    (fun u hu => by obtain ⟨b, _, rfl⟩ := List.mem_map.1 hu; rfl) (by rw [hul]; exact hcap) (by rw [hbs]; omega)
    (fun i u j x hi hj => by
      obtain ⟨b, hb, rfl⟩ : ∃ b, q.data.toList[i]? = some b ∧ u = .int .u8 b.toNat := by
        rw [List.getElem?_map] at hi
        obtain ⟨b, h1, h2⟩ := Option.map_eq_some_iff.1 hi
        exact ⟨b, h1, h2.symm⟩
      have hlt : i < q.size := by have := (List.getElem?_eq_some_iff.1 hb).1; simpa using this
      cases j with
      | zero =>
        simp only [Value.cells, List.getElem?_toArray, List.getElem?_cons_zero, Option.some.injEq] at hj
        subst hj
        refine ⟨?_, rfl⟩
        have hb' : q.data[i]? = some b := by simpa using hb
        simp only [Lib.bytesCells, Nat.mul_one, Nat.add_zero]
        rw [Array.getElem?_append_left (by simpa using hlt), Array.getElem?_map, hb']; rfl
      | succ j => simp [Value.cells] at hj) false own
  rw [hul] at f1 f2
  refine ⟨_, _, _, ?_, f1, f2⟩
  simp only [execOp, ho, RI.str_inv h, Sem.run_bind, hrun, Result.andThen_ok, Sem.run_pure]
theorem ok_sslice (hR : Rel n S g a w) {t : TypeId} {x : Operand} {lo hi : Option Operand} {x' : AOpn} {lo' hi' : Option AOpn} (ho : o.op = .slice t x lo hi none) (hx : opn x x' = true)
    (h1 : oopn lo lo' = true) (h2 : oopn hi hi' = true) (ht : P.underlying t = some .string) (hc : (ssliceV S.rd (S.rd x') lo' hi').c) (own : List Nat → Ow) : Ok1 P (execOp a.eval o) g w own (ssliceV S.rd (S.rd x') lo' hi').v := by
  have h := RT.of_opn hR hx
  generalize S.rd x' = p at h hc ⊢
  cases p <;> simp only [ssliceV] at hc ⊢ <;> try exact hc.elim
  rename_i q
  cases hl : loV S.rd lo' with
  | none => simp [hl] at hc
  | some l =>
    cases hh : hiV S.rd q.size hi' with
    | none => simp [hl, hh] at hc
    | some h' =>
      simp only [hl, hh] at hc ⊢
      obtain ⟨c0, c1, c2⟩ := hc
      have hb := bounds_ok (P := P) hR h1 h2 false q.size q.size hl hh c0 c1 (by omega)
      refine Ok1.same (u := .string (q.extract l.toNat h'.toNat)) hR.heap.valid ?_ (by simp [RT, RI]) rfl
      simp [execOp, ho, RI.str_inv h, Instr.sliceAt, Instr.slice, run_underlying ht, hb]
end
end Go.Ge
