/- The quiet operations, one by one. -/
import Derived.Test.YtpdajkbfemcdlaaGeFloat
import Derived.Lib.ConvBytes
import Derived.Laws.BytesString
import Derived.Laws.BytesArg
import Derived.Laws.Small
namespace Go.Ge

/-! ### Memory that is read -/
/-- From address v on lie the cells us, which read as cs. -/
def Lies (w : World) (v : Value) (us : List Value) : Prop := ∃ b off, v = .pointer (some ⟨b, off, none⟩) ∧ ∀ j u, us[j]? = some u → w.cell? ⟨b, off + j, none⟩ = some u
theorem Lies.drop {w : World} {b off : Nat} {us : List Value} (k : Nat) (h : ∀ (j : Nat) (u : Value), us[j]? = some u → w.cell? ⟨b, off + j, none⟩ = some u) :
    ∀ (j : Nat) (u : Value), (us.drop k)[j]? = some u → w.cell? ⟨b, off + k + j, none⟩ = some u := by
  intro j u hj
  rw [List.getElem?_drop] at hj
  have := h _ _ hj
  rwa [← Nat.add_assoc] at this
theorem cell_of_block {w : World} {b o : Nat} {cur : Array Value} {e : TypeId} {fz : Nat × Nat} (h : w.heap[b]? = some (.cells cur e fz)) : w.cell? ⟨b, o, none⟩ = cur[o]? := by
  simp [World.cell?, h]
theorem RI.rdc {g : Gh} {w : World} {x : AVal} {v : Value} (h : RI g w x v) : RI g w (rdc x) v := by
  cases x <;> simp only [Ge.rdc] <;> try exact h
  · simp [RI]
  · simp [RI]
  · rename_i o xs
    cases o <;> simp only [RI] at h ⊢
    all_goals first
      | trivial
      | exact h
theorem RIs.rdc {g : Gh} {w : World} : ∀ {xs : List AVal} {us : List Value}, RIs g w xs us → RIs g w (xs.map rdc) us
  | [], _, h => by simpa [RIs] using h
  | a :: as, us, h => by
    simp only [RIs] at h
    obtain ⟨u, us', e, h1, h2⟩ := h
    simp only [List.map, RIs]
    exact ⟨u, us', e, h1.rdc, RIs.rdc h2⟩
theorem isSome_iff' {α : Type} {x : Option α} (h : x.isSome = true) : ∃ a, x = some a := Option.isSome_iff_exists.1 h

def aggT (P : Program) (t : TypeId) : Bool := match P.underlying t with | some (.struct _) | some (.array _ _) => true | _ => false
theorem run_isAgg' {P : Program} {w : World} {t : TypeId} (h : (P.underlying t).isSome = true) : (isAgg t).run P w = .ok (aggT P t) w := by
  obtain ⟨d, hd⟩ := isSome_iff' h
  simp only [isAgg, aggT, hd]
  cases d <;> simp [run_underlying hd]
theorem run_loadVar' {P : Program} {w : World} {t : TypeId} {us : List Value} {b off : Nat} (hu : (P.underlying t).isSome = true) (hi : (P.info? t).map (·.size) = some us.length)
    (hl : ∀ (j : Nat) (u : Value), us[j]? = some u → w.cell? ⟨b, off + j, none⟩ = some u) :
    (loadVar t ⟨b, off, none⟩).run P w = if aggT P t then .ok (.agg us.toArray) w else match us.head? with | some u => .ok u w | none => (load ⟨b, off, none⟩).run P w := by
  obtain ⟨i, hi1, hi2⟩ := Option.map_eq_some_iff.1 hi
  have hs : (sizeOf t).run P w = .ok us.length w := by simp [sizeOf, typeInfo, hi1, hi2]
  have hc : (loadCells ⟨b, off, none⟩ us.length).run P w = .ok us.toArray w := run_loadCells_list w ⟨b, off, none⟩ us (fun j v hj => by simpa [Addr.add_lit] using hl j v hj)
  simp only [loadVar, Sem.run_bind, run_isAgg' hu, Result.andThen_ok]
  cases hag : aggT P t with
  | true => simp [hs, hc]
  | false =>
    cases us with
    | nil => simp
    | cons u us =>
      have : w.cell? ⟨b, off, none⟩ = some u := by simpa using hl 0 u (by simp)
      simp [this]

/-- What 'memV' reads. -/
theorem mem_lies {n : Nat} {S : AState} {g : Gh} {a : Act} {w : World} (hR : Rel n S g a w) {ag : Bool} {sz : Nat} {p : AVal} {v : Value} (hp : RT g w p v)
    (hc : (memV S.boxes S.heap ag sz p).c) :
    ∃ b off us, v = .pointer (some ⟨b, off, none⟩) ∧ (∀ (j : Nat) (u : Value), us[j]? = some u → w.cell? ⟨b, off + j, none⟩ = some u) ∧
      (if ag then ∃ cs, sz ≤ us.length ∧ RIs g w cs us ∧ (memV S.boxes S.heap ag sz p).v = .agg (cs.take sz) else ∃ u, us.head? = some u ∧ RI g w (memV S.boxes S.heap ag sz p).v u ∧ noBox (memV S.boxes S.heap ag sz p).v = true) := by
  have key : ∀ (cs : List AVal) (us : List Value), RIs g w (cs.map rdc) us → (ag = true → sz ≤ cs.length) → (ag = false → 0 < cs.length) →
      (if ag then ∃ cs', sz ≤ us.length ∧ RIs g w cs' us ∧ AVal.agg ((cs.take sz).map rdc) = .agg (cs'.take sz) else ∃ u, us.head? = some u ∧ RI g w (rdc (cs.headD .junk)) u) := by
    intro cs us h h1 h2
    cases ag with
    | true => simp only [if_true]; exact ⟨cs.map rdc, by rw [h.length]; simpa using h1 rfl, h, by rw [List.map_take]⟩
    | false =>
      simp only [Bool.false_eq_true, if_false]
      cases cs with
      | nil => simp at h2
      | cons c cs =>
        simp only [List.map, RIs] at h
        obtain ⟨u, us', rfl, h3, _⟩ := h
        exact ⟨u, by simp, by simpa using h3⟩
  have nb : ∀ x u, RI g w x u → noBox x = true := by
    intro x u h; cases x <;> first | rfl | (simp only [RI] at h)
  cases p with
  | cptr cs =>
    simp only [RT, RI] at hp
    obtain ⟨b, off, us, e, h, hst⟩ := hp
    refine ⟨b, off, us, e, fun j u hj => (hst j u hj).2.1, ?_⟩
    have := key cs us h.rdc (by intro e; simp only [memV, e, if_true] at hc; exact hc) (by intro e; simp only [memV, e] at hc; exact hc)
    cases ag with
    | true => simpa [memV] using this
    | false =>
      simp only [memV, Bool.false_eq_true, if_false] at this ⊢
      obtain ⟨u, h1, h2⟩ := this
      exact ⟨u, h1, h2, nb _ _ h2⟩
  | box s off =>
    simp only [memV] at hc
    cases hs : S.boxes s with
    | none => simp [hs] at hc
    | some cs =>
      obtain ⟨us, e, fz, hb, _, _, _, hv⟩ := hR.boxes s cs hs
      have hv' := RIs_rdc _ _ _ hv
      refine ⟨g.ib s, off, us.toList.drop off, by simpa [RT] using hp, ?_, ?_⟩
      · have := Lies.drop (w := w) (b := g.ib s) (off := 0) (us := us.toList) off (fun j u hj => by rw [cell_of_block hb]; simpa using hj)
        simpa using this
      · have := key (cs.drop off) (us.toList.drop off) (by rw [List.map_drop]; exact hv'.drop off)
          (by intro e; simp only [hs, e, if_true] at hc; simp; omega) (by intro e; simp [hs, e] at hc; simp; omega)
        cases ag with
        | true => simpa [memV, hs] using this
        | false =>
          simp only [memV, hs, Bool.false_eq_true, if_false] at this ⊢
          obtain ⟨u, h1, h2⟩ := this
          have e : (cs.drop off).headD .junk = cs.getD off .junk := by simp [List.headD_eq_head?_getD, List.getD_eq_getElem?_getD]
          rw [e] at h2
          exact ⟨u, h1, h2, nb _ _ h2⟩
  | hp id off =>
    simp only [memV] at hc
    cases hs : S.heap[id]? with
    | none => simp [hs] at hc
    | some o =>
      cases o with
      | dead => simp [hs] at hc
      | cells cs =>
        simp only [RT, RI] at hp
        by_cases hne : cs = []
        · subst hne
          refine ⟨(g.io id).1, (g.io id).2 + off, [], hp.2, by simp, ?_⟩
          cases ag with
          | true =>
            simp only [hs, if_true, List.length_nil] at hc
            simp only [memV, hs, if_true]
            exact ⟨[], by simp; omega, by simp [RIs], by simp⟩
          | false => simp [hs] at hc
        obtain ⟨cur, e, fz, us, hb, _, _, _, _, hcur, hv⟩ := hR.heap.obj id _ hs hne
        have hv' := RIs_rdc _ _ _ hv
        refine ⟨(g.io id).1, (g.io id).2 + off, us.drop off, hp.2, Lies.drop off (fun j u hj => by rw [cell_of_block hb]; exact hcur j u hj), ?_⟩
        have := key (cs.drop off) (us.drop off) (by rw [List.map_drop]; exact hv'.drop off)
          (by intro e; simp only [hs, e, if_true] at hc; simp; omega) (by intro e; simp [hs, e] at hc; simp; omega)
        cases ag with
        | true => simpa [memV, hs] using this
        | false =>
          simp only [memV, hs, Bool.false_eq_true, if_false] at this ⊢
          obtain ⟨u, h1, h2⟩ := this
          have e : (cs.drop off).headD .junk = cs.getD off .junk := by simp [List.headD_eq_head?_getD, List.getD_eq_getElem?_getD]
          rw [e] at h2
          exact ⟨u, h1, h2, nb _ _ h2⟩
  | _ => simp [memV] at hc
theorem mem_fl (bx : Nat → Option (List AVal)) (hp : List HObj) (ag : Bool) (sz : Nat) (p : AVal) : flv (memV bx hp ag sz p).v = true := by
  have hj : flv .junk = true := rfl
  have h1 : ∀ x, flv (rdc x) = true := fun x => by cases x <;> first | rfl | (rename_i o xs; cases o <;> rfl)
  have h2 : ∀ l : List AVal, flv (.agg (l.map rdc)) = true := fun l => by simp only [flv, fl1, List.all_map, List.all_eq_true]; exact fun x _ => flc_rdc x
  cases p <;> simp only [memV] <;> try exact hj
  · split <;> first | exact h2 _ | exact h1 _
  · split
    · split <;> first | exact h2 _ | exact h1 _
    · exact hj
  · split
    · split <;> first | exact h2 _ | exact h1 _
    · exact hj
theorem ok_load {P : Program} {n : Nat} {S : AState} {g : Gh} {a : Act} {w : World} (hR : Rel n S g a w) {o : Oper} {t : TypeId} {x : Operand} {y : AOpn} {ag : Bool} {sz : Nat} (ho : o.op = .load t x)
    (hx : opn x y = true) (hu : (P.underlying t).isSome = true) (ht : aggT P t = ag) (hi : (P.info? t).map (·.size) = some sz) (h1 : ag = false → sz = 1)
    (hc : (memV S.boxes S.heap ag sz (S.rd y)).c) (own : List Nat → Ow) : Ok1 P (execOp a.eval o) g w own (memV S.boxes S.heap ag sz (S.rd y)).v := by
  obtain ⟨b, off, us, hv, hl, hval⟩ := mem_lies hR (RT.of_opn hR hx) hc
  cases ag with
  | true =>
    simp only [if_true] at hval
    obtain ⟨cs, hsz, hcs, he⟩ := hval
    have hrun := run_loadVar' (P := P) (w := w) (t := t) (us := us.take sz) (b := b) (off := off) hu (by rw [hi]; simp [hsz]) (fun j u hj => hl j u (by
      rcases Nat.lt_or_ge j sz with h | h
      · rwa [List.getElem?_take_of_lt h] at hj
      · simp [List.getElem?_take, Nat.not_lt.2 h] at hj))
    rw [ht] at hrun
    simp only [if_true] at hrun
    refine Ok1.same (u := .agg (us.take sz).toArray) hR.heap.valid ?_ ?_ (mem_fl _ _ _ _ _)
    · simp [execOp, ho, Instr.loadAt, hv, Instr.sureAddr, hrun]
    · rw [he]; simp only [RT, RI]; exact ⟨_, rfl, by simpa using hcs.take sz⟩
  | false =>
    simp only [Bool.false_eq_true, if_false] at hval
    obtain ⟨u, hu1, hu2, hu3⟩ := hval
    cases us with
    | nil => simp at hu1
    | cons u' us =>
      simp at hu1; subst hu1
      have hrun := run_loadVar' (P := P) (w := w) (t := t) (us := [u']) (b := b) (off := off) hu (by rw [hi, h1 rfl]; rfl) (fun j u hj => by
        cases j with
        | zero => exact hl 0 u (by simpa using hj)
        | succ j => simp at hj)
      rw [ht] at hrun
      simp only [Bool.false_eq_true, if_false, List.head?_cons] at hrun
      refine Ok1.same (u := u') hR.heap.valid ?_ (RT.of_RI hu2) (mem_fl _ _ _ _ _)
      simp [execOp, ho, Instr.loadAt, hv, Instr.sureAddr, hrun]
end Go.Ge
