/- Slices that may be written: made, written, given back. -/
import Derived.Test.YtpdajkbfemcdlaaGeEff7
import Derived.Laws.IdiomCopy
set_option linter.unusedSimpArgs false
set_option linter.unusedVariables false
namespace Go.Ge
open Go.Proofs (Enters enters_of)
open Go.RowKit
section
variable {P : Program} {n : Nat} {S : AState} {g : Gh} {a : Act} {w : World} {o : Oper} {next : Act → World → Prop} {Q : Exit → Act → World → Prop}

theorem flC_flc {x : AVal} (h : flC x = true) : flc x = true := by unfold flC at h; unfold flc; split at h <;> simp_all
/-- An object more. -/
def Gh.addObj (g : Gh) (b off : Nat) : Gh := { g with io := fun id => if id = g.nh then (b, off) else g.io id, nh := g.nh + 1 }
theorem Stb.addObj {b off : Nat} : Stb g w (g.addObj b off) w := ⟨fun _ _ _ h => h, Nat.le_succ _, fun id h => by simp [Gh.addObj, Nat.ne_of_lt h]⟩
theorem Keep.addObj {b off : Nat} {q : Ow} : Keep g w (g.addObj b off) w q q := fun _ hb => ⟨hb, rfl, rfl⟩
theorem Evo.addObj {b off : Nat} : Evo g w (g.addObj b off) w :=
  ⟨rfl, rfl, rfl, Nat.le_refl _, fun b _ h => ⟨rfl, rfl, rfl⟩, fun _ _ => ⟨Nat.le_refl _, fun _ _ => rfl⟩, Nat.le_succ _, Stb.addObj.io (w := w)⟩
/-- A block that has just been made is a new object. -/
theorem Rel.newObj (hR : Rel n S g a w) {w' : World} (hb : Below w.heap.size w w') (hs : w'.heap.size = w.heap.size + 1) {cur : Array Value} {e : TypeId} {fz : Nat × Nat} (hblk : w'.heap[w.heap.size]? = some (.cells cur e fz)) (hfz : Unfr cur.size fz)
    {cs : List AVal} {us : List Value} (hus : RIs g w cs us) (hfl : ∀ c ∈ cs, flc c = true) (hle : us.length ≤ cur.size) (hcell : ∀ (j : Nat) (u : Value), us[j]? = some u → cur[j]? = some u) :
    ∃ g', Rel n { S with heap := S.heap ++ [.cells cs] } g' a w' ∧ Evo g w g' w' ∧ g'.nh = S.heap.length + 1 ∧ g'.io S.heap.length = (w.heap.size, 0) := by
  have f := Fresh.new (g := g) hR.heap.valid hb hs (.obj g.nh) 0
  have hR1 := hR.fresh f
  have hnh := hR.heap.nh
  refine ⟨(g.alloc w.heap.size (.obj g.nh) 0).addObj w.heap.size 0, ⟨hR1.size, hR1.defers, fun t => RV.mono Stb.addObj (fun _ => Keep.addObj) _ _ (fun _ _ _ => rfl) (hR1.env t),
    fun s ds hs => RBox.mono Stb.addObj rfl Keep.addObj (fun _ => Keep.addObj) (hR1.boxes s ds hs), ⟨?_, fun id ob hob => ?_, hR1.heap.valid⟩⟩, f.evo.trans Evo.addObj, by simp [Gh.addObj, Gh.alloc, hnh], by simp [Gh.addObj, Gh.alloc, hnh]⟩
  · simp [Gh.addObj, Gh.alloc, hnh]
  · rcases Nat.lt_or_ge id S.heap.length with hlt | hge
    · rw [List.getElem?_append_left hlt] at hob
      exact RObj.mono Stb.addObj (by rw [hR1.heap.nh]; exact hlt) Keep.addObj (fun _ => Keep.addObj) (hR1.heap.obj id ob hob)
    · rw [List.getElem?_append_right hge] at hob
      have hid : id = S.heap.length := by
        have := (List.getElem?_eq_some_iff.1 hob).1
        simp at this; omega
      subst hid
      simp at hob; subst hob
      simp only [RObj]
      have hio : ((g.alloc w.heap.size (.obj g.nh) 0).addObj w.heap.size 0).io S.heap.length = (w.heap.size, 0) := by simp [Gh.addObj, Gh.alloc, hnh]
      rw [hio]
      refine fun _ => ⟨cur, e, fz, us, hblk, hfz, by simp [Gh.addObj, Gh.alloc, hnh], by simp [Gh.addObj, Gh.alloc], by simpa using hle, fun j u hj => by simpa using hcell j u hj, ?_⟩
      exact RVs.of_RIs _ _ _ hfl (RIs.mono Stb.addObj _ _ (RIs.mono f.evo.stb _ _ hus))

theorem RIs.junks (us : List Value) : RIs g w (List.replicate us.length .junk) us := by
  induction us with
  | nil => simp [RIs]
  | cons u us ih => simp only [List.length_cons, List.replicate_succ, RIs]; exact ⟨u, us, rfl, by simp [RI], ih⟩
/-- The names change: what held q holds q' now. -/
theorem Rel.ren1 (hR : Rel n S g a w) {q q' : Ow} (h1 : q ≠ .no) (h2 : q ≠ .other) (hs : ∀ t p, .slot t p ≠ q) (hb : ∀ s, .box s ≠ q) (hbc : ∀ s p, .boxc s p ≠ q) (ho : ∀ id, .obj id ≠ q) (hoc : ∀ id p, .objc id p ≠ q) : Rel n S (g.ren (Ge.ren1 q q')) a w := by
  refine ⟨hR.size, hR.defers, fun t => RV.mono Stb.ren (fun p => Keep.ren (ren1_other (hs t p))) _ _ (fun _ _ _ => rfl) (hR.env t),
    fun s ds hs => RBox.mono Stb.ren rfl (Keep.ren (ren1_other (hb s))) (fun p => Keep.ren (ren1_other (hbc s p))) (hR.boxes s ds hs), ⟨hR.heap.nh, fun id ob hob => ?_, fun b hb => ?_⟩⟩
  · exact RObj.mono Stb.ren (by rw [hR.heap.nh]; exact (List.getElem?_eq_some_iff.1 hob).1) (Keep.ren (ren1_other (ho id))) (fun p => Keep.ren (ren1_other (hoc id p))) (hR.heap.obj id ob hob)
  · simp [Gh.ren, hR.heap.valid b hb, Ge.ren1, h1.symm]
def thO (s id : Nat) : Ow → Ow := Ge.ren1 (.slot s []) (.obj id)
/-- What is held alone becomes an object. -/
theorem Rel.thaw (hR : Rel n S g a w) {s sz cap : Nat} {xs : List AVal} (h : S.env s = .lst (.uniq sz cap) xs) (hpos : 0 < sz) (hx : ∀ x ∈ xs, x.width = sz ∧ x.cells.all flC = true) :
    ∃ g', Rel n (({ S with heap := S.heap ++ [.cells (xs.flatMap AVal.cells ++ List.replicate ((cap - xs.length) * sz) .junk)] } : AState).set s (.ref S.heap.length 0 xs.length cap)) g' a w ∧ Evo g w g' w := by
  have hv := hR.env s
  rw [h] at hv
  simp only [RV, RV1, RVc] at hv
  obtain ⟨A, us, ee, hlc, hus, hws, hu⟩ := hv
  have hl := hus.length
  have hnh := hR.heap.nh
  obtain ⟨b, off, hb⟩ : ∃ b off, cap ≠ 0 → ∃ cur e fz, A = some ⟨b, off, none⟩ ∧ g.ow b = .slot s [] ∧ g.fr b ≤ off ∧ w.heap[b]? = some (.cells cur e fz) ∧ off + cap * sz ≤ cur.size ∧ Unfr cur.size fz ∧
      ∀ (i : Nat) (u : Value) (j : Nat) (x : Value), us[i]? = some u → u.cells[j]? = some x → cur[off + i * sz + j]? = some x ∧ x.oneCell' = true := by
    rcases hu with hu | ⟨b, off, cur, e, fz, q⟩
    · exact ⟨0, 0, fun hc => absurd hu hc⟩
    · exact ⟨b, off, fun _ => ⟨cur, e, fz, q⟩⟩
  have hno : thO s g.nh .no = .no := by simp [thO, Ge.ren1]
  have hother : thO s g.nh .other = .other := by simp [thO, Ge.ren1]
  refine ⟨(g.ren (thO s g.nh)).addObj b off, ⟨hR.size, hR.defers, fun t => ?_, fun q ds hq => ?_, ⟨?_, fun id ob hob => ?_, fun b' hb' => ?_⟩⟩, (Evo.ren hno hother).trans Evo.addObj⟩
  · simp only [AState.set]
    by_cases e1 : t = s
    · subst e1
      rw [if_pos rfl]
      simp only [RV, RV1, RVc, RI]
      refine ⟨A, by rw [← hl]; exact ee, by omega, fun hc => ?_⟩
      obtain ⟨cur, e, fz, rfl, _⟩ := hb hc
      rw [← hnh]
      refine ⟨by simp [Gh.addObj, Gh.ren], by simp [Gh.addObj, Gh.ren]⟩
    · rw [if_neg e1]
      refine RV.mono Stb.addObj (fun _ => Keep.addObj) _ _ (fun _ _ _ => rfl) (RV.mono Stb.ren (fun p => Keep.ren (ren1_other ?_)) _ _ (fun _ _ _ => rfl) (hR.env t))
      simp only [ne_eq, Ow.slot.injEq, not_and]; exact fun e2 => absurd e2 e1
  · exact RBox.mono Stb.addObj rfl Keep.addObj (fun _ => Keep.addObj) (RBox.mono Stb.ren rfl (Keep.ren (ren1_other (by simp))) (fun p => Keep.ren (ren1_other (by simp))) (hR.boxes q ds hq))
  · simp [Gh.addObj, Gh.ren, hnh, AState.set]
  · simp only [AState.set] at hob
    rcases Nat.lt_or_ge id S.heap.length with hlt | hge
    · rw [List.getElem?_append_left hlt] at hob
      exact RObj.mono Stb.addObj (by show id < g.nh; rw [hnh]; exact hlt) Keep.addObj (fun _ => Keep.addObj) (RObj.mono Stb.ren (by rw [hnh]; exact hlt) (Keep.ren (ren1_other (by simp))) (fun p => Keep.ren (ren1_other (by simp))) (hR.heap.obj id ob hob))
    · rw [List.getElem?_append_right hge] at hob
      have hid : id = S.heap.length := by
        have := (List.getElem?_eq_some_iff.1 hob).1
        simp at this; omega
      subst hid
      simp at hob; subst hob
      simp only [RObj]
      intro hne
      have hc : cap ≠ 0 := by
        rintro rfl
        have : xs = [] := List.eq_nil_of_length_eq_zero (by omega)
        subst this
        simp at hne
      obtain ⟨cur, e, fz, rfl, q2, q3, q4, q5, q6, q7⟩ := hb hc
      have hio : ((g.ren (thO s g.nh)).addObj b off).io S.heap.length = (b, off) := by simp [Gh.addObj, Gh.ren, hnh]
      rw [hio]
      have hfl := flat_length hws
      have hmul : us.length * sz + (cap - xs.length) * sz = cap * sz := by rw [← hl, ← Nat.add_mul]; congr 1; omega
      have hul : ((cur.toList.drop off).take (cap * sz)).length = cap * sz := by simp; omega
      have hflat : flat us = ((cur.toList.drop off).take (cap * sz)).take (us.length * sz) := by
        apply List.ext_getElem?
        intro k
        rcases Nat.lt_or_ge k (us.length * sz) with hk | hk
        · obtain ⟨x, hx'⟩ : ∃ x, (flat us)[k]? = some x := ⟨_, List.getElem?_eq_getElem (by omega)⟩
          obtain ⟨i, j, u, z1, z2, rfl⟩ := flat_at hws hx'
          obtain ⟨z3, _⟩ := q7 i u j x z1 z2
          rw [hx', List.getElem?_take_of_lt hk, List.getElem?_take_of_lt (by omega), List.getElem?_drop]
          rw [← Nat.add_assoc]; simpa using z3.symm
        · rw [List.getElem?_eq_none (by omega), List.getElem?_eq_none (by simp; omega)]
      refine ⟨cur, e, fz, (cur.toList.drop off).take (cap * sz), q4, q6, by simp [Gh.addObj, Gh.ren, q2, hnh, thO, Ge.ren1], q3, by omega, fun j u hj => ?_, ?_⟩
      · have hj' : j < cap * sz := by rw [← hul]; exact (List.getElem?_eq_some_iff.1 hj).1
        rw [List.getElem?_take_of_lt hj', List.getElem?_drop] at hj
        simpa using hj
      · refine RVs.of_RIs _ _ _ (fun c hc => ?_) ?_
        · rcases List.mem_append.1 hc with hc | hc
          · obtain ⟨x, hx1, hx2⟩ := List.mem_flatMap.1 hc
            exact flC_flc (List.all_eq_true.1 (hx x hx1).2 c hx2)
          · rw [(List.mem_replicate.1 hc).2]; rfl
        · rw [← List.take_append_drop (us.length * sz) ((cur.toList.drop off).take (cap * sz)), ← hflat]
          refine RIs.mono Stb.addObj _ _ (RIs.mono Stb.ren _ _ ?_)
          refine (hus.flat (fun x hx' => (hx x hx').1) hpos).append ?_
          have := RIs.junks (g := g) (w := w) (((cur.toList.drop off).take (cap * sz)).drop (us.length * sz))
          have e5 : (((cur.toList.drop off).take (cap * sz)).drop (us.length * sz)).length = (cap - xs.length) * sz := by
            rw [List.length_drop, hul]; omega
          rwa [e5] at this
  · simp only [Gh.addObj, Gh.ren, hR.heap.valid b' hb', hno]

def chunkU (ag : Bool) (sz : Nat) : List Value → Nat → List Value
  | _, 0 => []
  | us, k + 1 => (if ag then .agg (us.take sz).toArray else us.headD undef) :: chunkU ag sz (us.drop sz) k
theorem chunkU_length (ag : Bool) (sz : Nat) : ∀ (us : List Value) (k : Nat), (chunkU ag sz us k).length = k
  | _, 0 => rfl
  | us, k + 1 => by simp [chunkU, chunkU_length ag sz _ k]
theorem cells_one {v : Value} (h : v.oneCell' = true) : v.cells = #[v] := by cases v <;> first | rfl | simp [Value.oneCell'] at h
theorem chunk_ok {ag : Bool} {sz : Nat} (h1 : ag = false → sz = 1) (hpos : 0 < sz) : ∀ (k : Nat) (cs : List AVal) (us : List Value), RIs g w cs us → k * sz ≤ us.length → (∀ u ∈ us.take (k * sz), u.oneCell' = true) →
    RIs g w (chunkV ag sz cs k) (chunkU ag sz us k) ∧ (∀ u ∈ chunkU ag sz us k, u.cells.size = sz) ∧ (∀ (i : Nat) (u : Value) (j : Nat) (x : Value), (chunkU ag sz us k)[i]? = some u → u.cells[j]? = some x → us[i * sz + j]? = some x ∧ x.oneCell' = true)
  | 0, cs, us, h, hk, _ => by simp [chunkV, chunkU, RIs]
  | k + 1, cs, us, h, hk, ho => by
    rw [Nat.add_mul, Nat.one_mul] at hk ho
    obtain ⟨i1, i2, i3⟩ := chunk_ok h1 hpos k (cs.drop sz) (us.drop sz) (h.drop sz) (by simp; omega) (fun u hu => ho u (by
      obtain ⟨m, hm⟩ := List.getElem?_of_mem hu
      have hlt : m < k * sz := by
        have := (List.getElem?_eq_some_iff.1 hm).1
        simp at this; omega
      rw [List.getElem?_take_of_lt hlt, List.getElem?_drop] at hm
      exact List.mem_of_getElem? (i := sz + m) (by rw [List.getElem?_take_of_lt (by omega)]; exact hm)))
    have hmem : ∀ (j : Nat) (x : Value), j < sz → us[j]? = some x → x.oneCell' = true := fun j x hj hx =>
      ho x (List.mem_of_getElem? (i := j) (by rw [List.getElem?_take_of_lt (by omega)]; exact hx))
    cases ag with
    | true =>
      refine ⟨?_, ?_, ?_⟩
      · simp only [chunkV, chunkU, RIs, if_true]
        refine ⟨_, _, rfl, ?_, i1⟩
        simp only [RI]
        exact ⟨_, rfl, by simpa using h.take sz⟩
      · intro u hu
        simp only [chunkU, if_true, List.mem_cons] at hu
        rcases hu with rfl | hu
        · simp [Value.cells]; omega
        · exact i2 u hu
      · intro i u j x hi hj
        cases i with
        | zero =>
          simp only [chunkU, if_true, List.getElem?_cons_zero, Option.some.injEq] at hi
          subst hi
          simp only [Value.cells, List.getElem?_toArray] at hj
          have hlt : j < sz := by
            have := (List.getElem?_eq_some_iff.1 hj).1
            simp at this; omega
          rw [List.getElem?_take_of_lt hlt] at hj
          exact ⟨by simpa using hj, hmem j x hlt hj⟩
        | succ i =>
          simp only [chunkU, List.getElem?_cons_succ] at hi
          obtain ⟨q1, q2⟩ := i3 i u j x hi hj
          rw [List.getElem?_drop] at q1
          exact ⟨by rw [Nat.add_mul, Nat.one_mul]; rw [← q1]; congr 1; omega, q2⟩
    | false =>
      have hsz := h1 rfl
      subst hsz
      obtain ⟨u0, us', rfl⟩ : ∃ u us', us = u :: us' := by
        cases us with
        | nil => simp at hk
        | cons u us => exact ⟨u, us, rfl⟩
      have hu0 := hmem 0 u0 (by omega) (by simp)
      cases cs with
      | nil => simp [RIs] at h
      | cons c cs =>
        simp only [RIs] at h
        obtain ⟨_, _, e0, hc, _⟩ := h
        simp only [List.cons.injEq] at e0
        obtain ⟨rfl, rfl⟩ := e0
        refine ⟨?_, ?_, ?_⟩
        · simp only [chunkV, chunkU, RIs, Bool.false_eq_true, if_false]
          exact ⟨_, _, rfl, by simpa using hc, i1⟩
        · intro u hu
          simp only [chunkU, Bool.false_eq_true, if_false, List.mem_cons, List.headD_cons] at hu
          rcases hu with rfl | hu
          · rw [cells_one hu0]; rfl
          · exact i2 u hu
        · intro i u j x hi hj
          cases i with
          | zero =>
            simp only [chunkU, Bool.false_eq_true, if_false, List.getElem?_cons_zero, Option.some.injEq, List.headD_cons] at hi
            subst hi
            rw [cells_one hu0] at hj
            cases j with
            | zero => simp at hj; subst hj; exact ⟨by simp, hu0⟩
            | succ j => simp at hj
          | succ i =>
            simp only [chunkU, List.getElem?_cons_succ] at hi
            obtain ⟨q1, q2⟩ := i3 i u j x hi hj
            rw [List.getElem?_drop] at q1
            exact ⟨by rw [Nat.add_mul, Nat.one_mul]; rw [← q1]; congr 1; omega, q2⟩
def owO (s id : Nat) : Ow → Ow := Ge.ren1 (.obj id) (.slot s [])
/-- An object that nobody else looks at is held alone. -/
theorem Rel.own (hR : Rel n S g a w) {s sz id off len cap : Nat} {ag : Bool} {cs : List AVal} (h : S.env s = .ref id off len cap) (hc : cap ≠ 0) (hcs : S.heap[id]? = some (.cells cs)) (h1 : ag = false → sz = 1) (hpos : 0 < sz)
    (hle : off + cap * sz ≤ cs.length) (hlc : len ≤ cap) (hst : ((cs.drop off).take (len * sz)).all (fun c => storC (rdc c)) = true) :
    ∃ g', Rel n (({ S with heap := S.heap.set id .dead } : AState).set s (.lst (.uniq sz cap) (chunkV ag sz (((cs.drop off).take (len * sz)).map rdc) len))) g' a w ∧ Evo g w g' w := by
  have hcap : 0 < cap * sz := Nat.mul_pos (Nat.pos_of_ne_zero hc) hpos
  have hls : len * sz ≤ cap * sz := Nat.mul_le_mul_right _ hlc
  obtain ⟨cur, e, fz, us, b1, b2, b3, b4, bz, b5, b6⟩ := hR.heap.obj id _ hcs (by rintro rfl; simp at hle; omega)
  have hl := b6.length
  have hri := RIs_rdc _ _ _ b6
  have hv := hR.env s
  rw [h] at hv
  simp only [RV, RV1, RVc, RI] at hv
  obtain ⟨A, ee, _, hA⟩ := hv
  obtain ⟨hid, rfl⟩ := hA hc
  have hpart : RIs g w (((cs.drop off).take (len * sz)).map rdc) ((us.drop off).take (len * sz)) := by
    have := (hri.drop off).take (len * sz)
    rwa [← List.map_drop, ← List.map_take] at this
  have hones : ∀ u ∈ ((us.drop off).take (len * sz)).take (len * sz), u.oneCell' = true := by
    intro u hu
    rw [List.take_take, Nat.min_self] at hu
    obtain ⟨m, hm⟩ := List.getElem?_of_mem hu
    have hl2 := hpart.length
    have hlt := (List.getElem?_eq_some_iff.1 hm).1
    obtain ⟨u', hu1, hu2⟩ := hpart.get m (((cs.drop off).take (len * sz)).map rdc)[m] (List.getElem?_eq_getElem (by omega))
    rw [hm] at hu1; cases hu1
    refine RI.one hu2 ?_
    rw [List.getElem_map]
    exact List.all_eq_true.1 hst _ (List.getElem_mem _)
  obtain ⟨k1, k2, k3⟩ := chunk_ok (ag := ag) h1 hpos len _ _ hpart (by simp; omega) hones
  have hcl := chunkU_length ag sz ((us.drop off).take (len * sz)) len
  have hkeep : ∀ q, q ≠ .obj id → Keep g w (g.ren (owO s id)) w q q := fun q hq => Keep.ren (ren1_other hq)
  have hevo : Evo g w (g.ren (owO s id)) w := Evo.ren (by simp [owO, Ge.ren1]) (by simp [owO, Ge.ren1])
  refine ⟨g.ren (owO s id), ⟨hR.size, hR.defers, fun t => ?_, fun q ds hq => RBox.mono Stb.ren rfl (hkeep _ (by simp)) (fun p => hkeep _ (by simp)) (hR.boxes q ds hq), ⟨hR.heap.nh.trans (by simp [AState.set]), fun id' ob hob => ?_, fun b hb => ?_⟩⟩, hevo⟩
  · simp only [AState.set]
    by_cases e1 : t = s
    · subst e1
      rw [if_pos rfl]
      simp only [RV, RV1, RVc]
      refine ⟨_, chunkU ag sz ((us.drop off).take (len * sz)) len, by rw [hcl]; exact ee, by rw [hcl]; exact hlc, RIs.mono Stb.ren _ _ k1, k2, .inr ⟨(g.io id).1, (g.io id).2 + off, cur, e, fz, rfl, by simp [Gh.ren, b3, owO, Ge.ren1], ?_, b1, by omega, b2, fun i u j x hi hj => ?_⟩⟩
      · show g.fr _ ≤ _; omega
      · obtain ⟨q1, q2⟩ := k3 i u j x hi hj
        have hlt : i * sz + j < len * sz := by
          have := (List.getElem?_eq_some_iff.1 q1).1
          simp at this; omega
        rw [List.getElem?_take_of_lt hlt, List.getElem?_drop] at q1
        refine ⟨?_, q2⟩
        have := b5 _ _ q1
        rw [← this]; congr 1; omega
    · rw [if_neg e1]
      exact RV.mono Stb.ren (fun p => hkeep _ (by simp)) _ _ (fun _ _ _ => rfl) (hR.env t)
  · simp only [AState.set] at hob
    by_cases e2 : id' = id
    · subst e2
      have hidlt : id' < S.heap.length := (List.getElem?_eq_some_iff.1 hcs).1
      simp only [List.getElem?_set, if_true, if_pos hidlt] at hob
      cases hob; trivial
    · rw [List.getElem?_set_ne (fun e => e2 e.symm)] at hob
      exact RObj.mono Stb.ren (by rw [hR.heap.nh]; exact (List.getElem?_eq_some_iff.1 hob).1) (hkeep _ (by simpa using e2)) (fun p => hkeep _ (by simp)) (hR.heap.obj id' ob hob)
  · simp [Gh.ren, hR.heap.valid b hb, owO, Ge.ren1]
/-- A slice without room is held alone. -/
theorem Rel.own0 (hR : Rel n S g a w) {s sz id off len : Nat} (h : S.env s = .ref id off len 0) : Rel n (S.set s (.lst (.uniq sz 0) [])) g a w := by
  have hv := hR.env s
  rw [h] at hv
  simp only [RV, RV1, RVc, RI] at hv
  obtain ⟨A, ee, h0, _⟩ := hv
  obtain rfl : len = 0 := by omega
  refine ⟨hR.size, hR.defers, fun t => ?_, hR.boxes, hR.heap⟩
  simp only [AState.set]
  by_cases e1 : t = s
  · subst e1
    rw [if_pos rfl]
    simp only [RV, RV1, RVc]
    exact ⟨A, [], ee, by simp, by simp [RIs], by simp, .inl trivial⟩
  · rw [if_neg e1]; exact hR.env t

theorem run_first0 {A : Option Addr} {sz c : Nat} {w' : World} : (Builtin.firstCells sz 0 (.slice A 0 c)).run P w' = .ok ([] : List Value).toArray w' := by
  cases A with
  | none => exact run_firstCells_none w' sz _ _ _
  | some ad => exact run_firstCells_some w' sz _ ad _ c [] (by simp) (by simp)
/-- What a slice yields that is copied or appended. -/
theorem srcH_ok (hR : Rel n S g a w) {v : AVal} {u : Value} {sz k : Nat} {ys : List AVal} {tx : TypeId} (h : RT g w v u) (hs : srcH sz S.heap v = some (k, ys)) (hw : srcW sz S.heap v) (hpos : 0 < sz) (hk : (sliceE P tx).isSome = true ∨ isStrT P tx = true) :
    ∃ us : List Value, RIs g w ys us ∧ (∀ y ∈ ys, flc y = true) ∧ Src P sz tx u k us w ∧ ∀ m, m ≤ k → (Builtin.firstCells sz m u).run P w = .ok (us.take (m * sz)).toArray w := by
  have hk' : (∃ e', P.underlying tx = some (.slice e')) ∨ P.underlying tx = some .string := by
    rcases hk with hk | hk
    · obtain ⟨e, he⟩ := isSome_iff' hk; exact .inl ⟨e, sliceE_ok he⟩
    · exact .inr (isStrT_ok hk)
  cases v <;> try (simp only [srcH] at hs; cases hs; done)
  case str s =>
    simp only [srcH, Option.some.injEq, Prod.mk.injEq] at hs
    obtain ⟨rfl, rfl⟩ := hs
    obtain ⟨us, q1, q2, q3, q4⟩ := src_ok h (ys := bytesV s) rfl (fun y hy => by
      obtain ⟨b, _, rfl⟩ := List.mem_map.1 hy
      simp only [srcW] at hw
      rw [hw]; rfl) hpos hk
    have hl := q1.length
    simp only [srcW] at hw
    subst hw
    have hu : u = .string s := by simpa [RT, RI] using h
    subst hu
    refine ⟨flat us, ?_, fun y hy => by obtain ⟨b, _, rfl⟩ := List.mem_map.1 hy; rfl, ?_, ?_⟩
    · have := q1.flat (sz := 1) (fun y hy => by obtain ⟨b, _, rfl⟩ := List.mem_map.1 hy; rfl) (by omega)
      have e1 : (bytesV s).flatMap AVal.cells = bytesV s := by
        simp only [bytesV]
        generalize s.data.toList = l
        induction l with
        | nil => rfl
        | cons b l ih => simp only [List.map_cons, List.flatMap_cons, ih]; rfl
      rw [e1] at this; exact this
    · have e2 : us.length = s.size := by rw [hl]; simp [bytesV]
      rw [← e2]; exact q4
    · intro m hm
      have h1 := q4.cells
      have e2 : us.length = s.size := by rw [hl]; simp [bytesV]
      rw [e2] at h1
      simp [Builtin.firstCells] at h1 ⊢
      have h2 : flat us = byteCells s := by
        have := congrArg Array.toList h1
        simp only [byteCells]
        have e3 : s.extract 0 s.size = s := by apply ByteArray.ext; simp
        simp [e3] at this
        exact this.symm
      rw [h2]
      apply Array.ext'
      simp [byteCells, List.map_take]
  case lst ow xs =>
    simp only [srcH, Option.some.injEq, Prod.mk.injEq] at hs
    obtain ⟨rfl, rfl⟩ := hs
    simp only [srcW] at hw
    obtain ⟨us, q1, q2, q3, q4⟩ := src_ok h (ys := xs) rfl hw hpos hk
    refine ⟨flat us, (q1.flat hw hpos).rdc, fun y hy => by obtain ⟨b, _, rfl⟩ := List.mem_map.1 hy; exact flc_rdc b, by rw [← q1.length]; exact q4, fun m hm => ?_⟩
    have hws := widths q1 hw hpos
    simp only [RT, RI] at h
    obtain ⟨A, c, us', rfl, hl, hus, hc, _⟩ := h
    have hel : us'.length = us.length := by rw [hus.length, q1.length]
    have hm' : m ≤ us.length := by rw [q1.length]; exact hm
    have hflen := flat_length hws
    have hmm : m * sz ≤ us.length * sz := Nat.mul_le_mul_right _ hm'
    have h1 := q4.cells
    rcases Nat.eq_zero_or_pos us.length with h0 | h0
    · have : m = 0 := by omega
      subst this
      rw [h0] at hflen
      have hfe : flat us = [] := List.eq_nil_of_length_eq_zero (by omega)
      rw [hfe]
      cases A with
      | none => simpa using run_firstCells_none w sz _ _ _
      | some ad => simpa using run_firstCells_some w sz 0 ad us'.length c [] (by simp) (by simp)
    · have hws' := widths hus hw hpos
      obtain ⟨b, off, rfl⟩ := hc.addr (by intro e; subst e; simp at hel; omega)
      have hcell : ∀ j v, (flat us')[j]? = some v → w.cell? ⟨b, off + j, none⟩ = some v := fun j v hj => (hc.cells hws' rfl hj).1
      have hrun' := run_firstCells_some (P := P) w sz us'.length ⟨b, off, none⟩ us'.length c (flat us') (flat_length hws') (fun j v hj => by rw [Addr.add_lit]; exact hcell j v hj)
      rw [hel] at hrun' h1
      rw [hrun'] at h1
      have hfe : flat us' = flat us := by
        simp only [Result.ok.injEq, and_true] at h1
        simpa using congrArg Array.toList h1
      refine run_firstCells_some w sz m _ _ c _ (by rw [List.length_take, hflen]; omega) (fun j v hj => ?_)
      have hlt := (List.getElem?_eq_some_iff.1 hj).1
      rw [List.length_take] at hlt
      rw [List.getElem?_take_of_lt (by omega)] at hj
      rw [Addr.add_lit]
      exact hcell j v (by rw [hfe]; exact hj)
  case ref id off len cap =>
    simp only [RT, RI] at h
    obtain ⟨A, rfl, hlc, hA⟩ := h
    have hw : ∀ p, srcH sz S.heap (.ref id off len cap) = some p → ∀ c ∈ p.2, storC c = true := by simpa only [srcW] using hw
    have hw := hw _ hs
    simp only [srcH] at hs
    by_cases h0 : len = 0
    · simp only [h0, if_true, Option.some.injEq, Prod.mk.injEq] at hs
      obtain ⟨rfl, rfl⟩ := hs
      subst h0
      exact ⟨[], by simp [RIs], by simp, ⟨hk', fun _ => rfl, run_first0, run_first0, by simp, by simp⟩, fun m hm => by
        obtain rfl : m = 0 := by omega
        simpa using run_first0⟩
    · simp only [if_neg h0] at hs
      split at hs
      case h_2 => cases hs
      rename_i cs hcs
      split at hs
      case isFalse => cases hs
      rename_i hle
      simp only [Option.some.injEq, Prod.mk.injEq] at hs
      obtain ⟨rfl, rfl⟩ := hs
      obtain ⟨us, hul, hus, hcell⟩ := obj_part (hR.heap.obj id _ hcs) hle
      obtain ⟨hid, rfl⟩ := hA (by omega)
      have hones : ∀ u ∈ us, u.oneCell' = true := by
        intro u hu
        obtain ⟨m, hm⟩ := List.getElem?_of_mem hu
        have hl2 := hus.length
        have hlt := (List.getElem?_eq_some_iff.1 hm).1
        obtain ⟨u', hu1, hu2⟩ := hus.get m _ (List.getElem?_eq_getElem (by omega))
        rw [hm] at hu1; cases hu1
        exact RI.one hu2 (hw _ (List.getElem_mem _))
      refine ⟨us, hus, fun y hy => by obtain ⟨b, _, rfl⟩ := List.mem_map.1 hy; exact flc_rdc b, ⟨hk', fun _ => rfl, ?_, ?_, hul, hones⟩, fun m hm => ?_⟩
      · exact run_firstCells_some w sz _ _ _ cap us hul (fun j u hj => by rw [Addr.add_lit]; exact hcell j u hj)
      · exact run_firstCells_some w.drew sz _ _ _ cap us hul (fun j u hj => by rw [Addr.add_lit]; simpa using hcell j u hj)
      · have hmm : m * sz ≤ len * sz := Nat.mul_le_mul_right _ hm
        refine run_firstCells_some w sz m _ _ cap _ (by rw [List.length_take, hul]; omega) (fun j v hj => ?_)
        have hlt := (List.getElem?_eq_some_iff.1 hj).1
        rw [List.length_take] at hlt
        rw [List.getElem?_take_of_lt (by omega)] at hj
        rw [Addr.add_lit]; exact hcell j v hj

/-- The cells that are carried over where an append grows. -/
theorem old_ok (hR : Rel n S g a w) {sz id off len cap m : Nat} {old : List AVal} {A : Option Addr} (hA : cap ≠ 0 → id < g.nh ∧ A = some ⟨(g.io id).1, (g.io id).2 + off, none⟩) (hlc : len ≤ cap)
    (hs : srcH sz S.heap (.ref id off len cap) = some (m, old)) : ∃ us : List Value, RIs g w old us ∧ (∀ y ∈ old, flc y = true) ∧ us.length = len * sz ∧ (Builtin.firstCells sz len (.slice A len cap)).run P w.drew = .ok us.toArray w.drew := by
  simp only [srcH] at hs
  by_cases h0 : len = 0
  · simp only [h0, if_true, Option.some.injEq, Prod.mk.injEq] at hs
    obtain ⟨rfl, rfl⟩ := hs
    subst h0
    exact ⟨[], by simp [RIs], by simp, by simp, run_first0⟩
  · simp only [if_neg h0] at hs
    split at hs
    case h_2 => cases hs
    rename_i cs hcs
    split at hs
    case isFalse => cases hs
    rename_i hle
    simp only [Option.some.injEq, Prod.mk.injEq] at hs
    obtain ⟨rfl, rfl⟩ := hs
    obtain ⟨us, hul, hus, hcell⟩ := obj_part (hR.heap.obj id _ hcs) hle
    obtain ⟨hid, rfl⟩ := hA (by omega)
    exact ⟨us, hus, fun y hy => by obtain ⟨b, _, rfl⟩ := List.mem_map.1 hy; exact flc_rdc b, hul, run_firstCells_some w.drew sz _ _ _ cap us hul (fun j u hj => by rw [Addr.add_lit]; simpa using hcell j u hj)⟩
/-- A result that is put, the heap changed. -/
theorem go_put (hR : Rel n S g a w) {h' : List HObj} {g' : Gh} {w' : World} (hR' : Rel n { S with heap := h' } g' a w') (hE : Evo g w g' w') (hd : ∀ k, o.dst = some k → k < n) {x : AVal} {v : Value} (hx : ∀ k, o.dst = some k → RV g' w' (.slot k) x v)
    (hrun : (execOp a.eval o).run P w = .ok (.value v) w') {K : AState → Prop} (hk : K (({ S with heap := h' } : AState).put o.dst x)) (hn : Goes n g w K next) : o.wp P a w next Q := by
  refine wp_value hrun ?_
  exact hn _ g' _ _ hk (hR'.put hd hx) hE
theorem eff_grow (hR : Rel n S g a w) {c : Call} {x y : Operand} {ts tx e : TypeId} {it : TypeInfo} {z : Value} {sz bytes : Nat} (ho : o.op = .call c) (hcal : c.callee = .builtin .append) (hargs : c.args = #[x, y]) (hts : c.argTypes = #[ts, tx])
    (ht : P.underlying ts = some (.slice e)) (hit : P.info? e = some it) (hz : it.zero = some z) (hsz : it.size = sz) (hpos : 0 < sz) (hby : it.bytes = bytes) (hzs : z.cells.size = sz) (hd : ∀ k, o.dst = some k → k < n)
    {A : Option Addr} {len cap k : Nat} {old ys : List AVal} {olds news : List Value} (hx : a.eval x = .slice A len cap) (h1 : RIs g w old olds) (h2 : ∀ c ∈ old, flc c = true) (h3 : olds.length = len * sz)
    (h4 : (Builtin.firstCells sz len (.slice A len cap)).run P w.drew = .ok olds.toArray w.drew) (h5 : RIs g w ys news) (h6 : ∀ c ∈ ys, flc c = true) (hsrc : Src P sz tx (a.eval y) k news w)
    (hlt : cap < len + k) (hb : (len + k) * bytes ≤ 140737488355328) (hm : len + k ≤ 140737488355328) {K : AState → Prop} (hk : growV S.heap sz old ys (len + k) (fun v h => noBox v = true → K (({ S with heap := h } : AState).put o.dst v))) (hn : Goes n g w K next) : o.wp P a w next Q := by
  subst hsz
  have hr := run_append_grow_src (P := P) w ts tx o.type e it z ht hit hz A len cap olds h4 (a.eval y) k news hsrc hlt (by omega) (growslice_fits hlt (by rw [hby]; exact hb))
  have hge := grownCap_ge w (len + k) cap e
  generalize hG : grownCap w (len + k) cap e = G at hge hr
  have hzc : (Builtin.zeroCells z.cells (G - (len + k))).size = (G - (len + k)) * it.size := by simp [Builtin.zeroCells, hzs]
  have hnl := hsrc.newsLen
  obtain ⟨g', hR', hE, hnh, hio⟩ := hR.newObj (w' := w.drew.alloc (.cells ((olds ++ news).toArray ++ Builtin.zeroCells z.cells (G - (len + k))) e)) ⟨rfl, rfl, rfl, by simp, fun b hb => heap_alloc w.drew _ b (by show b ≠ w.heap.size; omega)⟩ (by simp) (heap_alloc_self w.drew _) (.inl rfl)
    (cs := old ++ ys ++ List.replicate ((G - (len + k)) * it.size) .junk) (us := olds ++ news ++ (Builtin.zeroCells z.cells (G - (len + k))).toList)
    ((h1.append h5).append (by
      have := RIs.junks (g := g) (w := w) (Builtin.zeroCells z.cells (G - (len + k))).toList
      rwa [Array.length_toList, hzc] at this))
    (fun c hc => by
      rcases List.mem_append.1 hc with hc | hc
      · rcases List.mem_append.1 hc with hc | hc
        · exact h2 c hc
        · exact h6 c hc
      · rw [(List.mem_replicate.1 hc).2]; rfl) (by simp; omega) (fun j u hj => by
        have e1 : (olds ++ news).toArray ++ Builtin.zeroCells z.cells (G - (len + k)) = (olds ++ news ++ (Builtin.zeroCells z.cells (G - (len + k))).toList).toArray := by apply Array.ext'; simp
        rw [e1]; simpa using hj)
  have hrun : (execOp a.eval o).run P w = .ok (.value (.slice (some ⟨w.heap.size, 0, none⟩) (len + k) G)) (w.drew.alloc (.cells ((olds ++ news).toArray ++ Builtin.zeroCells z.cells (G - (len + k))) e)) := by
    simp [execOp, ho, resolve, hcal, hargs, invoke, builtin, hts, hx, hr]
  refine go_put hR hR' hE hd (fun k' _ => ?_) hrun (hk G hge rfl) hn
  simp only [RV, RV1, RVc, RI]
  exact ⟨_, rfl, hge, fun _ => ⟨by omega, by rw [hio]⟩⟩
theorem eff_appendR (hR : Rel n S g a w) {c : Call} {x y : Operand} {x' y' : AOpn} {ts tx e : TypeId} {it : TypeInfo} {z : Value} {sz bytes : Nat} (ho : o.op = .call c) (hcal : c.callee = .builtin .append) (hargs : c.args = #[x, y]) (hts : c.argTypes = #[ts, tx])
    (hx : opn x x' = true) (hy : opn y y' = true) (ht : P.underlying ts = some (.slice e)) (hk : (sliceE P tx).isSome = true ∨ isStrT P tx = true) (hit : P.info? e = some it) (hz : it.zero = some z) (hsz : it.size = sz) (hpos : 0 < sz) (hby : it.bytes = bytes) (hzs : z.cells.size = sz)
    (hd : ∀ k, o.dst = some k → k < n) {K : AState → Prop}
    (h : hstep (ACalls P) S.rd S.heap (.appendR sz bytes x' y') (fun v h => noBox v = true → K (({ S with heap := h } : AState).put o.dst v))) (hn : Goes n g w K next) : o.wp P a w next Q := by
  simp only [hstep] at h
  split at h
  case h_2 => exact h.elim
  rename_i k ys hsr
  obtain ⟨hsw, h⟩ := h
  obtain ⟨news, hnews, hfl, hsrc, _⟩ := srcH_ok hR (RT.of_opn hR hy) hsr hsw hpos hk
  have hxv := RT.of_opn hR hx
  split at h
  · rename_i xs hrd
    rw [hrd] at hxv
    simp only [RT, RI] at hxv
    obtain ⟨A, c', us, ee, _, hus, _, rfl, rfl⟩ := hxv
    have hul : us.length = 0 := by
      rename_i hle _; omega
    obtain ⟨h1, h2, h3, h4⟩ := h
    rw [hul] at ee
    by_cases h0 : k = 0
    · have hr := run_append_empty (P := P) (ty := o.type) (sLen := 0) (sCap := 0) (base := none) ht hit (hsz ▸ hsrc) h0 (by omega)
      refine go_put hR (h' := S.heap) (x := .ref 0 0 0 0) (v := .slice none 0 0) hR (.refl g w) hd (fun _ _ => ?_) ?_ (h3 h0 rfl) hn
      · simp only [RV, RV1, RVc, RI]; exact ⟨none, rfl, by omega, by simp⟩
      · simp [execOp, ho, resolve, hcal, hargs, invoke, builtin, hts, ee, hr]
    · exact eff_grow hR ho hcal hargs hts ht hit hz hsz hpos hby hzs hd (len := 0) (cap := 0) (A := none) (old := []) (olds := []) ee (by simp [RIs]) (by simp) (by simp) run_first0 hnews hfl hsrc (by omega) (by simpa using h1) (by simpa using h2) (by simpa using h4 h0) hn
  · rename_i id off len cap hrd
    rw [hrd] at hxv
    simp only [RT, RI] at hxv
    obtain ⟨A, ee, hlc, hA⟩ := hxv
    obtain ⟨h1, h2, h3, h4, h5⟩ := h
    by_cases h0 : k = 0
    · have hr := run_append_empty (P := P) (ty := o.type) (sLen := len) (sCap := cap) (base := A) ht hit (hsz ▸ hsrc) h0 hlc
      refine go_put hR (h' := S.heap) (x := .ref id off len cap) (v := .slice A len cap) hR (.refl g w) hd (fun _ _ => ?_) ?_ (h3 h0 rfl) hn
      · simp only [RV, RV1, RVc, RI]; exact ⟨A, rfl, hlc, hA⟩
      · simp [execOp, ho, resolve, hcal, hargs, invoke, builtin, hts, ee, hr]
    · by_cases hroom : len + k ≤ cap
      · have h4 := h4 h0 hroom
        split at h4
        case h_2 => exact h4.elim
        rename_i cs hcs
        obtain ⟨h6, h7⟩ := h4
        obtain ⟨hid, rfl⟩ := hA (by omega)
        subst hsz
        have hnl := hsrc.newsLen
        have hyl := hnews.length
        have hle : off + len * it.size + ys.length ≤ cs.length := by
          have : (len + k) * it.size ≤ cap * it.size := Nat.mul_le_mul_right _ hroom
          rw [Nat.add_mul] at this; omega
        obtain ⟨q1, q2, q3, q4⟩ := hR.writeObj (off := off + len * it.size) hcs (RVs.of_RIs _ _ _ hfl hnews) hle
        have e1 : (g.io id).2 + (off + len * it.size) = (g.io id).2 + off + len * it.size := by omega
        rw [e1] at q1 q2
        have hr := run_append_room_src (P := P) w ts tx o.type e it ht hit (g.io id).1 ((g.io id).2 + off) len cap (a.eval y) k news hsrc hroom
          (fun j hj => by have := q3 j hj; rwa [e1] at this) (fun j hj => by have := q4 j hj; rwa [e1] at this)
        refine go_put hR q1 q2 hd (fun _ _ => ?_) (x := .ref id off (len + k) cap) (v := .slice (some ⟨(g.io id).1, (g.io id).2 + off, none⟩) (len + k) cap) ?_ (h7 rfl) hn
        · simp only [RV, RV1, RVc, RI]; exact ⟨_, rfl, hroom, fun _ => ⟨hid, rfl⟩⟩
        · simp [execOp, ho, resolve, hcal, hargs, invoke, builtin, hts, ee, hr]
      · have h5 := h5 h0 (by omega)
        split at h5
        case h_2 => exact h5.elim
        rename_i m old hold
        obtain ⟨olds, o1, o2, o3, o4⟩ := old_ok hR hA hlc hold
        exact eff_grow hR ho hcal hargs hts ht hit hz hsz hpos hby hzs hd ee o1 o2 o3 o4 hnews hfl hsrc (by omega) h1 h2 h5 hn
  · exact h.elim

theorem zeroCells_flat {z : Value} {sz : Nat} (hz : z.cells.size = sz) (hpos : 0 < sz) (k : Nat) : (Builtin.zeroCells z.cells k).toList = flat (List.replicate k z) := by
  have hw : ∀ u ∈ List.replicate k z, u.cells.size = sz := fun u hu => by rw [(List.mem_replicate.1 hu).2]; exact hz
  have hfl := flat_length hw
  simp only [List.length_replicate] at hfl
  apply List.ext_getElem?
  intro i
  have hs : (Builtin.zeroCells z.cells k).toList.length = k * sz := by simp [Builtin.zeroCells, hz]
  rcases Nat.lt_or_ge i (k * sz) with h | h
  · obtain ⟨x, hx⟩ : ∃ x, (flat (List.replicate k z))[i]? = some x := ⟨_, List.getElem?_eq_getElem (by omega)⟩
    obtain ⟨i', j, u, z1, z2, rfl⟩ := flat_at hw hx
    obtain ⟨_, rfl⟩ := List.getElem?_eq_some_iff.1 z1
    simp only [List.getElem_replicate] at z2
    have hj : j < sz := by rw [← hz]; exact (Array.getElem?_eq_some_iff.1 z2).1
    have h3 : (i' * sz + j) % sz = j := by rw [Nat.mul_comm, Nat.mul_add_mod, Nat.mod_eq_of_lt hj]
    rw [hx]
    simp only [Builtin.zeroCells, Array.getElem?_toList, Array.getElem?_map, hz]
    rw [Array.getElem?_range, if_pos h]
    simp only [Option.map_some, h3, ← z2]
    rw [getElem!_pos z.cells j (by omega), Array.getElem?_eq_getElem (by omega)]
  · rw [List.getElem?_eq_none (by omega), List.getElem?_eq_none (by omega)]
theorem repC_ok {zero : AVal} {z : Value} {sz : Nat} (hzero : RI g w zero z) (hw : zero.width = sz) (hpos : 0 < sz) (k : Nat) : RIs g w (repC k zero.cells) (flat (List.replicate k z)) ∧ (repC k zero.cells).length = k * sz := by
  have e : repC k zero.cells = (List.replicate k zero).flatMap AVal.cells := by
    have : (List.replicate k zero).flatMap AVal.cells = (List.replicate k zero.cells).flatten := by rw [List.flatMap_def, List.map_replicate]
    rw [this]
    unfold repC
    split
    · rename_i c hc
      have key : ∀ k (l : List AVal), l = [c] → List.replicate k c = (List.replicate k l).flatten := by
        intro k l hl
        subst hl
        induction k with
        | zero => rfl
        | succ k ih => rw [List.replicate_succ, List.replicate_succ, List.flatten_cons, ← ih]; rfl
      exact key k _ hc
    · rfl
  have hr := (RIs.replicate hzero k).flat (sz := sz) (fun x hx => by rw [(List.mem_replicate.1 hx).2]; exact hw) hpos
  rw [e]
  refine ⟨hr, ?_⟩
  have h1 := RIs.length hr
  have hwz : z.cells.size = sz := by rw [hzero.width (by omega), hw]
  have h2 := flat_length (sz := sz) (us := List.replicate k z) (fun u hu => by rw [(List.mem_replicate.1 hu).2]; exact hwz)
  simp only [List.length_replicate] at h2
  rw [← h1]; exact h2
/-- A constant reads as itself. -/
theorem cv_RI {zero : AVal} {z : Value} (hzero : cv z zero = true) (hst : storable zero = true) (hfl : flv zero = true) : RI g w zero z := by
  have := RT_rdv (RV.of_cv (g := g) (w := w) (own := fun _ => .no) hzero)
  have e : rdv zero = zero := by
    cases zero <;> first | rfl | skip
    · rename_i cs
      simp only [rdv, rd1]
      congr 1
      simp only [flv, fl1, List.all_eq_true] at hfl
      simp only [storable, List.all_eq_true] at hst
      have : ∀ x ∈ cs, rdc x = x := by
        intro x hx
        have f1 := hfl x hx
        have f2 := hst x hx
        cases x <;> first | rfl | (simp [storC] at f2; done) | (rename_i o xs; cases o <;> first | rfl | simp [flc] at f1)
      rw [List.map_congr_left this, List.map_id']
    · simp [storable, storC] at hst
    · rename_i o xs
      cases o <;> first | rfl | simp [flv, fl1, flc] at hfl
  rw [e] at this
  exact RI.of_RT (by cases zero <;> first | rfl | simp [storable, storC] at hst) this
theorem repC_mem {k : Nat} {cs : List AVal} {c : AVal} (h : c ∈ repC k cs) : c ∈ cs := by
  unfold repC at h
  split at h
  · rw [(List.mem_replicate.1 h).2]; simp
  · obtain ⟨l, h1, h2⟩ := List.mem_flatten.1 h
    rw [(List.mem_replicate.1 h1).2] at h2; exact h2
theorem eff_clearR (hR : Rel n S g a w) {c : Call} {x : Operand} {x' : AOpn} {ts e : TypeId} {it : TypeInfo} {z : Value} {sz : Nat} {zero : AVal} (ho : o.op = .call c) (hcal : c.callee = .builtin .clear) (hargs : c.args = #[x]) (hts : c.argTypes = #[ts])
    (hx : opn x x' = true) (ht : P.underlying ts = some (.slice e)) (hit : P.info? e = some it) (hz : it.zero = some z) (hpos : 0 < sz) (hzs : z.cells.size = sz) (hzero : cv z zero = true) (hst : storable zero = true) (hfl : flv zero = true) (hw : zero.width = sz)
    (hd : ∀ k, o.dst = some k → k < n) {K : AState → Prop}
    (h : hstep (ACalls P) S.rd S.heap (.clearR sz zero x') (fun v h => noBox v = true → K (({ S with heap := h } : AState).put o.dst v))) (hn : Goes n g w K next) : o.wp P a w next Q := by
  simp only [hstep] at h
  have hxv := RT.of_opn hR hx
  have none0 : ∀ A cap, a.eval x = .slice A 0 cap → (execOp a.eval o).run P w = .ok (.value (.tuple #[])) w := by
    intro A cap ee
    cases A <;> simp [execOp, ho, resolve, hcal, hargs, invoke, builtin, hts, ee, Builtin.clear_, run_underlying ht]
  have hflc : ∀ c ∈ zero.cells, flc c = true := fl_cells hfl (by omega)
  split at h
  · rename_i ow xs hrd
    rw [hrd] at hxv
    simp only [RT, RI] at hxv
    obtain ⟨A, c', us, ee, _, hus, _⟩ := hxv
    obtain ⟨rfl, h1⟩ := h
    have hul : us.length = 0 := by have := hus.length; simpa using this
    rw [hul] at ee
    exact go_put hR (h' := S.heap) (x := .tup []) hR (.refl g w) hd (fun _ _ => by simp [RV, RVt]) (none0 _ _ ee) (h1 rfl) hn
  · rename_i id off len cap hrd
    rw [hrd] at hxv
    simp only [RT, RI] at hxv
    obtain ⟨A, ee, hlc, hA⟩ := hxv
    obtain ⟨h1, h2⟩ := h
    by_cases h0 : len = 0
    · subst h0
      exact go_put hR (h' := S.heap) (x := .tup []) hR (.refl g w) hd (fun _ _ => by simp [RV, RVt]) (none0 _ _ ee) (h1 rfl rfl) hn
    · have h2 := h2 h0
      split at h2
      case h_2 => exact h2.elim
      rename_i cs hcs
      obtain ⟨h3, h4⟩ := h2
      obtain ⟨hid, rfl⟩ := hA (by omega)
      have hzri := cv_RI (g := g) (w := w) hzero hst hfl
      obtain ⟨r1, r2⟩ := repC_ok hzri hw hpos len
      obtain ⟨q1, q2, q3, q4⟩ := hR.writeObj (off := off) hcs (RVs.of_RIs _ _ _ (fun c hc => hflc c (repC_mem hc)) r1) (by rw [r2]; exact h3)
      have hone : ∀ v ∈ flat (List.replicate len z), v.oneCell' = true := by
        intro v hv
        obtain ⟨u, hu1, hu2⟩ := List.mem_flatMap.1 hv
        rw [(List.mem_replicate.1 hu1).2] at hu2
        exact hzri.ones hst v hu2
      have hsto := run_storeCells_cells (P := P) (g.io id).1 ((g.io id).2 + off) (flat (List.replicate len z)) 0 w (by simpa using q3) (by simpa using q4) hone
      simp only [Nat.add_zero] at hsto
      refine go_put hR q1 q2 hd (x := .tup []) (v := .tuple #[]) (fun _ _ => by simp [RV, RVt]) ?_ (h4 rfl) hn
      obtain ⟨m, rfl⟩ : ∃ m, len = m + 1 := ⟨len - 1, by omega⟩
      simp [execOp, ho, resolve, hcal, hargs, invoke, builtin, hts, ee, Builtin.clear_, run_underlying ht, zeroValue, typeInfo, hit, hz, zeroCells_flat hzs hpos, hsto]
  · exact h.elim
theorem eff_copyR (hR : Rel n S g a w) {c : Call} {x y : Operand} {x' y' : AOpn} {ts tx e : TypeId} {it : TypeInfo} {sz : Nat} (ho : o.op = .call c) (hcal : c.callee = .builtin .copy) (hargs : c.args = #[x, y]) (hts : c.argTypes = #[ts, tx])
    (hx : opn x x' = true) (hy : opn y y' = true) (ht : P.underlying ts = some (.slice e)) (hk : (sliceE P tx).isSome = true ∨ isStrT P tx = true) (hit : P.info? e = some it) (hsz : it.size = sz) (hpos : 0 < sz)
    (hd : ∀ k, o.dst = some k → k < n) {K : AState → Prop}
    (h : hstep (ACalls P) S.rd S.heap (.copyR sz x' y') (fun v h => noBox v = true → K (({ S with heap := h } : AState).put o.dst v))) (hn : Goes n g w K next) : o.wp P a w next Q := by
  simp only [hstep] at h
  split at h
  case h_2 => exact h.elim
  rename_i k ys hsr
  obtain ⟨hsw, h⟩ := h
  obtain ⟨news, hnews, hfl, hsrc, hfirst⟩ := srcH_ok hR (RT.of_opn hR hy) hsr hsw hpos hk
  have hlen := hsrc.len
  have hxv := RT.of_opn hR hx
  have hnl := hsrc.newsLen
  have hyl := hnews.length
  have hsof : (sizeOf e).run P w = .ok sz w := by simp [sizeOf, typeInfo, hit, hsz]
  split at h
  · rename_i ow xs hrd
    rw [hrd] at hxv
    simp only [RT, RI] at hxv
    obtain ⟨A, c', us, ee, _, hus, _⟩ := hxv
    obtain ⟨h0, h1⟩ := h
    have hul := hus.length
    have hmin : min k us.length = 0 := by
      rcases h0 with rfl | rfl
      · simp at hul; simp [hul]
      · simp
    have hf0 := hfirst 0 (by omega)
    refine go_put hR (h' := S.heap) (x := .int .i64 0) hR (.refl g w) hd (fun _ _ => by simp [RV, RV1, RVc, RI]; rfl) ?_ (h1 rfl) hn
    cases A <;> simp [execOp, ho, resolve, hcal, hargs, invoke, builtin, hts, ee, Builtin.copy_, run_underlying ht, hlen, hsof, hmin, hf0, storeCells, goInt]
  · rename_i id off len cap hrd
    rw [hrd] at hxv
    simp only [RT, RI] at hxv
    obtain ⟨A, ee, hlc, hA⟩ := hxv
    obtain ⟨h1, h2⟩ := h
    by_cases h0 : len = 0 ∨ k = 0
    · have hmin : min k len = 0 := by omega
      have hf0 := hfirst 0 (by omega)
      refine go_put hR (h' := S.heap) (x := .int .i64 0) hR (.refl g w) hd (fun _ _ => by simp [RV, RV1, RVc, RI]; rfl) ?_ (h1 h0 rfl) hn
      cases A <;> simp [execOp, ho, resolve, hcal, hargs, invoke, builtin, hts, ee, Builtin.copy_, run_underlying ht, hlen, hsof, hmin, hf0, storeCells, goInt]
    · have h2 := h2 (by omega) (by omega)
      split at h2
      case h_2 => exact h2.elim
      rename_i cs hcs
      obtain ⟨h3, h4⟩ := h2
      obtain ⟨hid, rfl⟩ := hA (by omega)
      have hmk : min k len * sz ≤ k * sz := Nat.mul_le_mul_right _ (Nat.min_le_left _ _)
      have htl : (ys.take (min k len * sz)).length = min k len * sz := by rw [List.length_take]; omega
      obtain ⟨q1, q2, q3, q4⟩ := hR.writeObj (off := off) hcs (RVs.of_RIs _ _ _ (fun c hc => hfl c (List.mem_of_mem_take hc)) (hnews.take (min k len * sz))) (by rw [htl]; exact h3)
      have hsto := run_storeCells_cells (P := P) (g.io id).1 ((g.io id).2 + off) (news.take (min k len * sz)) 0 w (by simpa using q3) (by simpa using q4) (fun v hv => hsrc.one v (List.mem_of_mem_take hv))
      simp only [Nat.add_zero] at hsto
      have hf := hfirst (min k len) (Nat.min_le_left _ _)
      refine go_put hR q1 q2 hd (x := .int .i64 (min k len : Nat)) (v := goInt (min k len : Nat)) (fun _ _ => by simp [RV, RV1, RVc, RI, goInt]) ?_ (h4 rfl) hn
      simp [execOp, ho, resolve, hcal, hargs, invoke, builtin, hts, ee, Builtin.copy_, run_underlying ht, hlen, hsof, hf, hsto]
  · exact h.elim
end
end Go.Ge
