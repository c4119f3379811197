/- Boxes that go to the heap; functions as values; calls. -/
import Derived.Test.YtpdajkbfemcdlaaGeEff6
import Derived.Shelf.Abstract
set_option linter.unusedSimpArgs false
set_option linter.unusedVariables false
namespace Go.Ge
open Go.Proofs (Enters enters_of)
section
variable {P : Program} {n : Nat} {S : AState} {g : Gh} {a : Act} {w : World} {o : Oper} {next : Act → World → Prop} {Q : Exit → Act → World → Prop}

/-! ### A box goes to the heap -/
def proO (s id : Nat) : Ow → Ow
  | .box q => if q = s then .obj id else .box q
  | .boxc q p => if q = s then .objc id p else .boxc q p
  | o => o
def Gh.prom (g : Gh) (s : Nat) : Gh := { fr := g.fr, ow := fun b => proO s g.nh (g.ow b), io := fun id => if id = g.nh then (g.ib s, 0) else g.io id, ib := g.ib, nh := g.nh + 1 }
theorem Stb.prom {s : Nat} : Stb g w (g.prom s) w := ⟨fun _ _ _ h => h, Nat.le_succ _, fun id h => by simp [Gh.prom, Nat.ne_of_lt h]⟩
theorem Keep.prom {s : Nat} {q q' : Ow} (h : proO s g.nh q = q') : Keep g w (g.prom s) w q q' := fun b hb => ⟨by simp [Gh.prom, hb, h], rfl, rfl⟩
theorem Evo.prom {s : Nat} : Evo g w (g.prom s) w :=
  ⟨rfl, rfl, rfl, Nat.le_refl _, fun b _ h => ⟨rfl, rfl, by rcases h with h | h <;> simp [Gh.prom, h, proO]⟩, fun _ _ => ⟨Nat.le_refl _, fun _ _ => rfl⟩, Nat.le_succ _, Stb.prom.io (w := w)⟩
theorem Rel.promote (hR : Rel n S g a w) (s : Nat) : ∃ g', Rel n (S.promote s) g' a w ∧ Evo g w g' w := by
  unfold AState.promote
  split
  · rename_i cs hs
    refine ⟨g.prom s, ⟨hR.size, hR.defers, fun t => ?_, fun q ds hq => ?_, ⟨?_, fun id ob hob => ?_, fun b hb => by simp [Gh.prom, hR.heap.valid b hb, proO]⟩⟩, Evo.prom⟩
    · have h := hR.env t
      simp only
      split
      · rename_i s' off hv
        rw [hv] at h
        simp only [RV] at h
        by_cases e : s' = s
        · rw [if_pos e]; subst e
          simp only [RV, RV1, RVc, RI]
          rw [← hR.heap.nh]
          exact ⟨by simp [Gh.prom], by rw [h]; simp [Gh.prom]⟩
        · rw [if_neg e]; simpa [RV, Gh.prom] using h
      · rename_i v hv hne
        exact RV.mono Stb.prom (fun p => Keep.prom rfl) _ _ (fun _ _ _ => rfl) h
    · simp only at hq
      by_cases e : q = s
      · rw [if_pos e] at hq; cases hq
      · rw [if_neg e] at hq
        exact RBox.mono Stb.prom rfl (Keep.prom (by simp [proO, e])) (fun p => Keep.prom (by simp [proO, e])) (hR.boxes q ds hq)
    · simp [Gh.prom, hR.heap.nh]
    · rcases Nat.lt_or_ge id S.heap.length with hlt | hge
      · rw [List.getElem?_append_left hlt] at hob
        exact RObj.mono Stb.prom (by rw [hR.heap.nh]; exact hlt) (Keep.prom rfl) (fun p => Keep.prom rfl) (hR.heap.obj id ob hob)
      · rw [List.getElem?_append_right hge] at hob
        have hid : id = S.heap.length := by
          have := (List.getElem?_eq_some_iff.1 hob).1
          simp at this; omega
        subst hid
        simp at hob; subst hob
        obtain ⟨us, e, fz, h1, h2, h3, h4, h5⟩ := hR.boxes s cs hs
        simp only [RObj]
        have hio : (g.prom s).io S.heap.length = (g.ib s, 0) := by simp [Gh.prom, hR.heap.nh]
        rw [hio]
        refine fun _ => ⟨us, e, fz, us.toList, h1, h2, by simp [Gh.prom, h3, proO, hR.heap.nh], by simp [Gh.prom, h4], by simp, fun j u hj => by simpa using hj, ?_⟩
        exact RVs.mono Stb.prom _ _ _ (fun j => Keep.prom (by simp [proO, hR.heap.nh])) h5
  · exact ⟨g, hR, .refl g w⟩
theorem Rel.promAll : ∀ (args : List AOpn) {S : AState} {g : Gh}, Rel n S g a w → ∃ g', Rel n (S.promAll args) g' a w ∧ Evo g w g' w
  | [], S, g, hR => ⟨g, hR, .refl g w⟩
  | .c _ :: rest, S, g, hR => by simpa [AState.promAll] using Rel.promAll rest hR
  | .t m :: rest, S, g, hR => by
    simp only [AState.promAll]
    split
    · rename_i s off hv
      obtain ⟨g1, r1, r2⟩ := hR.promote s
      obtain ⟨g2, r3, r4⟩ := Rel.promAll rest r1
      exact ⟨g2, r3, r2.trans r4⟩
    · exact Rel.promAll rest hR

/-! ### Arguments -/
theorem RIs.of_opns (hR : Rel n S g a w) : ∀ {xs : List Operand} {ys : List AOpn}, opns xs ys = true → (∀ y ∈ ys, noBox (S.rd y) = true) → RIs g w (ys.map S.rd) (xs.map a.eval)
  | [], [], _, _ => by simp [RIs]
  | x :: xs, y :: ys, h, hb => by
    simp only [opns, Bool.and_eq_true] at h
    simp only [List.map, RIs]
    exact ⟨_, _, rfl, RI.of_RT (hb y (by simp)) (RT.of_opn hR h.1), RIs.of_opns hR h.2 fun z hz => hb z (by simp [hz])⟩
  | [], _ :: _, h, _ => by simp [opns] at h
  | _ :: _, [], h, _ => by simp [opns] at h

theorem eff_mkf (hR : Rel n S g a w) {f : FuncId} {xs : Array Operand} {ys : List AOpn} (ho : o.op = .makeFunc (.func f) #[] xs) (hx : opns xs.toList ys = true) (hd : ∀ k, o.dst = some k → k < n) {K : AState → Prop}
    (h : (∀ x ∈ ys, storable ((S.promAll ys).rd x) = true ∧ ((S.promAll ys).rd x).width = 1) ∧ K ((S.promAll ys).put o.dst (.func f (ys.map (S.promAll ys).rd)))) (hn : Goes n g w K next) : o.wp P a w next Q := by
  obtain ⟨g1, hR1, evo⟩ := hR.promAll ys
  obtain ⟨h1, h2⟩ := h
  have hri := RIs.of_opns hR1 hx (fun y hy => by
    have := (h1 y hy).1
    cases hq : (S.promAll ys).rd y <;> first | rfl | (rw [hq] at this; simp [storable, storC] at this))
  have hrun : (execOp a.eval o).run P w = .ok (.value (.func (.func f) #[] (xs.map a.eval))) w := by simp [execOp, ho, Instr.makeFunc]
  refine wp_value hrun ?_
  refine hn _ g1 _ _ h2 (hR1.put hd fun k _ => ?_) evo
  simp only [RV, RV1, RVc, RI]
  exact ⟨_, rfl, by simpa using hri⟩

/-! ### Calls -/
/-- What a function does, told of abstract values: it comes back with a result that Q lets in. -/
def ACalls (P : Program) (f : FuncId) (vs : List AVal) (h : List HObj) (Q : AVal → List HObj → Prop) : Prop :=
  Enters P f ∧ ∀ (g : Gh) (w : World) (us : Array Value), RIs g w vs us.toList → (∀ v ∈ vs, flv v = true) → RHeap g w h → Calls P f us w fun e w' =>
    ∃ v, e = .returned v ∧ ∃ r h' g', Q r h' ∧ noBox r = true ∧ RV g' w' .ret r v ∧ RHeap g' w' h' ∧ Evo g w g' w'
theorem ACalls.mono {f : FuncId} {vs : List AVal} {h : List HObj} {R R' : AVal → List HObj → Prop} (hc : ACalls P f vs h R) (hm : ∀ r h', R r h' → R' r h') : ACalls P f vs h R' :=
  ⟨hc.1, fun g w us h1 h2 h3 cs => by
    obtain ⟨e, w', fr, ⟨v, e1, r, h', g', q1, q2⟩, q3⟩ := hc.2 g w us h1 h2 h3 cs
    exact ⟨e, w', fr, ⟨v, e1, r, h', g', hm _ _ q1, q2⟩, q3⟩⟩

/-- The caller's holdings, as the callee sees them. -/
def hideO : Ow → Ow
  | .slot .. | .box _ | .boxc .. | .ret _ => .other
  | o => o
def mineO : Ow → Bool
  | .slot .. | .box _ | .boxc .. | .ret _ => true
  | _ => false
def Gh.hide (g : Gh) : Gh := { g with ow := fun b => hideO (g.ow b) }
def backO (d : Nat) (old new : Ow) : Ow := if mineO old then old else match new with
  | .ret p => .slot d p
  | .obj i => .obj i
  | .objc i p => .objc i p
  | .other => .other
  | _ => .no
/-- The ghost behind a call. -/
def Gh.back (g g' : Gh) (d : Nat) : Gh := { fr := g'.fr, ow := fun b => backO d (g.ow b) (g'.ow b), io := g'.io, ib := g.ib, nh := g'.nh }
theorem RHeap.hide {h : List HObj} (hh : RHeap g w h) : RHeap g.hide w h :=
  ⟨hh.nh, fun id ob hob => RObj.mono (g := g) (g' := g.hide) ⟨fun _ _ _ h => h, Nat.le_refl _, fun _ _ => rfl⟩ (by rw [hh.nh]; exact (List.getElem?_eq_some_iff.1 hob).1) (fun b hb => ⟨by simp [Gh.hide, hb, hideO], rfl, rfl⟩) (fun p b hb => ⟨by simp [Gh.hide, hb, hideO], rfl, rfl⟩) (hh.obj id ob hob),
    fun b hb => by simp [Gh.hide, hh.valid b hb, hideO]⟩
section back
variable {g' : Gh} {w' : World} {d : Nat}
theorem hide_other {b : Nat} (h : mineO (g.ow b) = true) : g.hide.ow b = .other := by
  simp only [Gh.hide]; cases hq : g.ow b <;> rw [hq] at h <;> simp_all [mineO, hideO]
theorem mine_keep (hv : ∀ b, w.heap.size ≤ b → g.ow b = .no) (he : Evo g.hide w g' w') {q : Ow} (hq : mineO q = true) : Keep g w (g.back g' d) w' q q := by
  intro b hb
  have hlt : b < w.heap.size := by
    rcases Nat.lt_or_ge b w.heap.size with h | h
    · exact h
    · rw [hv b h] at hb; subst hb; cases hq
  obtain ⟨k1, k2, k3⟩ := he.fixed b hlt (.inr (hide_other (by rw [hb]; exact hq)))
  exact ⟨by simp [Gh.back, backO, hb, hq], k1, k2⟩
theorem mine_not (hv : ∀ b, w.heap.size ≤ b → g.ow b = .no) (he : Evo g.hide w g' w') {b : Nat} (h : g'.ow b ≠ .other) : mineO (g.ow b) = false := by
  cases hm : mineO (g.ow b) with
  | false => rfl
  | true =>
    exfalso
    have hlt : b < w.heap.size := by
      rcases Nat.lt_or_ge b w.heap.size with h' | h'
      · exact h'
      · rw [hv b h'] at hm; cases hm
    obtain ⟨_, _, k3⟩ := he.fixed b hlt (.inr (hide_other hm))
    exact h (by rw [k3, hide_other hm])
theorem back_keep (hv : ∀ b, w.heap.size ≤ b → g.ow b = .no) (he : Evo g.hide w g' w') {q q' : Ow} (hq : q ≠ .other) (h : backO d .no q = q') : Keep g' w' (g.back g' d) w' q q' := by
  intro b hb
  have := mine_not hv he (b := b) (by rw [hb]; exact hq)
  refine ⟨?_, rfl, rfl⟩
  simp only [Gh.back, backO, this, hb]
  simpa [backO, mineO] using h
theorem evo_back (hv : ∀ b, w.heap.size ≤ b → g.ow b = .no) (he : Evo g.hide w g' w') : Evo g w (g.back g' d) w' := by
  refine ⟨he.os, he.tape, he.output, he.size, fun b hb ho => ?_, he.stab, he.nh, he.io⟩
  have hh : g.hide.ow b = g.ow b := by rcases ho with ho | ho <;> simp [Gh.hide, ho, hideO]
  obtain ⟨k1, k2, k3⟩ := he.fixed b hb (by rw [hh]; exact ho)
  refine ⟨k1, k2, ?_⟩
  rw [hh] at k3
  rcases ho with ho | ho <;> simp [Gh.back, k3, ho, backO, mineO]
/-- Behind a call. -/
theorem Rel.back (hR : Rel n S g a w) (he : Evo g.hide w g' w') {h' : List HObj} (hh : RHeap g' w' h') : Rel n { S with heap := h' } (g.back g' d) a w' := by
  have hv := hR.heap.valid
  have hevo := evo_back (d := d) hv he
  refine ⟨hR.size, hR.defers, fun t => RV.mono hevo.stb (fun p => mine_keep hv he rfl) _ _ (fun _ _ _ => rfl) (hR.env t), fun s cs hs => RBox.mono hevo.stb rfl (mine_keep hv he rfl) (fun p => mine_keep hv he rfl) (hR.boxes s cs hs), ⟨hh.nh, fun id ob hob => ?_, fun b hb => ?_⟩⟩
  · exact RObj.mono (g := g') (g' := g.back g' d) ⟨fun _ _ _ h => h, Nat.le_refl _, fun _ _ => rfl⟩ (by rw [hh.nh]; exact (List.getElem?_eq_some_iff.1 hob).1) (back_keep hv he (by simp) rfl) (fun p => back_keep hv he (by simp) rfl) (hh.obj id ob hob)
  · have := hh.valid b hb
    have hm := mine_not hv he (b := b) (by rw [this]; simp)
    simp [Gh.back, this, backO, hm]
end back
theorem callsTo (hR : Rel n S g a w) {f : FuncId} {us : Array Value} {vs : List AVal} (hus : RIs g w vs us.toList) (hfl : ∀ v ∈ vs, flv v = true) {K : AState → Prop} (hd : ∀ k, o.dst = some k → k < n)
    (hc : ACalls P f vs S.heap fun r h => noBox r = true → K ({ S with heap := h }.put o.dst r)) (hrun : (execOp a.eval o).run P w = .ok (.enter f us) w) {g0 : Gh} (he0 : Evo g0 w g w) (hn : Goes n g0 w K next) : o.wp P a w next Q := by
  unfold Oper.wp; rw [hrun]
  intro cs
  obtain ⟨e, w', fr, ⟨v, rfl, r, h', g', hK, hnb, hrv, hh, he⟩, hs⟩ := hc.2 g.hide w us (RIs.mono (g := g) (g' := g.hide) ⟨fun _ _ _ h => h, Nat.le_refl _, fun _ _ => rfl⟩ _ _ hus) hfl hR.heap.hide cs
  refine ⟨_, w', fr, ?_, hs⟩
  have hK := hK hnb
  have hv := hR.heap.valid
  have key : ∀ d, RV (g.back g' d) w' (.slot d) r v := fun d =>
    RV.mono (g := g') (g' := g.back g' d) ⟨fun _ _ _ h => h, Nat.le_refl _, fun _ _ => rfl⟩ (fun p => back_keep hv he (by simp) rfl) _ _ (fun s off e => by rw [e] at hnb; cases hnb) hrv
  cases hdst : o.dst with
  | none =>
    rw [hdst] at hK
    exact hn _ (g.back g' 0) _ w' hK (hR.back he hh) (he0.trans (evo_back hv he))
  | some d =>
    rw [hdst] at hK
    refine hn _ (g.back g' d) _ w' hK ((hR.back he hh).put (d := some d) (by intro k hk; cases hk; exact hd d hdst) ?_) (he0.trans (evo_back hv he))
    intro k hk; cases hk; exact key d
theorem Rel.prom? (pr : Bool) (args : List AOpn) (hR : Rel n S g a w) : ∃ g', Rel n (if pr then S.promAll args else S) g' a w ∧ Evo g w g' w := by
  cases pr with
  | true => exact hR.promAll args
  | false => exact ⟨g, hR, .refl g w⟩
theorem eff_call (pr : Bool) (hR : Rel n S g a w) {c : Call} {f : FuncId} {ys : List AOpn} (ho : o.op = .call c) (hcal : c.callee = .value (.func f)) (hx : opns c.args.toList ys = true) (hd : ∀ k, o.dst = some k → k < n) {K : AState → Prop}
    (h : (∀ x ∈ ys, noBox ((if pr then S.promAll ys else S).rd x) = true) ∧ ACalls P f (ys.map (if pr then S.promAll ys else S).rd) (if pr then S.promAll ys else S).heap (fun r h => noBox r = true → K ({ (if pr then S.promAll ys else S) with heap := h }.put o.dst r))) (hn : Goes n g w K next) : o.wp P a w next Q := by
  obtain ⟨g1, hR1, evo⟩ := hR.prom? pr ys
  obtain ⟨h1, h2⟩ := h
  have hri := RIs.of_opns hR1 hx h1
  refine callsTo hR1 (us := c.args.map a.eval) (by simpa using hri) ?_ hd h2 ?_ evo hn
  · intro v hv
    obtain ⟨y, _, rfl⟩ := List.mem_map.1 hv
    exact rd_fl _ y
  · have := h2.1 (c.args.map a.eval) w
    simp [execOp, ho, resolve, hcal, Act.eval, Deferred.ofValue, invoke, this]
theorem eff_callv (pr : Bool) (hR : Rel n S g a w) {c : Call} {x : Operand} {x' : AOpn} {ys : List AOpn} (ho : o.op = .call c) (hcal : c.callee = .value x) (hx' : opn x x' = true) (hx : opns c.args.toList ys = true) (hd : ∀ k, o.dst = some k → k < n) {K : AState → Prop}
    (h : match (if pr then S.promAll ys else S).rd x' with
      | .func g caps => (∀ x ∈ ys, noBox ((if pr then S.promAll ys else S).rd x) = true) ∧ ACalls P g (ys.map (if pr then S.promAll ys else S).rd ++ caps.map rdc) (if pr then S.promAll ys else S).heap (fun r h => noBox r = true → K ({ (if pr then S.promAll ys else S) with heap := h }.put o.dst r))
      | _ => False) (hn : Goes n g w K next) : o.wp P a w next Q := by
  obtain ⟨g1, hR1, evo⟩ := hR.prom? pr ys
  have hv := RT.of_opn hR1 hx'
  split at h
  · rename_i f caps hf
    obtain ⟨h1, h2⟩ := h
    rw [hf] at hv
    simp only [RT, RI] at hv
    obtain ⟨us, e, hus⟩ := hv
    have hri := RIs.of_opns hR1 hx h1
    refine callsTo hR1 (us := c.args.map a.eval ++ us) (by simpa using hri.append hus.rdc) ?_ hd h2 ?_ evo hn
    · intro v hv
      rcases List.mem_append.1 hv with hv | hv
      · obtain ⟨y, _, rfl⟩ := List.mem_map.1 hv
        exact rd_fl _ y
      · obtain ⟨y, _, rfl⟩ := List.mem_map.1 hv
        exact flv_rdc y
    · have := h2.1 (c.args.map a.eval ++ us) w
      simp [execOp, ho, resolve, hcal, e, Deferred.ofValue, invoke, this]
  · exact h.elim
end
end Go.Ge
