/- More quiet operations: least and greatest, slices of slices and of strings, conversions of bytes, what is built. -/
import Derived.Test.YtpdajkbfemcdlaaGeOps4
import Derived.Laws.IdiomStrings
set_option linter.unusedSimpArgs false
set_option linter.unusedVariables false
namespace Go.Ge
section
variable {P : Program} {n : Nat} {S : AState} {g : Gh} {a : Act} {w : World} {o : Oper}

inductive All2 {α β : Type} (R : α → β → Prop) : List α → List β → Prop where
  | nil : All2 R [] []
  | cons {a : α} {b : β} {as : List α} {bs : List β} : R a b → All2 R as bs → All2 R (a :: as) (b :: bs)
def opns : List Operand → List AOpn → Bool
  | [], [] => true
  | x :: xs, y :: ys => opn x y && opns xs ys
  | _, _ => false
theorem RTs.of_opns (hR : Rel n S g a w) : ∀ {xs : List Operand} {ys : List AOpn}, opns xs ys = true → All2 (fun (p : AVal) (u : Value) => RT g w p u ∧ flv p = true) (ys.map S.rd) (xs.map a.eval)
  | [], [], _ => .nil
  | x :: xs, y :: ys, h => by
    simp only [opns, Bool.and_eq_true] at h
    exact .cons ⟨RT.of_opn hR h.1, rd_fl S y⟩ (RTs.of_opns hR h.2)
  | [], _ :: _, h => by simp [opns] at h
  | _ :: _, [], h => by simp [opns] at h

theorem run_fold {f : AVal → AVal → FR} {m : Value → Value → Sem Value} (hm : ∀ k i j, (f (.int k i) (.int k j)).c → True)
    (hf : ∀ (p q : AVal) (u v : Value), RT g w p u → RT g w q v → (f p q).c → ∃ r, (m u v).run P w = .ok r w ∧ RT g w (f p q).v r ∧ flv (f p q).v = true) :
    ∀ (qs : List AVal) (vs : List Value) (p : AVal) (u : Value), All2 (fun (p : AVal) (u : Value) => RT g w p u ∧ flv p = true) qs vs → RT g w p u → flv p = true → (foldV f p qs).c →
      ∃ r, (vs.foldlM m u).run P w = .ok r w ∧ RT g w (foldV f p qs).v r ∧ flv (foldV f p qs).v = true
  | [], _, p, u, h, hp, hpf, _ => by
    cases h
    exact ⟨u, by simp, hp, hpf⟩
  | q :: qs, vs, p, u, h, hp, hpf, hc => by
    cases h with
    | cons h1 h2 =>
      rename_i v vs
      simp only [foldV] at hc ⊢
      obtain ⟨r, r1, r2, r3⟩ := hf p q u v hp h1.1 hc.1
      obtain ⟨r', q1, q2, q3⟩ := run_fold hm hf qs vs _ r h2 r2 r3 hc.2
      exact ⟨r', by simp [r1, q1], q2, q3⟩
theorem run_mn (p q : AVal) (u v : Value) (hp : RT g w p u) (hq : RT g w q v) (hc : (mnV p q).c) : ∃ r, (Builtin.min2 u v).run P w = .ok r w ∧ RT g w (mnV p q).v r ∧ flv (mnV p q).v = true := by
  cases p <;> cases q <;> simp only [mnV] at hc ⊢ <;> try exact hc.elim
  exact ⟨_, by simp [RI.int_inv hp, RI.int_inv hq, Builtin.min2]; rfl, by simp [RT, RI], rfl⟩
theorem run_mx (p q : AVal) (u v : Value) (hp : RT g w p u) (hq : RT g w q v) (hc : (mxV p q).c) : ∃ r, (Builtin.max2 u v).run P w = .ok r w ∧ RT g w (mxV p q).v r ∧ flv (mxV p q).v = true := by
  cases p <;> cases q <;> simp only [mxV] at hc ⊢ <;> try exact hc.elim
  exact ⟨_, by simp [RI.int_inv hp, RI.int_inv hq, Builtin.max2]; rfl, by simp [RT, RI], rfl⟩
theorem ok_mn (hR : Rel n S g a w) {c : Call} {x : AOpn} {ys : List AOpn} (ho : o.op = .call c) (hcal : c.callee = .builtin .min) (hx : opns c.args.toList (x :: ys) = true)
    (hc : (foldV mnV (S.rd x) (ys.map S.rd)).c) (own : List Nat → Ow) : Ok1 P (execOp a.eval o) g w own (foldV mnV (S.rd x) (ys.map S.rd)).v := by
  have h := RTs.of_opns hR hx
  cases hl : c.args.toList with
  | nil => rw [hl] at hx; simp [opns] at hx
  | cons z zs =>
    rw [hl] at h
    simp only [List.map] at h
    cases h with
    | cons h1 h2 =>
      obtain ⟨r, r1, r2, r3⟩ := run_fold (P := P) (f := mnV) (m := Builtin.min2) (fun _ _ _ _ => trivial) run_mn _ _ _ _ h2 h1.1 h1.2 hc
      refine Ok1.same (u := r) hR.heap.valid ?_ r2 r3
      simp [execOp, ho, resolve, hcal, invoke, builtin, Builtin.min_, hl, r1]
theorem ok_mx (hR : Rel n S g a w) {c : Call} {x : AOpn} {ys : List AOpn} (ho : o.op = .call c) (hcal : c.callee = .builtin .max) (hx : opns c.args.toList (x :: ys) = true)
    (hc : (foldV mxV (S.rd x) (ys.map S.rd)).c) (own : List Nat → Ow) : Ok1 P (execOp a.eval o) g w own (foldV mxV (S.rd x) (ys.map S.rd)).v := by
  have h := RTs.of_opns hR hx
  cases hl : c.args.toList with
  | nil => rw [hl] at hx; simp [opns] at hx
  | cons z zs =>
    rw [hl] at h
    simp only [List.map] at h
    cases h with
    | cons h1 h2 =>
      obtain ⟨r, r1, r2, r3⟩ := run_fold (P := P) (f := mxV) (m := Builtin.max2) (fun _ _ _ _ => trivial) run_mx _ _ _ _ h2 h1.1 h1.2 hc
      refine Ok1.same (u := r) hR.heap.valid ?_ r2 r3
      simp [execOp, ho, resolve, hcal, invoke, builtin, Builtin.max_, hl, r1]

/-! ### Slices of slices -/
def oopn : Option Operand → Option AOpn → Bool
  | none, none => true
  | some x, some y => opn x y
  | _, _ => false
theorem bound_ok (hR : Rel n S g a w) {x : Operand} {y : AOpn} (hx : opn x y = true) {k : IntKind} {i : Int} (hy : S.rd y = .int k i) (m : Nat) (code : BoundsCode) (h0 : 0 ≤ i) (h1 : i ≤ m) :
    (Instr.sliceBound (a.eval x) m code).run P w = .ok i.toNat w := by
  have h := RT.of_opn hR hx; rw [hy] at h
  simp [Instr.sliceBound, RI.int_inv h, asIntOf, h0, h1]
theorem rd_int {S : AState} {y : AOpn} {i : Int} (h : loV S.rd (some y) = some i) : ∃ k, S.rd y = .int k i := by
  simp only [loV] at h
  split at h
  · rename_i k n hk; cases h; exact ⟨k, hk⟩
  · cases h
theorem rd_int' {S : AState} {y : AOpn} {m : Nat} {i : Int} (h : hiV S.rd m (some y) = some i) : ∃ k, S.rd y = .int k i := by
  simp only [hiV] at h
  split at h
  · rename_i k n hk; cases h; exact ⟨k, hk⟩
  · cases h
theorem bounds_ok (hR : Rel n S g a w) {lo hi : Option Operand} {lo' hi' : Option AOpn} (h1 : oopn lo lo' = true) (h2 : oopn hi hi' = true) (isS : Bool) (len cap : Nat) {l h : Int}
    (hl : loV S.rd lo' = some l) (hh : hiV S.rd len hi' = some h) (h0 : 0 ≤ l) (hlh : l ≤ h) (hcap : h ≤ cap) :
    (Instr.sliceBounds isS len cap (lo.map a.eval) (hi.map a.eval) none).run P w = .ok (l.toNat, h.toNat, cap) w := by
  have hhi : (match hi.map a.eval with | some v => Instr.sliceBound v cap (if isS then .sliceAcap else .sliceAlen) | none => pure len : Sem Nat).run P w = .ok h.toNat w := by
    cases hi with
    | none =>
      cases hi' with
      | none => simp only [hiV, Option.some.injEq] at hh; subst hh; simp
      | some y => simp [oopn] at h2
    | some x =>
      cases hi' with
      | none => simp [oopn] at h2
      | some y =>
        obtain ⟨k, hk⟩ := rd_int' hh
        simp only [Option.map_some]
        exact bound_ok hR h2 hk cap _ (by omega) hcap
  have hlo : (match lo.map a.eval with | some v => Instr.sliceBound v h.toNat .sliceB | none => pure 0 : Sem Nat).run P w = .ok l.toNat w := by
    cases lo with
    | none =>
      cases lo' with
      | none => simp only [loV, Option.some.injEq] at hl; subst hl; simp
      | some y => simp [oopn] at h1
    | some x =>
      cases lo' with
      | none => simp [oopn] at h1
      | some y =>
        obtain ⟨k, hk⟩ := rd_int hl
        simp only [Option.map_some]
        exact bound_ok hR h1 hk h.toNat _ h0 (by omega)
  cases hi <;> cases lo <;> simp_all [Instr.sliceBounds]
theorem Cont.slice {A : Option Addr} {us : List Value} (h : Cont g w A us) (l m sz : Nat) (hsz : ∀ u ∈ us, u.cells.size = sz) (A' : Option Addr)
    (hA : ∀ b off, A = some ⟨b, off, none⟩ → (us.drop l).take m ≠ [] → A' = some ⟨b, off + l * sz, none⟩) : Cont g w A' ((us.drop l).take m) := by
  obtain ⟨sz', h1, h2⟩ := h
  refine ⟨sz', fun u hu => h1 u (List.mem_of_mem_drop (List.mem_of_mem_take hu)), fun hne => ?_⟩
  have hne' : us ≠ [] := by rintro rfl; simp at hne
  obtain ⟨b, off, e, hst⟩ := h2 hne'
  have hs : sz' = sz := by
    cases us with
    | nil => exact absurd rfl hne'
    | cons u us => rw [← h1 u (by simp), hsz u (by simp)]
  subst hs
  refine ⟨b, off + l * sz', hA b off e hne, fun i u j x hi hj => ?_⟩
  have him : i < m := by
    rcases Nat.lt_or_ge i m with h' | h'
    · exact h'
    · simp [List.getElem?_take, Nat.not_lt.2 h'] at hi
  rw [List.getElem?_take_of_lt him, List.getElem?_drop] at hi
  have := hst (l + i) u j x hi hj
  have e : off + l * sz' + i * sz' + j = off + (l + i) * sz' + j := by rw [Nat.add_mul]; omega
  rw [e]; exact this
theorem widths {xs : List AVal} {us : List Value} {sz : Nat} (hus : RIs g w xs us) (h : ∀ x ∈ xs, x.width = sz) (hpos : 0 < sz) : ∀ u ∈ us, u.cells.size = sz := by
  intro u hu
  have hlen := hus.length
  obtain ⟨i, hi, rfl⟩ := List.getElem_of_mem hu
  have hi2 : i < xs.length := by omega
  obtain ⟨u', hu1, hu2⟩ := hus.get i xs[i] (by simp [hi2])
  rw [List.getElem?_eq_getElem hi] at hu1; simp at hu1; subst hu1
  have hx3 := h xs[i] (List.getElem_mem hi2)
  rw [hu2.width (by omega), hx3]
theorem ok_slice (hR : Rel n S g a w) {t e : TypeId} {x : Operand} {lo hi mx : Option Operand} {x' : AOpn} {lo' hi' mx' : Option AOpn} {it : TypeInfo} {sz : Nat} (ho : o.op = .slice t x lo hi mx) (hx : opn x x' = true)
    (h1 : oopn lo lo' = true) (h2 : oopn hi hi' = true) (h3 : oopn mx mx' = true) (ht : P.underlying t = some (.slice e)) (hit : P.info? e = some it) (hsz : it.size = sz) (hpos : 0 < sz)
    (hc : (sliceV sz S.rd (S.rd x') lo' hi' mx').c) (own : List Nat → Ow) : Ok1 P (execOp a.eval o) g w own (sliceV sz S.rd (S.rd x') lo' hi' mx').v := by
  have h := RT.of_opn hR hx
  have hsof : (sizeOf e).run P w = .ok sz w := by simp [sizeOf, typeInfo, hit, hsz]
  have hrun : ∀ (A : Option Addr) (len cap l h : Nat), a.eval x = .slice A len cap → mx = none → (Instr.sliceBounds true len cap (lo.map a.eval) (hi.map a.eval) none).run P w = .ok (l, h, cap) w →
      (execOp a.eval o).run P w = .ok (.value (.slice (if cap = l then A else A.map (·.add (l * sz))) (h - l) (cap - l))) w := by
    intro A len cap l h e1 e2 e3
    subst e2
    simp [execOp, ho, Instr.sliceAt, Instr.slice, run_underlying ht, e1, e3, hsof]
  generalize hp : S.rd x' = p at h hc ⊢
  cases p with
  | lst ow xs =>
    simp only [RT, RI] at h
    obtain ⟨A, cap, us, ee, hlc, hus, hcont, _⟩ := h
    simp only [sliceV] at hc ⊢
    have hlen := hus.length
    cases hl : loV S.rd lo' with
    | none => simp [hl] at hc
    | some l =>
      cases hh : hiV S.rd xs.length hi' with
      | none => simp [hl, hh] at hc
      | some h' =>
        cases hmx : mx' with
        | none =>
          simp only [hl, hh, hmx] at hc ⊢
          obtain ⟨c0, c1, c2, c3⟩ := hc
          obtain rfl : mx = none := by cases mx <;> simp_all [oopn]
          rw [← hlen] at hh c2
          have hb := bounds_ok (P := P) hR h1 h2 true us.length cap hl hh c0 c1 (by omega)
          have hw := widths hus c3 hpos
          refine Ok1.same (u := _) hR.heap.valid (hrun A us.length cap _ _ ee rfl hb) ?_ rfl
          simp only [RT, RI]
          have hk : ((us.drop l.toNat).take (h'.toNat - l.toNat)).length = h'.toNat - l.toNat := by simp; omega
          refine ⟨_, cap - l.toNat, (us.drop l.toNat).take (h'.toNat - l.toNat), by rw [hk], by rw [hk]; omega, (hus.drop _).take _, ?_, trivial⟩
          refine hcont.slice l.toNat (h'.toNat - l.toNat) sz hw _ ?_
          rintro b off rfl hne
          have : cap ≠ l.toNat := by
            intro e
            apply hne
            apply List.eq_nil_of_length_eq_zero
            rw [hk]; omega
          rw [if_neg this]
          simp [Addr.add_lit]
        | some m =>
          simp only [hl, hh, hmx] at hc ⊢
          cases hm : S.rd m <;> simp only [hm] at hc ⊢ <;> try exact hc.elim
          rename_i k q
          obtain ⟨rfl, rfl, rfl, hsome⟩ := hc
          -- s[:0:0]
          obtain ⟨mo, rfl, hmo⟩ : ∃ mo, mx = some mo ∧ opn mo m = true := by cases mx <;> simp_all [oopn]
          obtain ⟨y, rfl⟩ := isSome_iff' hsome
          obtain ⟨ho', rfl, hho⟩ : ∃ mo, hi = some mo ∧ opn mo y = true := by cases hi <;> simp_all [oopn]
          have hm' := bound_ok (P := P) hR hmo hm cap .slice3Acap (by omega) (by omega)
          obtain ⟨k2, hk2⟩ := rd_int' hh
          have hhi := bound_ok (P := P) hR hho hk2 0 .slice3B (by omega) (by omega)
          have hb : (Instr.sliceBounds true us.length cap (lo.map a.eval) ((some ho').map a.eval) (some (a.eval mo))).run P w = .ok (0, 0, 0) w := by
            cases lo with
            | none => simp_all [Instr.sliceBounds]
            | some z =>
              cases lo' with
              | none => simp [oopn] at h1
              | some y' =>
                obtain ⟨k, hk⟩ := rd_int hl
                have hlo := bound_ok (P := P) hR (show opn z y' = true from h1) hk 0 .slice3C (by omega) (by omega)
                simp_all [Instr.sliceBounds]
          refine ⟨.slice A 0 0, w, g, ?_, .refl hR.heap.valid, ?_⟩
          · simp only [Option.map_some] at hb
            simp [execOp, ho, Instr.sliceAt, Instr.slice, run_underlying ht, ee, hb, hsof]
          · simp only [RV, RV1, RVc]
            exact ⟨A, 0, [], rfl, by simp, by simp [RIs], by simp, ⟨1, by simp, by simp⟩, .inl rfl⟩
  | ref id off len cap =>
    simp only [RT, RI] at h
    obtain ⟨A, ee, hcap, hA⟩ := h
    simp only [sliceV] at hc ⊢
    cases hl : loV S.rd lo' with
    | none => simp [hl] at hc
    | some l =>
      cases hh : hiV S.rd len hi' with
      | none => simp [hl, hh] at hc
      | some h' =>
        cases hmx : mx' with
        | some m =>
          simp only [hl, hh, hmx] at hc ⊢
          cases hm : S.rd m <;> simp only [hm] at hc ⊢ <;> try exact hc.elim
          rename_i k q
          obtain ⟨c0, c1, c2, c3, hsome⟩ := hc
          obtain ⟨mo, rfl, hmo⟩ : ∃ mo, mx = some mo ∧ opn mo m = true := by cases mx <;> simp_all [oopn]
          obtain ⟨y, rfl⟩ := isSome_iff' hsome
          obtain ⟨ho', rfl, hho⟩ : ∃ mo, hi = some mo ∧ opn mo y = true := by cases hi <;> simp_all [oopn]
          have hm' := bound_ok (P := P) hR hmo hm cap .slice3Acap (by omega) (by omega)
          obtain ⟨k2, hk2⟩ := rd_int' hh
          have hhi := bound_ok (P := P) hR hho hk2 q.toNat .slice3B (by omega) (by omega)
          have hb : (Instr.sliceBounds true len cap (lo.map a.eval) ((some ho').map a.eval) (some (a.eval mo))).run P w = .ok (l.toNat, h'.toNat, q.toNat) w := by
            cases lo with
            | none =>
              cases lo' with
              | some _ => simp [oopn] at h1
              | none =>
                simp only [loV, Option.some.injEq] at hl
                subst hl
                simp_all [Instr.sliceBounds]
            | some z =>
              cases lo' with
              | none => simp [oopn] at h1
              | some y' =>
                obtain ⟨k, hk⟩ := rd_int hl
                have hlo := bound_ok (P := P) hR (show opn z y' = true from h1) hk h'.toNat .slice3C (by omega) (by omega)
                simp_all [Instr.sliceBounds]
          refine Ok1.same (u := .slice (if q.toNat = l.toNat then A else A.map (·.add (l.toNat * sz))) (h'.toNat - l.toNat) (q.toNat - l.toNat)) hR.heap.valid ?_ ?_ rfl
          · simp only [Option.map_some] at hb
            simp [execOp, ho, Instr.sliceAt, Instr.slice, run_underlying ht, ee, hb, hsof]
          · simp only [RT, RI]
            refine ⟨_, rfl, by omega, fun hne => ?_⟩
            obtain ⟨hid, rfl⟩ := hA (by omega)
            refine ⟨hid, ?_⟩
            rw [if_neg (by omega)]
            simp [Addr.add_lit, Nat.add_assoc]
        | none =>
          simp only [hl, hh, hmx] at hc ⊢
          obtain ⟨c0, c1, c2⟩ := hc
          obtain rfl : mx = none := by cases mx <;> simp_all [oopn]
          have hb := bounds_ok (P := P) hR h1 h2 true len cap hl hh c0 c1 (by omega)
          refine Ok1.same (u := _) hR.heap.valid (hrun _ len cap _ _ ee rfl hb) ?_ rfl
          simp only [RT, RI]
          refine ⟨_, rfl, by omega, fun hne => ?_⟩
          obtain ⟨hid, rfl⟩ := hA (by omega)
          refine ⟨hid, ?_⟩
          rw [if_neg (by omega)]
          simp [Addr.add_lit, Nat.add_assoc]
  | _ => simp only [sliceV] at hc
/-- Slices of strings. -/
theorem ok_sslice_stub : True := trivial
end
end Go.Ge
