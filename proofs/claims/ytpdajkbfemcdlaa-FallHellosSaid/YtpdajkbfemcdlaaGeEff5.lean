/- Slices and parts of tuples that are taken; append. -/
import Derived.Test.YtpdajkbfemcdlaaGeEff4
import Derived.Deep.AppendSrc
set_option linter.unusedSimpArgs false
set_option linter.unusedVariables false
namespace Go.Ge
section
variable {P : Program} {n : Nat} {S : AState} {g : Gh} {a : Act} {w : World} {o : Oper} {next : Act → World → Prop} {Q : Exit → Act → World → Prop}

/-- One slot's holding under name q goes elsewhere; the slot keeps what 'left' says. -/
theorem Rel.split (hR : Rel n S g a w) {t d : Nat} (hd : d < n) {ρ : Ow → Ow} (hρ : Calm ρ) (hρo : ∀ u p, u ≠ t → ρ (.slot u p) = .slot u p) {left taken : AVal} {u : Value}
    (hl : RV (g.ren ρ) w (.slot t) left (a.tmps.getD t undef)) (ht : RV (g.ren ρ) w (.slot d) taken u) :
    Rel n ((S.set t left).set d taken) (g.ren ρ) (a.put (some d) u) w := by
  refine ⟨by simpa [Act.put] using hR.size, hR.defers, fun v => ?_, fun s cs hs => (hR.boxes s cs hs).ren hρ, hR.heap.ren hρ⟩
  rw [tmps_put hR.size hd]
  simp only [AState.set]
  by_cases e : v = d
  · rw [if_pos e, if_pos e]; subst e; exact ht
  · rw [if_neg e, if_neg e]
    by_cases e2 : v = t
    · rw [if_pos e2]; subst e2; exact hl
    · rw [if_neg e2]
      exact RV.mono Stb.ren (fun p => Keep.ren (hρo v p e2)) _ _ (fun _ _ _ => rfl) (hR.env v)

theorem Cont.sub {A : Option Addr} {us : List Value} {sz : Nat} (h : Cont g w A us) (hsz : ∀ u ∈ us, u.cells.size = sz) (l : Nat) (A' : Option Addr) (hA : ∀ b off, A = some ⟨b, off, none⟩ → us.drop l ≠ [] → A' = some ⟨b, off + l * sz, none⟩) : Cont g w A' (us.drop l) := by
  have := h.slice l us.length sz hsz A' (fun b off e hne => hA b off e (by
    intro e2; apply hne; simp [e2]))
  rwa [List.take_of_length_le (by simp)] at this

def slT (t d : Nat) : Ow → Ow := ren1 (.slot t []) (.slot d [])
theorem Calm.slT (t d : Nat) : Calm (slT t d) := ⟨rfl, rfl, fun _ => rfl, fun _ _ => rfl, fun _ => rfl, fun _ _ => rfl⟩
theorem slT_self (t d : Nat) : slT t d (.slot t []) = .slot d [] := by simp [slT, ren1]
theorem slT_other (t d u : Nat) (p : List Nat) (h : u ≠ t) : slT t d (.slot u p) = .slot u p := by simp [slT, ren1, h]
theorem slT_no {t d : Nat} : Evo g w (g.ren (slT t d)) w := ren1_evo (by simp) (by simp)

theorem eff_sliceT (hR : Rel n S g a w) {ty e : TypeId} {t d sz : Nat} {lo : Option Operand} {lo' : Option AOpn} {it : TypeInfo} (ho : o.op = .slice ty (.tmp t) lo none none) (h1 : oopn lo lo' = true) (hdst : o.dst = some d) (hd : d < n)
    (ht : P.underlying ty = some (.slice e)) (hit : P.info? e = some it) (hsz : it.size = sz) {K : AState → Prop}
    (h : match S.env t, loV S.rd lo' with
      | .lst (.app sz') xs, some l => sz' = sz ∧ 0 ≤ l ∧ l ≤ xs.length ∧ K ((S.set t (.lst .sh xs)).put o.dst (.lst (.app sz) (xs.drop l.toNat)))
      | _, _ => False) (hn : Goes n g w K next) : o.wp P a w next Q := by
  split at h
  · rename_i sz' xs l henv hlo
    obtain ⟨rfl, c0, c1, hk⟩ := h
    have hv := hR.env t
    rw [henv] at hv
    simp only [RV, RV1, RVc] at hv
    obtain ⟨A, cap, us, ee, hlc, hus, hw, hcont, hsp⟩ := hv
    have hlen := hus.length
    have hb := bounds_ok (P := P) hR h1 (hi := none) (hi' := none) rfl true us.length cap (l := l) (h := us.length) hlo (by simp [hiV]) c0 (by omega) (by omega)
    have hsof : (sizeOf e).run P w = .ok sz' w := by simp [sizeOf, typeInfo, hit, hsz]
    have hrun : (execOp a.eval o).run P w = .ok (.value (.slice (if cap = l.toNat then A else A.map (·.add (l.toNat * sz'))) (us.length - l.toNat) (cap - l.toNat))) w := by
      have e1 : a.eval (.tmp t) = .slice A us.length cap := ee
      simp only [Int.toNat_natCast, Option.map_none] at hb
      simp [execOp, ho, Instr.sliceAt, Instr.slice, run_underlying ht, e1, hb, hsof]
    refine wp_value hrun ?_
    rw [hdst] at hk ⊢
    refine hn _ (g.ren (slT t d)) _ _ hk ?_ slT_no
    have hus' := RIs.mono (Stb.ren (ρ := slT t d)) _ _ hus
    refine hR.split hd (.slT t d) (slT_other t d) ?_ ?_
    · rw [ee]
      simp only [RV, RV1, RVc, RI]
      exact ⟨A, cap, us, rfl, hlc, hus', hcont.mono Stb.ren, trivial⟩
    · simp only [RV, RV1, RVc]
      have hk : (us.drop l.toNat).length = us.length - l.toNat := by simp
      refine ⟨_, cap - l.toNat, us.drop l.toNat, by rw [hk], by rw [hk]; omega, hus'.drop _, fun u hu => hw u (List.mem_of_mem_drop hu), ?_, ?_⟩
      · refine (hcont.mono Stb.ren).sub hw l.toNat _ ?_
        rintro b off rfl hne
        have : cap ≠ l.toNat := by
          intro e
          apply hne
          apply List.eq_nil_of_length_eq_zero
          rw [hk]; omega
        rw [if_neg this]
        simp [Addr.add_lit]
      · rcases hsp with hsp | ⟨b, off, cur, e', fz, q1, q2, q3, q4, q5, q6⟩
        · left; rw [hk]; omega
        · by_cases e : cap = l.toNat
          · left; rw [hk]; omega
          · right
            rw [if_neg e]
            have hml : (us.length - l.toNat) * sz' + l.toNat * sz' = us.length * sz' := by rw [← Nat.add_mul]; congr 1; omega
            have hmc : (cap - l.toNat) * sz' + l.toNat * sz' = cap * sz' := by rw [← Nat.add_mul]; congr 1; omega
            refine ⟨b, off + l.toNat * sz', cur, e', fz, by simp [q1, Addr.add_lit], by simp [Gh.ren, q2, slT_self], ?_, q4, by omega, q6⟩
            show g.fr b ≤ _
            rw [hk]; omega
  · exact h.elim

def exT (t i d : Nat) : Ow → Ow
  | .slot t' (i' :: p) => if t' = t ∧ i' = i then .slot d p else .slot t' (i' :: p)
  | o => o
theorem Calm.exT (t i d : Nat) : Calm (exT t i d) := ⟨rfl, rfl, fun _ => rfl, fun _ _ => rfl, fun _ => rfl, fun _ _ => rfl⟩
theorem exT_other (t i d u : Nat) (p : List Nat) (h : u ≠ t) : exT t i d (.slot u p) = .slot u p := by cases p <;> simp [exT, h]
theorem RVt.set {own own' : List Nat → Ow} {g' : Gh} : ∀ {vs : List AVal} {us : List Value} {k i : Nat}, RVt g w own k vs us → Stb g w g' w → (∀ j p, j ≠ k + i → Keep g w g' w (own (j :: p)) (own' (j :: p))) → i < vs.length →
    RVt g' w own' k (vs.set i .junk) us ∧ ∃ u, us[i]? = some u ∧ RV1 g w (fun p => own ((k + i) :: p)) (vs.getD i .junk) u
  | [], _, _, _, _, _, _, h => by simp at h
  | v :: vs, us, k, i, h, hs, hk, hi => by
    simp only [RVt] at h
    obtain ⟨u, us', rfl, h1, h2⟩ := h
    cases i with
    | zero =>
      refine ⟨?_, u, by simp, by simpa using h1⟩
      simp only [List.set_cons_zero, RVt]
      refine ⟨u, us', rfl, by simp [RV1, RVc, RI], ?_⟩
      have mono : ∀ (xs : List AVal) (i : Nat) (us : List Value), k < i → RVt g w own i xs us → RVt g' w own' i xs us := by
        intro xs
        induction xs with
        | nil => intro i us _ h; simpa [RVt] using h
        | cons x xs ih =>
          intro i us hlt h
          simp only [RVt] at h ⊢
          obtain ⟨u, us', e, h1, h2⟩ := h
          exact ⟨u, us', e, RV1.mono hs (fun p => hk i p (by omega)) x u h1, ih (i + 1) us' (by omega) h2⟩
      exact mono vs (k + 1) us' (by omega) h2
    | succ i =>
      obtain ⟨r1, u', r2, r3⟩ := RVt.set (i := i) h2 hs (fun j p hj => hk j p (by omega)) (by simpa using hi)
      refine ⟨?_, u', by simpa using r2, ?_⟩
      · simp only [List.set_cons_succ, RVt]
        exact ⟨u, us', rfl, RV1.mono hs (fun p => hk k p (by omega)) v u h1, r1⟩
      · have e : k + 1 + i = k + (i + 1) := by omega
        rw [e] at r3
        simpa using r3
theorem eff_extT (hR : Rel n S g a w) {t d i : Nat} (ho : o.op = .extract (.tmp t) i) (hdst : o.dst = some d) (hd : d < n) {K : AState → Prop}
    (h : match S.env t with
      | .tup vs => i < vs.length ∧ plainV (vs.getD i .junk) = true ∧ K ((S.set t (.tup (vs.set i .junk))).put o.dst (vs.getD i .junk))
      | _ => False) (hn : Goes n g w K next) : o.wp P a w next Q := by
  split at h
  · rename_i vs henv
    obtain ⟨h1, h2, hk⟩ := h
    have hv := hR.env t
    rw [henv] at hv
    simp only [RV] at hv
    obtain ⟨us, ee, hus⟩ := hv
    obtain ⟨r1, u, r2, r3⟩ := RVt.set (g' := g.ren (exT t i d)) (own' := .slot t) (i := i) hus Stb.ren (fun j p hj => Keep.ren (by
      have : j ≠ i := by omega
      simp [exT, this])) h1
    have hrun : (execOp a.eval o).run P w = .ok (.value u) w := by
      have e1 : a.eval (.tmp t) = .tuple us := ee
      have : us[i]? = some u := by simpa using r2
      simp [execOp, ho, e1, Instr.extract, this]
    refine wp_value hrun ?_
    rw [hdst] at hk ⊢
    refine hn _ (g.ren (exT t i d)) _ _ hk ?_ (Evo.ren rfl rfl)
    refine hR.split hd (.exT t i d) (exT_other t i d) ?_ ?_
    · rw [ee]
      simp only [RV]
      exact ⟨us, rfl, r1⟩
    · have r4 := RV1.mono (own' := .slot d) (Stb.ren (ρ := exT t i d)) (fun p => Keep.ren (by simp [exT])) _ _ r3
      unfold RV
      split
      · rename_i e; rw [e] at h2; cases h2
      · rename_i e; rw [e] at h2; cases h2
      · exact r4
  · exact h.elim

/-- A literal's bytes: the row is marked behind its end. -/
theorem freeze_block {b o : Nat} {cur : Array Value} {e : TypeId} {fz : Nat × Nat} (h : w.heap[b]? = some (.cells cur e fz)) (hu : Unfr cur.size fz) : ∃ fz', (w.freeze ⟨b, cur.size, none⟩ 1).heap[b]? = some (.cells cur e fz') ∧ Unfr cur.size fz' := by
  have hlt : b < w.heap.size := (Array.getElem?_eq_some_iff.1 h).1
  obtain ⟨lo, hi⟩ := fz
  refine ⟨if lo == hi then (cur.size, cur.size + 1) else (min lo cur.size, max hi (cur.size + 1)), ?_, ?_⟩
  · simp [World.freeze, Array.getElem?_modify, h]
  · rcases hu with hu | hu
    · simp only at hu; subst hu; simp [Unfr]
    · simp only at hu
      by_cases e2 : lo = hi
      · subst e2; simp [Unfr]
      · have : (lo == hi) = false := by simpa using e2
        rw [this]; simp only [Bool.false_eq_true, if_false, Unfr]; right; omega
theorem freeze_other {b k n' o : Nat} (hk : k ≠ b) : (w.freeze ⟨b, o, none⟩ n').heap[k]? = w.heap[k]? := by
  unfold World.freeze
  split
  · rfl
  · simp only [Array.getElem?_modify]
    rw [if_neg (fun e => hk e.symm)]
theorem freeze_size {b n' o : Nat} : (w.freeze ⟨b, o, none⟩ n').heap.size = w.heap.size := by
  unfold World.freeze; split <;> simp
theorem freeze_rest {b n' o : Nat} : (w.freeze ⟨b, o, none⟩ n').os = w.os ∧ (w.freeze ⟨b, o, none⟩ n').tape = w.tape ∧ (w.freeze ⟨b, o, none⟩ n').output = w.output := by
  unfold World.freeze; split <;> exact ⟨rfl, rfl, rfl⟩
theorem eff_str8 (hR : Rel n S g a w) {ty e : TypeId} {t d : Nat} (ho : o.op = .convert ty ty (.tmp t)) (hdst : o.dst = some d) (hd : d < n) (ht : P.underlying ty = some (.slice e)) (he : P.underlying e = some (.int .u8)) {K : AState → Prop}
    (h : match S.env t with
      | .lst (.uniq 1 c) xs => xs ≠ [] ∧ K ((S.set t .junk).put o.dst (.lst (.uniq 1 c) xs))
      | _ => False) (hn : Goes n g w K next) : o.wp P a w next Q := by
  split at h
  · rename_i cap xs henv
    obtain ⟨hne, hk⟩ := h
    have hv := hR.env t
    rw [henv] at hv
    simp only [RV, RV1, RVc] at hv
    obtain ⟨A, us, ee, hlc, hus, hw, hu⟩ := hv
    have hlen := hus.length
    have hpos : 0 < xs.length := List.length_pos_iff.2 hne
    obtain ⟨b, off, cur, e', fz, q1, q2, q3, q4, q5, q6, q7⟩ := hu.resolve_left (by omega)
    subst q1
    obtain ⟨fz', f1, f2⟩ := freeze_block (o := off) q4 q6
    have hrun : (execOp a.eval o).run P w = .ok (.value (.slice (some ⟨b, off, none⟩) us.length cap)) (w.freeze ⟨b, cur.size, none⟩ 1) := by
      have e1 : a.eval (.tmp t) = .slice (some ⟨b, off, none⟩) us.length cap := ee
      simp [execOp, ho, e1, convert, run_underlying ht, run_underlying he, markStringish, World.shape?, q4]
    refine wp_value hrun ?_
    rw [hdst] at hk ⊢
    have hb : ∀ k, g.ow k ≠ .slot t [] → k ≠ b := by rintro k hk2 rfl; exact hk2 q2
    obtain ⟨z1, z2, z3⟩ := freeze_rest (w := w) (b := b) (n' := 1) (o := cur.size)
    have hcell : ∀ k o', (w.freeze ⟨b, cur.size, none⟩ 1).cell? ⟨k, o', none⟩ = w.cell? ⟨k, o', none⟩ := by
      intro k o'
      by_cases e2 : k = b
      · subst e2; rw [cell_of_block f1, cell_of_block q4]
      · exact World.cell?_of_block (w := w) (freeze_other e2)
    have hevo : Evo g w (g.ren (slT t d)) (w.freeze ⟨b, cur.size, none⟩ 1) := by
      refine ⟨z1, z2, z3, by rw [freeze_size]; exact Nat.le_refl _, fun k hk2 ho2 => ?_, fun k _ => ⟨Nat.le_refl _, fun o' _ => hcell k o'⟩, Nat.le_refl _, fun _ _ => rfl⟩
      have := hb k (by rcases ho2 with ho2 | ho2 <;> rw [ho2] <;> simp)
      exact ⟨freeze_other this, rfl, by rcases ho2 with ho2 | ho2 <;> simp [Gh.ren, ho2, slT, ren1]⟩
    have hkeep : ∀ q, q ≠ .slot t [] → Keep g w (g.ren (slT t d)) (w.freeze ⟨b, cur.size, none⟩ 1) q q := by
      intro q hq k hk2
      have := hb k (by rw [hk2]; exact hq)
      exact ⟨by simp [Gh.ren, hk2, slT, ren1, hq], freeze_other this, rfl⟩
    refine hn _ (g.ren (slT t d)) _ _ hk ?_ hevo
    refine ⟨by simpa [Act.put] using hR.size, hR.defers, fun v => ?_, fun s cs hs => RBox.mono hevo.stb rfl (hkeep _ (by simp)) (fun p => hkeep _ (by simp)) (hR.boxes s cs hs),
      ⟨hR.heap.nh, fun id ob hob => RObj.mono hevo.stb (by rw [hR.heap.nh]; exact (List.getElem?_eq_some_iff.1 hob).1) (hkeep _ (by simp)) (fun p => hkeep _ (by simp)) (hR.heap.obj id ob hob), fun k hk2 => by
        rw [freeze_size] at hk2
        simp [Gh.ren, hR.heap.valid k hk2, slT, ren1]⟩⟩
    rw [tmps_put hR.size hd]
    simp only [AState.set, AState.put]
    by_cases e1 : v = d
    · rw [if_pos e1, if_pos e1]
      subst e1
      simp only [RV, RV1, RVc]
      exact ⟨_, us, rfl, hlc, RIs.mono hevo.stb _ _ hus, hw, .inr ⟨b, off, cur, e', fz', rfl, by simp [Gh.ren, q2, slT, ren1], q3, f1, q5, f2, q7⟩⟩
    · rw [if_neg e1, if_neg e1]
      by_cases e2 : v = t
      · rw [if_pos e2]; simp [RV, RV1, RVc, RI]
      · rw [if_neg e2]
        exact RV.mono hevo.stb (fun p => hkeep _ (by simp; intro e3; exact absurd e3 e2)) _ _ (fun _ _ _ => rfl) (hR.env v)
  · exact h.elim
end
end Go.Ge
