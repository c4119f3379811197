/- Code; a function. -/
import Derived.Test.YtpdajkbfemcdlaaGeDrawn
set_option linter.unusedSimpArgs false
set_option linter.unusedVariables false
namespace Go.Ge
open Go.Proofs (Enters enters_of)

def ckCode (P : Program) (n : Nat) : Code → ACode → Bool
  | c, .kill _ a => ckCode P n c a
  | c, .prom _ a => ckCode P n c a
  | c, .thaw _ a => ckCode P n c a
  | c, .own _ _ _ a => ckCode P n c a
  | c, .grab _ a => ckCode P n c a
  | .skip, .skip => true
  | .region _ ops false, .region l => decide (l.length = ops.size) && ckRow P n ops (List.range ops.size) l
  | .region _ ops true, .drawn ix dn l => P.follows .mixedOrders && ckDraw ops ix dn l && ckRow P n ops ix l
  | .seq a b, .seq a' b' => ckCode P n a a' && ckCode P n b b'
  | .cond c a b, .cond c' a' b' => opn c c' && ckCode P n a a' && ckCode P n b b'
  | .block i a, .block j a' => i == j && ckCode P n a a'
  | .loop a, .loop a' => ckCode P n a a'
  | .exit i, .exit j => i == j
  | .ret, .ret => true
  | _, _ => false

section
variable {P : Program} {n : Nat}
/-- What holds at an exit, told of acts and worlds. -/
def conc (n : Nat) (g0 : Gh) (w0 : World) (Q : AExit → AState → Prop) (e : Exit) (a : Act) (w : World) : Prop :=
  match e with
  | .normal => ∃ S g, Q .normal S ∧ WF S ∧ Rel n S g a w ∧ Evo g0 w0 g w
  | .exit i => ∃ S g, Q (.exit i) S ∧ WF S ∧ Rel n S g a w ∧ Evo g0 w0 g w
  | .ret => ∃ S g, Q .ret S ∧ WF S ∧ Rel n S g a w ∧ Evo g0 w0 g w
  | _ => False
theorem Rel.kill {S : AState} {g : Gh} {a : Act} {w : World} (hR : Rel n S g a w) (s : Nat) : Rel n ((S.drop s).setBox s none) g a w := by
  refine ⟨hR.size, hR.defers, fun t => ?_, fun q ds hq => ?_, hR.heap⟩
  · have h := hR.env t
    simp only [AState.drop, AState.setBox]
    split
    · rename_i s' off hv
      rw [hv] at h
      by_cases e : s' = s
      · rw [if_pos e]; simp [RV, RV1, RVc, RI]
      · rw [if_neg e]; exact h
    · exact h
  · simp only [AState.drop, AState.setBox] at hq
    by_cases e : q = s
    · rw [if_pos e] at hq; cases hq
    · rw [if_neg e] at hq; exact hR.boxes q ds hq
theorem least {p : Nat → Prop} (h : ∃ m, p m) : ∃ m, p m ∧ ∀ k, p k → m ≤ k := by
  obtain ⟨m, hm⟩ := h
  induction m using Nat.strongRecOn with
  | _ m ih =>
    by_cases hk : ∃ k, k < m ∧ p k
    · obtain ⟨k, h1, h2⟩ := hk
      exact ih k h1 h2
    · refine ⟨m, hm, fun k h => ?_⟩
      rcases Nat.lt_or_ge k m with h' | h'
      · exact absurd ⟨k, h', h⟩ hk
      · exact h'
theorem aops_wf {C : CallS} (hC : CMono C) : ∀ (l : List AO) {S : AState} {K : AState → Prop}, (∀ o ∈ l, conOK o) → WF S → aops C l S K → aops C l S (fun S' => WF S' ∧ K S')
  | [], S, K, _, hS, h => ⟨hS, h⟩
  | o :: l, S, K, hc, hS, h => by
    rw [aops_cons] at h ⊢
    refine aop1_mono hC ?_ (aop1_wn hC (hc o (by simp)) hS h)
    rintro S1 ⟨k1, _, k3⟩
    exact aops_wf hC l (fun o ho => hc o (by simp [ho])) k1 k3
/-- A constant of the program is no box's address. -/
theorem opn_con {x : Operand} {v : AVal} (h : opn x (.c v) = true) : noBox v = true := by
  cases v <;> first | rfl | skip
  exfalso
  cases x <;> simp only [opn, Bool.false_eq_true] at h
  rename_i s off w
  cases w <;> simp [cv, cv1] at h
theorem ckO_con {P : Program} {n : Nat} {ops : Array Oper} {o : Oper} {ao : AO} (h : ckO P n ops o ao = true) : conOK ao := by
  intro z h1 v h2
  subst h2
  simp only [ckO, ckOp, Bool.and_eq_true, Bool.or_eq_true] at h
  have h3 := h.2
  rw [h1] at h3
  rcases h3 with (h3 | h3) | h3
  · exfalso
    unfold ckF at h3
    split at h3 <;> simp_all
  · unfold ckE at h3
    split at h3 <;> first | (rename_i e; cases e; exact opn_con h3) | simp_all
  · cases h3
theorem code_ok : ∀ (c' : ACode) (c : Code), ckCode P n c c' = true → ∀ {Q : AExit → AState → Prop} {S : AState} {g0 g : Gh} {a : Act} {w0 w : World}, WF S → Rel n S g a w → Evo g0 w0 g w → aw (ACalls P) c' Q S → c.wp P (conc n g0 w0 Q) a w
  | .kill s c', c, hck, Q, S, g0, g, a, w0, w, hW, hR, hE, h => by
    have hck' : ckCode P n c c' = true := by unfold ckCode at hck; exact hck
    exact code_ok c' c hck' (hW.kill s) (hR.kill s) hE h
  | .prom s c', c, hck, Q, S, g0, g, a, w0, w, hW, hR, hE, h => by
    have hck' : ckCode P n c c' = true := by unfold ckCode at hck; exact hck
    obtain ⟨g1, r1, r2⟩ := hR.promote s
    exact code_ok c' c hck' (hW.promote s) r1 (hE.trans r2) h
  | .thaw s c', c, hck, Q, S, g0, g, a, w0, w, hW, hR, hE, h => by
    have hck' : ckCode P n c c' = true := by unfold ckCode at hck; exact hck
    simp only [aw] at h
    split at h
    · rename_i sz cap xs hs
      obtain ⟨h1, h2, h3, h4⟩ := h
      obtain ⟨g1, r1, r2⟩ := hR.thaw hs h1 h2
      exact code_ok c' c hck' ((hW.heap _).set (live_noBox rfl)) r1 (hE.trans r2) h4
    · exact h.elim
  | .own s ag sz c', c, hck, Q, S, g0, g, a, w0, w, hW, hR, hE, h => by
    have hck' : ckCode P n c c' = true := by unfold ckCode at hck; exact hck
    simp only [aw] at h
    split at h
    · rename_i id off len cap hs
      split at h
      · rename_i h0
        subst h0
        exact code_ok c' c hck' (hW.set (live_noBox rfl)) (hR.own0 hs) hE h
      · rename_i h0
        split at h
        · rename_i cs hcs
          obtain ⟨h1, h2, h3, h4, h5, h6⟩ := h
          obtain ⟨g1, r1, r2⟩ := hR.own hs h0 hcs h1 h2 h3 h4 h5
          exact code_ok c' c hck' ((hW.heap _).set (live_noBox rfl)) r1 (hE.trans r2) h6
        · exact h.elim
    · exact h.elim
  | .grab s c', c, hck, Q, S, g0, g, a, w0, w, hW, hR, hE, h => by
    have hck' : ckCode P n c c' = true := by unfold ckCode at hck; exact hck
    simp only [aw] at h
    split at h
    · rename_i sz cap xs hs
      obtain ⟨g1, r1, r2⟩ := hR.toApp hs
      exact code_ok c' c hck' (hW.set (live_noBox rfl)) r1 (hE.trans r2) h
    · exact h.elim
  | .skip, c, hck, Q, S, g0, g, a, w0, w, hW, hR, hE, h => by
    cases c <;> simp only [ckCode, Bool.false_eq_true] at hck
    exact wp_skip ⟨S, g, h, hW, hR, hE⟩
  | .region l, c, hck, Q, S, g0, g, a, w0, w, hW, hR, hE, h => by
    cases c with
    | region id ops draw =>
      cases draw with
      | false =>
        simp only [ckCode, Bool.and_eq_true, decide_eq_true_eq] at hck
        obtain ⟨h2, h3⟩ := hck
        have hl := filterMap_look (ix := List.range ops.size) (l := l) List.nodup_range (by simp [h2])
        have hcon : ∀ o ∈ l, conOK o := by
          intro o ho
          rw [← hl] at ho
          obtain ⟨i, hi, hio⟩ := List.mem_filterMap.1 ho
          obtain ⟨_, ao, _, q2, q3⟩ := ckRow_ok h3 i (by simpa using hi)
          rw [hio] at q2; cases q2
          exact ckO_con q3
        refine wp_region (wpOps_ok (n := n) (l := look (List.range ops.size) l) _ l (fun i hi => ckRow_ok h3 i (by simpa using hi)) hl hR (aops_wf (CMono_ACalls P) l hcon hW h) ?_)
        rintro S' g' a' w' ⟨k1, k2⟩ h2 h3
        exact ⟨S', g', k2, k1, h2, hE.trans h3⟩
      | true => simp [ckCode] at hck
    | _ => simp [ckCode] at hck
  | .drawn ix dn l, c, hck, Q, S, g0, g, a, w0, w, hW, hR, hE, h => by
    cases c with
    | region id ops draw =>
      cases draw with
      | true =>
        simp only [ckCode, Bool.and_eq_true] at hck
        obtain ⟨⟨h1, h2⟩, h3⟩ := hck
        simp only [ckDraw, Bool.and_eq_true, decide_eq_true_eq, List.all_eq_true, List.mem_range, bne_iff_ne, beq_iff_eq] at h2
        obtain ⟨⟨⟨⟨⟨⟨d1, d2⟩, d3⟩, d4⟩, d5⟩, d6⟩, d7⟩ := h2
        have hl := filterMap_look (ix := ix) (l := l) d4 (by omega)
        have hix : ∀ j ∈ ix, j < ops.size := by
          intro j hj
          rcases Nat.lt_or_ge j ops.size with h' | h'
          · exact h'
          · exfalso
            -- too many
            have hsub : (List.range ops.size) ⊆ ix.erase j := by
              intro i hi
              have hi' : i < ops.size := by simpa using hi
              have hm : i ∈ ix := by simpa using d3 i hi'
              exact (List.mem_erase_of_ne (by omega)).2 hm
            have := List.Nodup.length_le_of_subset List.nodup_range hsub
            rw [List.length_erase_of_mem hj] at this
            simp at this
            have hpos : 0 < ix.length := List.length_pos_of_mem hj
            omega
        refine wp_region_any h1 ?_
        have hR' : Rel n S g a { w with drawn := w.drawn + 1 } := hR.fresh (Fresh.drew hR.heap.valid 1)
        refine draw_go (n := n) (lk := look ix l) (dn := dn) (K := fun S' => WF S' ∧ Q .normal S') (fun i hi => ?_) (fun i hi e he => ?_) (fun i hi x hx => ?_) ops.size ix (Array.replicate ops.size false) d1 (by simp) (fun j hj => ?_) d4 hix (pairs_ok d6) (fun d hd hl x hx => ?_) hW (by rw [hl]; exact h.1) hR' ?_ ?_
        · obtain ⟨o, ao, q1, q2, q3⟩ := ckRow_ok h3 i hi
          refine ⟨o, ao, q1, q2, q3, ?_⟩
          have hm : i ∈ ix := by simpa using d3 i hi
          have : ao ∈ ix.filterMap (look ix l) := List.mem_filterMap.2 ⟨i, hm, q2⟩
          rw [hl] at this
          exact d7 ao this
        · exact (d5 i hi).1 e he
        · have h5 := (d5 i hi).2
          refine upM_ok ?_
          rw [← h5, Nat.testBit_or, hx, Bool.true_or]
        · have hm : j ∈ ix := by simpa using d3 j hj
          simp [hj, hm]
        · simp [hd] at hl
        · rw [hl]
          have hcon : ∀ o ∈ l, conOK o := fun o ho => conB_ok (d7 o ho)
          exact aops_wf (CMono_ACalls P) l hcon hW h.2
        · rintro S' g' a' w' ⟨k1, k2⟩ h2 h3
          refine ⟨S', g', k2, k1, h2, hE.trans (Evo.trans (Fresh.drew hR.heap.valid 1).evo h3)⟩
      | false => simp [ckCode] at hck
    | _ => simp [ckCode] at hck
  | .seq x y, c, hck, Q, S, g0, g, a, w0, w, hW, hR, hE, h => by
    cases c <;> simp only [ckCode, Bool.and_eq_true, Bool.false_eq_true] at hck
    refine wp_seq (wp_mono (code_ok x _ hck.1 hW hR hE h) ?_)
    intro e a' w' hc
    cases e with
    | normal =>
      obtain ⟨S', g', h1, hw, h2, h3⟩ := hc
      exact code_ok y _ hck.2 hw h2 h3 h1
    | exit i => exact hc
    | ret => exact hc
    | goto _ => exact hc
    | panic _ => exact hc
    | outgrown => exact hc
  | .cond c' x y, c, hck, Q, S, g0, g, a, w0, w, hW, hR, hE, h => by
    cases c <;> simp only [ckCode, Bool.and_eq_true, Bool.false_eq_true] at hck
    obtain ⟨⟨h1, h2⟩, h3⟩ := hck
    simp only [aw] at h
    have hv := RT.of_opn hR h1
    split at h
    · rename_i t ht
      rw [ht] at hv
      refine wp_cond_split (RI.bool_inv hv) (fun e => ?_) (fun e => ?_)
      · exact code_ok x _ h2 hW hR hE (h.1 e)
      · exact code_ok y _ h3 hW hR hE (h.2 e)
    · exact h.elim
  | .block i x, c, hck, Q, S, g0, g, a, w0, w, hW, hR, hE, h => by
    cases c <;> simp only [ckCode, Bool.and_eq_true, Bool.false_eq_true, beq_iff_eq] at hck
    obtain ⟨rfl, h2⟩ := hck
    refine wp_block (wp_mono (code_ok x _ h2 hW hR hE h) ?_)
    intro e a' w' hc
    cases e with
    | exit j =>
      obtain ⟨S', g', h1, h2⟩ := hc
      simp only [Exit.inBlock]
      simp only [AExit.inBlock] at h1
      split
      · rename_i e; rw [if_pos e] at h1; exact ⟨S', g', h1, h2⟩
      · rename_i e; rw [if_neg e] at h1; exact ⟨S', g', h1, h2⟩
    | normal => exact hc
    | ret => exact hc
    | goto _ => exact hc
    | panic _ => exact hc
    | outgrown => exact hc
  | .loop x, c, hck, Q, S, g0, g, a, w0, w, hW, hR, hE, h => by
    cases c <;> simp only [ckCode, Bool.false_eq_true] at hck
    rename_i body
    obtain ⟨I, μ, hI, hround⟩ := h
    let p : Act → World → Nat → Prop := fun a w m => ∃ S g, I S ∧ WF S ∧ Rel n S g a w ∧ Evo g0 w0 g w ∧ μ S = m
    let ν : Act → World → Nat := fun a w => open Classical in if h : ∃ m, p a w m then Classical.choose (least h) else 0
    have hν : ∀ a w, (∃ m, p a w m) → p a w (ν a w) ∧ ∀ k, p a w k → ν a w ≤ k := by
      intro a w h
      have : ν a w = Classical.choose (least h) := by simp only [ν]; rw [dif_pos h]
      rw [this]; exact Classical.choose_spec (least h)
    refine wp_loop (fun a w => ∃ m, p a w m) ν ⟨_, S, g, hI, hW, hR, hE, rfl⟩ ?_
    intro a1 w1 hex
    obtain ⟨⟨S1, g1, hI1, hW1, hR1, hE1, hμ⟩, _⟩ := hν a1 w1 hex
    refine wp_mono (code_ok x body hck hW1 hR1 hE1 (hround S1 hI1)) ?_
    intro e a' w' hc
    cases e with
    | normal =>
      obtain ⟨S2, g2, ⟨h1, h2⟩, hw, h3, h4⟩ := hc
      have hp : p a' w' (μ S2) := ⟨S2, g2, h1, hw, h3, h4, rfl⟩
      refine ⟨⟨_, hp⟩, ?_⟩
      have := (hν a' w' ⟨_, hp⟩).2 _ hp
      omega
    | exit i => exact hc
    | ret => exact hc
    | goto _ => exact hc
    | panic _ => exact hc
    | outgrown => exact hc
  | .exit i, c, hck, Q, S, g0, g, a, w0, w, hW, hR, hE, h => by
    cases c <;> simp only [ckCode, Bool.false_eq_true, beq_iff_eq] at hck
    subst hck
    exact wp_exit ⟨S, g, h, hW, hR, hE⟩
  | .ret, c, hck, Q, S, g0, g, a, w0, w, hW, hR, hE, h => by
    cases c <;> simp only [ckCode, Bool.false_eq_true] at hck
    exact wp_ret ⟨S, g, h, hW, hR, hE⟩
end
end Go.Ge
