import Derived.Test.YtpdajkbfemcdlaaGeC
import GoSem.ClaimJoined
import Derived.WalkKit
import Derived.ProofKit
import Derived.OpenShut
import Derived.ChangeOld
import Derived.SizedLaws
import Derived.Carry
import Derived.Deep.CondSized
set_option linter.unusedSimpArgs false
set_option linter.unusedVariables false
namespace Go.Ge
open Go.Proofs (Enters enters_of)

def ckCode (P : Program) (n : Nat) : Code → ACode → Bool
  | c, .kill _ a => ckCode P n c a
  | c, .prom _ a => ckCode P n c a
  | c, .thaw _ a => ckCode P n c a
  | c, .own _ _ _ a => ckCode P n c a
  | c, .grab _ a => ckCode P n c a
  | .skip, .skip => true
  | .region _ ops false, .region l => decide (l.length = ops.size) && ckRow P n ops (List.range ops.size) l
  | .region _ ops true, .drawn ix dn l => P.follows .mixedOrders && ckDraw ops ix dn l && ckRow P n ops ix l
  | .seq a b, .seq a' b' => ckCode P n a a' && ckCode P n b b'
  | .cond c a b, .cond c' a' b' => opn c c' && ckCode P n a a' && ckCode P n b b'
  | .block i a, .block j a' => i == j && ckCode P n a a'
  | .loop a, .loop a' => ckCode P n a a'
  | .exit i, .exit j => i == j
  | .ret, .ret => true
  | _, .halt => true
  | _, _ => false

section
variable {P : Program} {n : Nat}
def conc (n : Nat) (g0 : Gh) (w0 : World) (Q : AExit → AState → Prop) (e : Exit) (a : Act) (w : World) : Prop :=
  match e with
  | .normal => ∃ S g, Q .normal S ∧ WF S ∧ Rel n S g a w ∧ Evo g0 w0 g w
  | .exit i => ∃ S g, Q (.exit i) S ∧ WF S ∧ Rel n S g a w ∧ Evo g0 w0 g w
  | .ret => ∃ S g, Q .ret S ∧ WF S ∧ Rel n S g a w ∧ Evo g0 w0 g w
  | _ => False
theorem Rel.kill {S : AState} {g : Gh} {a : Act} {w : World} (hR : Rel n S g a w) (s : Nat) : Rel n ((S.drop s).setBox s none) g a w := by
  refine ⟨hR.size, hR.defers, fun t => ?_, fun q ds hq => ?_, hR.heap⟩
  · have h := hR.env t
    simp only[AState.drop,AState.setBox]
    split
    · rename_i s' off hv
      rw [hv] at h
      by_cases e : s' = s
      · rw [if_pos e]; simp [RV, RV1, RVc, RI]
      · rw [if_neg e]; exact h
    · exact h
  · simp only[AState.drop,AState.setBox] at hq
    by_cases e : q = s
    · rw [if_pos e] at hq; cases hq
    · rw [if_neg e] at hq; exact hR.boxes q ds hq
theorem least {p : Nat → Prop} (h : ∃ m, p m) : ∃ m, p m ∧ ∀ k, p k → m ≤ k := by
  obtain ⟨m, hm⟩ := h
  induction m using Nat.strongRecOn with
  | _ m ih =>
    by_cases hk : ∃ k, k < m ∧ p k
    · obtain ⟨k, h1, h2⟩ := hk
      exact ih k h1 h2
    · refine ⟨m, hm, fun k h => ?_⟩
      rcases Nat.lt_or_ge k m with h' | h'
      · exact absurd ⟨k, h', h⟩ hk
      · exact h'
theorem aops_wf {C : CallS} (hC : CMono C) : ∀ (l : List AO) {S : AState} {K : AState → Prop}, (∀ o ∈ l, conOK o) → WF S → aops C l S K → aops C l S (fun S' => WF S' ∧ K S')
  | [], S, K, _, hS, h => ⟨hS, h⟩
  | o :: l, S, K, hc, hS, h => by
    rw [aops_cons] at h ⊢
    refine aop1_mono hC ?_ (aop1_wn hC (hc o (by simp)) hS h)
    rintro S1 ⟨k1, _, k3⟩
    exact aops_wf hC l (fun o ho => hc o (by simp [ho])) k1 k3
theorem opn_con {x : Operand} {v : AVal} (h : opn x (.c v) = true) : noBox v = true := by
  cases v <;> first | rfl | skip
  exfalso
  cases x <;> simp only[opn,Bool.false_eq_true] at h
  rename_i s off w
  cases w <;> simp [cv, cv1] at h
theorem ckO_con {P : Program} {n : Nat} {ops : Array Oper} {o : Oper} {ao : AO} (h : ckO P n ops o ao = true) : conOK ao := by
  intro z h1 v h2
  subst h2
  simp only[ckO,ckOp,Bool.and_eq_true,Bool.or_eq_true] at h
  have h3 := h.2
  rw [h1] at h3
  rcases h3 with (h3 | h3) | h3
  · exfalso
    unfold ckF at h3
    split at h3 <;> simp_all
  · unfold ckE at h3
    split at h3 <;> first | (rename_i e; cases e; exact opn_con h3) | simp_all
  · cases h3
theorem code_ok : ∀ (c' : ACode) (c : Code), ckCode P n c c' = true → ∀ {Q : AExit → AState → Prop} {S : AState} {g0 g : Gh} {a : Act} {w0 w : World}, WF S → Rel n S g a w → Evo g0 w0 g w → aw (ACalls P) c' Q S → c.wp P (conc n g0 w0 Q) a w
  | .kill s c', c, hck, Q, S, g0, g, a, w0, w, hW, hR, hE, h => by
    have hck' : ckCode P n c c' = true := by unfold ckCode at hck; exact hck
    exact code_ok c' c hck' (hW.kill s) (hR.kill s) hE h
  | .prom s c', c, hck, Q, S, g0, g, a, w0, w, hW, hR, hE, h => by
    have hck' : ckCode P n c c' = true := by unfold ckCode at hck; exact hck
    obtain ⟨g1, r1, r2⟩ := hR.promote s
    exact code_ok c' c hck' (hW.promote s) r1 (hE.trans r2) h
  | .thaw s c', c, hck, Q, S, g0, g, a, w0, w, hW, hR, hE, h => by
    have hck' : ckCode P n c c' = true := by unfold ckCode at hck; exact hck
    simp only[aw] at h
    split at h
    · rename_i sz cap xs hs
      obtain ⟨h1, h2, h3, h4⟩ := h
      obtain ⟨g1, r1, r2⟩ := hR.thaw hs h1 h2
      exact code_ok c' c hck' ((hW.heap _).set (live_noBox rfl)) r1 (hE.trans r2) h4
    · exact code_ok c' c hck' hW hR hE h
    · exact h.elim
  | .own s ag sz c', c, hck, Q, S, g0, g, a, w0, w, hW, hR, hE, h => by
    have hck' : ckCode P n c c' = true := by unfold ckCode at hck; exact hck
    simp only[aw] at h
    split at h
    · rename_i id off len cap hs
      split at h
      · rename_i h0
        subst h0
        exact code_ok c' c hck' (hW.set (live_noBox rfl)) (hR.own0 hs) hE h
      · rename_i h0
        split at h
        · rename_i cs hcs
          obtain ⟨h1, h2, h3, h4, h5, h6⟩ := h
          obtain ⟨g1, r1, r2⟩ := hR.own hs h0 hcs h1 h2 h3 h4 h5
          exact code_ok c' c hck' ((hW.heap _).set (live_noBox rfl)) r1 (hE.trans r2) h6
        · exact h.elim
    · exact code_ok c' c hck' hW hR hE h
    · exact h.elim
  | .grab s c', c, hck, Q, S, g0, g, a, w0, w, hW, hR, hE, h => by
    have hck' : ckCode P n c c' = true := by unfold ckCode at hck; exact hck
    simp only[aw] at h
    split at h
    · rename_i sz cap xs hs
      obtain ⟨g1, r1, r2⟩ := hR.toApp hs
      exact code_ok c' c hck' (hW.set (live_noBox rfl)) r1 (hE.trans r2) h
    · exact code_ok c' c hck' hW hR hE h
    · exact h.elim
  | .halt, c, hck, Q, S, g0, g, a, w0, w, hW, hR, hE, h => h.elim
  | .skip, c, hck, Q, S, g0, g, a, w0, w, hW, hR, hE, h => by
    cases c <;> simp only[ckCode,Bool.false_eq_true] at hck
    exact wp_skip ⟨S, g, h, hW, hR, hE⟩
  | .region l, c, hck, Q, S, g0, g, a, w0, w, hW, hR, hE, h => by
    cases c with
    | region id ops draw =>
      cases draw with
      | false =>
        simp only[ckCode,Bool.and_eq_true,decide_eq_true_eq] at hck
        obtain ⟨h2, h3⟩ := hck
        have hl := filterMap_look (ix := List.range ops.size) (l := l) List.nodup_range (by simp [h2])
        have hcon : ∀ o ∈ l, conOK o := by
          intro o ho
          rw [← hl] at ho
          obtain ⟨i, hi, hio⟩ := List.mem_filterMap.1 ho
          obtain ⟨_, ao, _, q2, q3⟩ := ckRow_ok h3 i (by simpa using hi)
          rw [hio] at q2; cases q2
          exact ckO_con q3
        refine wp_region (wpOps_ok (n := n) (l := look (List.range ops.size) l) _ l (fun i hi => ckRow_ok h3 i (by simpa using hi)) hl hR (aops_wf (CMono_ACalls P) l hcon hW h) ?_)
        rintro S' g' a' w' ⟨k1, k2⟩ h2 h3
        exact ⟨S', g', k2, k1, h2, hE.trans h3⟩
      | true => simp [ckCode] at hck
    | _ => simp [ckCode] at hck
  | .drawn ix dn l, c, hck, Q, S, g0, g, a, w0, w, hW, hR, hE, h => by
    cases c with
    | region id ops draw =>
      cases draw with
      | true =>
        simp only[ckCode,Bool.and_eq_true] at hck
        obtain ⟨⟨h1, h2⟩, h3⟩ := hck
        simp only[ckDraw,Bool.and_eq_true,decide_eq_true_eq,List.all_eq_true,List.mem_range,bne_iff_ne,beq_iff_eq] at h2
        obtain ⟨⟨⟨⟨⟨⟨d1, d2⟩, d3⟩, d4⟩, d5⟩, d6⟩, d7⟩ := h2
        have hl := filterMap_look (ix := ix) (l := l) d4 (by omega)
        have hix : ∀ j ∈ ix, j < ops.size := by
          intro j hj
          rcases Nat.lt_or_ge j ops.size with h' | h'
          · exact h'
          · exfalso
            -- too many
            have hsub : (List.range ops.size) ⊆ ix.erase j := by
              intro i hi
              have hi' : i < ops.size := by simpa using hi
              have hm : i ∈ ix := by simpa using d3 i hi'
              exact (List.mem_erase_of_ne (by omega)).2 hm
            have := List.Nodup.length_le_of_subset List.nodup_range hsub
            rw [List.length_erase_of_mem hj] at this
            simp at this
            have hpos : 0 < ix.length := List.length_pos_of_mem hj
            omega
        refine wp_region_any h1 ?_
        have hR' : Rel n S g a { w with drawn := w.drawn + 1 } := hR.fresh (Fresh.drew hR.heap.valid 1)
        refine draw_go (n := n) (lk := look ix l) (dn := dn) (K := fun S' => WF S' ∧ Q .normal S') (fun i hi => ?_) (fun i hi e he => ?_) (fun i hi x hx => ?_) ops.size ix (Array.replicate ops.size false) d1 (by simp) (fun j hj => ?_) d4 hix (pairs_ok d6) (fun d hd hl x hx => ?_) hW (by rw [hl]; exact h.1) hR' ?_ ?_
        · obtain ⟨o, ao, q1, q2, q3⟩ := ckRow_ok h3 i hi
          refine ⟨o, ao, q1, q2, q3, ?_⟩
          have hm : i ∈ ix := by simpa using d3 i hi
          have : ao ∈ ix.filterMap (look ix l) := List.mem_filterMap.2 ⟨i, hm, q2⟩
          rw [hl] at this
          exact d7 ao this
        · exact (d5 i hi).1 e he
        · have h5 := (d5 i hi).2
          refine upM_ok ?_
          rw [← h5, Nat.testBit_or, hx, Bool.true_or]
        · have hm : j ∈ ix := by simpa using d3 j hj
          simp [hj, hm]
        · simp [hd] at hl
        · rw [hl]
          have hcon : ∀ o ∈ l, conOK o := fun o ho => conB_ok (d7 o ho)
          exact aops_wf (CMono_ACalls P) l hcon hW h.2
        · rintro S' g' a' w' ⟨k1, k2⟩ h2 h3
          refine ⟨S', g', k2, k1, h2, hE.trans (Evo.trans (Fresh.drew hR.heap.valid 1).evo h3)⟩
      | false => simp [ckCode] at hck
    | _ => simp [ckCode] at hck
  | .seq x y, c, hck, Q, S, g0, g, a, w0, w, hW, hR, hE, h => by
    cases c <;> simp only[ckCode,Bool.and_eq_true,Bool.false_eq_true] at hck
    refine wp_seq (wp_mono (code_ok x _ hck.1 hW hR hE h) ?_)
    intro e a' w' hc
    cases e with
    | normal =>
      obtain ⟨S', g', h1, hw, h2, h3⟩ := hc
      exact code_ok y _ hck.2 hw h2 h3 h1
    | exit i => exact hc
    | ret => exact hc
    | goto _ => exact hc
    | panic _ => exact hc
    | outgrown => exact hc
  | .cond c' x y, c, hck, Q, S, g0, g, a, w0, w, hW, hR, hE, h => by
    cases c <;> simp only[ckCode,Bool.and_eq_true,Bool.false_eq_true] at hck
    obtain ⟨⟨h1, h2⟩, h3⟩ := hck
    simp only[aw] at h
    have hv := RT.of_opn hR h1
    split at h
    · rename_i t ht
      rw [ht] at hv
      refine wp_cond_split (RI.bool_inv hv) (fun e => ?_) (fun e => ?_)
      · exact code_ok x _ h2 hW hR hE (h.1 e)
      · exact code_ok y _ h3 hW hR hE (h.2 e)
    · exact h.elim
  | .block i x, c, hck, Q, S, g0, g, a, w0, w, hW, hR, hE, h => by
    cases c <;> simp only[ckCode,Bool.and_eq_true,Bool.false_eq_true,beq_iff_eq] at hck
    obtain ⟨rfl, h2⟩ := hck
    refine wp_block (wp_mono (code_ok x _ h2 hW hR hE h) ?_)
    intro e a' w' hc
    cases e with
    | exit j =>
      obtain ⟨S', g', h1, h2⟩ := hc
      simp only[Exit.inBlock]
      simp only[AExit.inBlock] at h1
      split
      · rename_i e; rw [if_pos e] at h1; exact ⟨S', g', h1, h2⟩
      · rename_i e; rw [if_neg e] at h1; exact ⟨S', g', h1, h2⟩
    | normal => exact hc
    | ret => exact hc
    | goto _ => exact hc
    | panic _ => exact hc
    | outgrown => exact hc
  | .loop x, c, hck, Q, S, g0, g, a, w0, w, hW, hR, hE, h => by
    cases c <;> simp only[ckCode,Bool.false_eq_true] at hck
    rename_i body
    obtain ⟨I, μ, hI, hround⟩ := h
    let p : Act → World → Nat → Prop := fun a w m => ∃ S g, I S ∧ WF S ∧ Rel n S g a w ∧ Evo g0 w0 g w ∧ μ S = m
    let ν : Act → World → Nat := fun a w => open Classical in if h : ∃ m, p a w m then Classical.choose (least h) else 0
    have hν : ∀ a w, (∃ m, p a w m) → p a w (ν a w) ∧ ∀ k, p a w k → ν a w ≤ k := by
      intro a w h
      have : ν a w = Classical.choose (least h) := by simp only[ν]; rw [dif_pos h]
      rw [this]; exact Classical.choose_spec (least h)
    refine wp_loop (fun a w => ∃ m, p a w m) ν ⟨_, S, g, hI, hW, hR, hE, rfl⟩ ?_
    intro a1 w1 hex
    obtain ⟨⟨S1, g1, hI1, hW1, hR1, hE1, hμ⟩, _⟩ := hν a1 w1 hex
    refine wp_mono (code_ok x body hck hW1 hR1 hE1 (hround S1 hI1)) ?_
    intro e a' w' hc
    cases e with
    | normal =>
      obtain ⟨S2, g2, ⟨h1, h2⟩, hw, h3, h4⟩ := hc
      have hp : p a' w' (μ S2) := ⟨S2, g2, h1, hw, h3, h4, rfl⟩
      refine ⟨⟨_, hp⟩, ?_⟩
      have := (hν a' w' ⟨_, hp⟩).2 _ hp
      omega
    | exit i => exact hc
    | ret => exact hc
    | goto _ => exact hc
    | panic _ => exact hc
    | outgrown => exact hc
  | .exit i, c, hck, Q, S, g0, g, a, w0, w, hW, hR, hE, h => by
    cases c <;> simp only[ckCode,Bool.false_eq_true,beq_iff_eq] at hck
    subst hck
    exact wp_exit ⟨S, g, h, hW, hR, hE⟩
  | .ret, c, hck, Q, S, g0, g, a, w0, w, hW, hR, hE, h => by
    cases c <;> simp only[ckCode,Bool.false_eq_true] at hck
    exact wp_ret ⟨S, g, h, hW, hR, hE⟩
end
end Go.Ge
set_option linter.unusedSimpArgs false
set_option linter.unusedVariables false
namespace Go.Ge
open Go.Proofs (Enters enters_of)
section
variable {P : Program} {n : Nat} {S : AState} {g : Gh} {a : Act} {w : World}

def ckRes (P : Program) : List ResultVar → List ARes → Bool
  | [], [] => true
  | .tmp t :: rs, .t t' :: qs => t == t' && ckRes P rs qs
  | .cell p ty :: rs, .c p' ag sz :: qs => p == p' && (P.underlying ty).isSome && decide (aggT P ty = ag) && decide (szT P ty = some sz) && (ag || decide (sz = 1)) && ckRes P rs qs
  | _, _ => false
def readRes (tmps : Array Value) : ResultVar → Sem Value
  | .tmp t => pure (tmps.getD t undef)
  | .cell a t => do loadVar t (← asAddr (tmps.getD a undef))
theorem results_run {fn : Func} {us : List Value} (h : fn.results.toList.length = us.length) (hr : ∀ (i : Nat) (r : ResultVar) (u : Value), fn.results.toList[i]? = some r → us[i]? = some u → (readRes a.tmps r).run P w = .ok u w) :
    (results fn a.tmps).run P w = .ok (if us.length = 1 then us.headD undef else .tuple us.toArray) w := by
  have key : ∀ (rs : List ResultVar) (us : List Value), rs.length = us.length → (∀ (i : Nat) (r : ResultVar) (u : Value), rs[i]? = some r → us[i]? = some u → (readRes a.tmps r).run P w = .ok u w) → (rs.mapM (readRes a.tmps)).run P w = .ok us w := by
    intro rs
    induction rs with
    | nil => intro us h _; cases us <;> simp_all
    | cons r rs ih =>
      intro us h hr
      cases us with
      | nil => simp at h
      | cons u us =>
        have h1 := hr 0 r u (by simp) (by simp)
        have h2 := ih us (by simpa using h) fun i r u h3 h4 => hr (i + 1) r u (by simpa using h3) (by simpa using h4)
        simp [List.mapM_cons, h1, h2]
  have hm := key _ us h hr
  have e : results fn a.tmps = (do
      let vs ← fn.results.mapM (readRes a.tmps)
      pure (if h : vs.size = 1 then vs[0] else .tuple vs)) := by
    unfold results
    congr 1
  rw [e]
  have e2 : fn.results = fn.results.toList.toArray := by simp
  rw [e2, List.mapM_toArray]
  simp only[Sem.run_bind,Sem.run_map,hm]
  cases us with
  | nil => simp
  | cons u us => cases us <;> simp

def retO (pre : Nat → List Nat) : Nat → List ARes → Ow → Ow
  | _, [], o => o
  | i, .t t :: rs, o => match o with
    | .slot t' p => if t' = t then .ret (pre i ++ p) else retO pre (i + 1) rs (.slot t' p)
    | o => retO pre (i + 1) rs o
  | i, .c b _ _ :: rs, o => match o with
    | .boxc s p => if s = b then .ret (pre i ++ p) else retO pre (i + 1) rs (.boxc s p)
    | o => retO pre (i + 1) rs o
theorem retO_id (pre : Nat → List Nat) {o : Ow} (h1 : ∀ t p, o ≠ .slot t p) (h2 : ∀ s p, o ≠ .boxc s p) : ∀ (rs : List ARes) (i : Nat), retO pre i rs o = o
  | [], _ => rfl
  | .t t :: rs, i => by
    cases o <;> first | exact retO_id pre h1 h2 rs (i + 1) | exact absurd rfl (h1 _ _)
  | .c b _ _ :: rs, i => by
    cases o <;> first | exact retO_id pre h1 h2 rs (i + 1) | exact absurd rfl (h2 _ _)
theorem retO_slot (pre : Nat → List Nat) {t : Nat} (p : List Nat) : ∀ (rs : List ARes) (i j : Nat), (rs.map ARes.slot).Nodup → rs[j]? = some (.t t) → retO pre i rs (.slot t p) = .ret (pre (i + j) ++ p)
  | [], _, _, _, h => by simp at h
  | r :: rs, i, j, hn, h => by
    simp only[List.map_cons,List.nodup_cons] at hn
    cases j with
    | zero => simp at h; subst h; simp [retO]
    | succ j =>
      have hj : rs[j]? = some (.t t) := by simpa using h
      have hne : r.slot ≠ t := by
        intro e; apply hn.1
        rw [e]
        exact List.mem_map.2 ⟨.t t, List.mem_of_getElem? hj, rfl⟩
      have ih := retO_slot pre p rs (i + 1) j hn.2 hj
      cases r with
      | t t' =>
        simp only[ARes.slot] at hne
        simp only[retO]
        rw [if_neg (fun e => hne e.symm), ih]
        congr 3; omega
      | c b ag sz =>
        simp only[retO]
        rw [ih]; congr 3; omega
theorem retO_boxc (pre : Nat → List Nat) {b sz : Nat} {ag : Bool} (p : List Nat) : ∀ (rs : List ARes) (i j : Nat), (rs.map ARes.slot).Nodup → rs[j]? = some (.c b ag sz) → retO pre i rs (.boxc b p) = .ret (pre (i + j) ++ p)
  | [], _, _, _, h => by simp at h
  | r :: rs, i, j, hn, h => by
    simp only[List.map_cons,List.nodup_cons] at hn
    cases j with
    | zero => simp at h; subst h; simp [retO]
    | succ j =>
      have hj : rs[j]? = some (.c b ag sz) := by simpa using h
      have hne : r.slot ≠ b := by
        intro e; apply hn.1
        rw [e]
        exact List.mem_map.2 ⟨.c b ag sz, List.mem_of_getElem? hj, rfl⟩
      have ih := retO_boxc pre p rs (i + 1) j hn.2 hj
      cases r with
      | t t' =>
        simp only[retO]
        rw [ih]; congr 3; omega
      | c b' ag' sz' =>
        simp only[ARes.slot] at hne
        simp only[retO]
        rw [if_neg (fun e => hne e.symm), ih]
        congr 3; omega

theorem RV.plain {own : List Nat → Ow} {x : AVal} {v : Value} (hx : plainV x = true) : RV g w own x v ↔ RV1 g w own x v := by
  cases x <;> first | rfl | simp [plainV] at hx
theorem mem_load (hR : Rel n S g a w) {ty : TypeId} {ag : Bool} {sz : Nat} {p : AVal} {v : Value} (hp : RT g w p v) (hu : (P.underlying ty).isSome = true) (ht : aggT P ty = ag) (hi : szT P ty = some sz) (h1 : ag = false → sz = 1)
    (hc : (memV S.boxes S.heap ag sz p).c) : ∃ b off u, v = .pointer (some ⟨b, off, none⟩) ∧ (loadVar ty ⟨b, off, none⟩).run P w = .ok u w ∧ RT g w (memV S.boxes S.heap ag sz p).v u := by
  obtain ⟨b, off, us, hv, hl, hval⟩ := mem_lies hR hp hc
  refine ⟨b, off, ?_⟩
  cases ag with
  | true =>
    simp only[if_true] at hval
    obtain ⟨cs, hsz, hcs, he⟩ := hval
    have hrun := run_loadVar' (P := P) (w := w) (t := ty) (us := us.take sz) (b := b) (off := off) hu (by rw [← szT, hi]; simp [hsz]) (fun j u hj => hl j u (by
      rcases Nat.lt_or_ge j sz with h | h
      · rwa [List.getElem?_take_of_lt h] at hj
      · simp [List.getElem?_take, Nat.not_lt.2 h] at hj))
    rw [ht] at hrun
    simp only[if_true] at hrun
    refine ⟨_, hv, hrun, ?_⟩
    rw [he]; simp only[RT,RI]; exact ⟨_, rfl, by simpa using hcs.take sz⟩
  | false =>
    simp only[Bool.false_eq_true,if_false] at hval
    obtain ⟨u, hu1, hu2, hu3⟩ := hval
    cases us with
    | nil => simp at hu1
    | cons u' us =>
      simp at hu1; subst hu1
      have hrun := run_loadVar' (P := P) (w := w) (t := ty) (us := [u']) (b := b) (off := off) hu (by rw [← szT, hi, h1 rfl]; rfl) (fun j u hj => by
        cases j with
        | zero => exact hl 0 u (by simpa using hj)
        | succ j => simp at hj)
      rw [ht] at hrun
      simp only[Bool.false_eq_true,if_false,List.head?_cons] at hrun
      exact ⟨u', hv, hrun, RT.of_RI hu2⟩

theorem RV1.of_plain {g' : Gh} {w' : World} {own : List Nat → Ow} {x : AVal} {v : Value} (hs : Stb g w g' w') (hf : flv x = true) (hx : plainV x = true) (h : RT g w x v) : RV1 g' w' own x v := by
  refine (RV.plain hx).1 (RV.of_RT hf (RT.of_RI (RI.mono hs _ _ (RI.of_RT ?_ h))))
  cases x <;> first | rfl | simp [plainV] at hx
theorem res_one (hR : Rel n S g a w) {r : ResultVar} {q : ARes} (hck : ckRes P [r] [q] = true) (hc : (resV S q).c) {g' : Gh} {own : List Nat → Ow} (hs : Stb g w g' w) (h1 : ∀ t, q = .t t → ∀ p, Keep g w g' w (.slot t p) (own p))
    (h2 : ∀ b ag sz, q = .c b ag sz → ∀ p, Keep g w g' w (.boxc b p) (own p)) : ∃ u, (readRes a.tmps r).run P w = .ok u w ∧ RV1 g' w own (resV S q).v u ∧ plainV (resV S q).v = true := by
  cases q with
  | t t =>
    cases r <;> simp only[ckRes,Bool.and_eq_true,beq_iff_eq,Bool.false_eq_true] at hck
    obtain ⟨rfl, _⟩ := hck
    simp only[resV] at hc ⊢
    exact ⟨_, by simp [readRes], RV1.mono hs (h1 _ rfl) _ _ ((RV.plain hc).1 (hR.env _)), hc⟩
  | c b ag sz =>
    cases r <;> simp only[ckRes,Bool.and_eq_true,beq_iff_eq,decide_eq_true_eq,Bool.or_eq_true,Bool.false_eq_true] at hck
    rename_i p ty
    obtain ⟨⟨⟨⟨⟨rfl, k1⟩, k2⟩, k3⟩, k4⟩, _⟩ := hck
    simp only[resV] at hc ⊢
    split at hc
    · rename_i s hb
      split at hc
      · rename_i cs hcs
        obtain ⟨us, e, fz, b1, b2, b3, b4, b5⟩ := hR.boxes s cs hcs
        have hv := hR.env p
        rw [hb] at hv
        simp only[RV] at hv
        have hl := b5.length
        have hrun : us.toList.length = sz → _ := fun e1 => run_loadVar' (P := P) (w := w) (t := ty) (us := us.toList) (b := g.ib s) (off := 0) k1 (by rw [← szT, k3, e1]) (fun j u hj => by rw [cell_of_block b1]; simpa using hj)
        cases ag with
        | true =>
          simp only[if_true] at hc ⊢
          obtain ⟨rfl, hsz⟩ := hc
          refine ⟨.agg us, ?_, ?_, rfl⟩
          · have := hrun (by omega)
            rw [k2] at this
            simp only[if_true] at this
            simp [readRes, hv, asAddr, this]
          · simp only[RV1]
            exact ⟨us, rfl, RVs.mono hs _ _ _ (fun j => h2 _ _ _ rfl [j]) b5⟩
        | false =>
          simp only[Bool.false_eq_true,if_false] at hc ⊢
          obtain ⟨rfl, hsz, hst⟩ := hc
          cases cs with
          | nil => simp at hsz
          | cons c cs =>
            obtain rfl : cs = [] := by simpa using hsz
            have k4 : sz = 1 := k4.resolve_left (by simp)
            obtain ⟨u, hu1, hu2⟩ := b5.get 0 c (by simp)
            refine ⟨u, ?_, ?_, ?_⟩
            · have := hrun (by simp at hl ⊢; omega)
              rw [k2] at this
              simp only[Bool.false_eq_true,if_false,List.head?_eq_getElem?,hu1] at this
              simp [readRes, hv, asAddr, this]
            · simp only[List.headD_cons] at hst ⊢
              exact RV1.of_plain hs (flv_rdc _) hst (RT.of_RI (RI_rdc hu2))
            · exact hst
      · exact hc.elim
    · rename_i id off hb
      have hv := hR.env p
      rw [hb] at hv
      have hv : RT g w (.hp id off) (a.tmps.getD p undef) := by simpa [RV, RV1, RVc, RT] using hv
      obtain ⟨b', off', u, q1, q2, q3⟩ := mem_load hR hv k1 k2 k3 (fun e => k4.resolve_left (by simp [e])) hc.1
      refine ⟨u, by simp [readRes, q1, asAddr, q2], ?_, hc.2⟩
      exact RV1.of_plain hs (mem_fl _ _ _ _ _) hc.2 q3
    · exact hc.elim
theorem ckRes_cons {r : ResultVar} {rs : List ResultVar} {q : ARes} {qs : List ARes} (h : ckRes P (r :: rs) (q :: qs) = true) : ckRes P [r] [q] = true ∧ ckRes P rs qs = true := by
  cases r <;> cases q <;> simp only[ckRes,Bool.and_eq_true,Bool.false_eq_true] at h ⊢
  · exact ⟨⟨h.1, trivial⟩, h.2⟩
  · exact ⟨⟨h.1, trivial⟩, h.2⟩
theorem ckRes_length : ∀ {rs : List ResultVar} {qs : List ARes}, ckRes P rs qs = true → rs.length = qs.length
  | [], [], _ => rfl
  | r :: rs, q :: qs, h => by simp [ckRes_length (ckRes_cons h).2]
  | [], _ :: _, h => by simp [ckRes] at h
  | r :: _, [], h => by cases r <;> simp [ckRes] at h
theorem ress_ok (hR : Rel n S g a w) {g' : Gh} (hs : Stb g w g' w) : ∀ (rs : List ResultVar) (qs : List ARes) (k : Nat), ckRes P rs qs = true → (∀ q ∈ qs, (resV S q).c) →
    (∀ j t, qs[j]? = some (.t t) → ∀ p, Keep g w g' w (.slot t p) (.ret ((k + j) :: p))) → (∀ j b ag sz, qs[j]? = some (.c b ag sz) → ∀ p, Keep g w g' w (.boxc b p) (.ret ((k + j) :: p))) →
    ∃ us : List Value, rs.length = us.length ∧ (∀ (i : Nat) (r : ResultVar) (u : Value), rs[i]? = some r → us[i]? = some u → (readRes a.tmps r).run P w = .ok u w) ∧ RVt g' w Ow.ret k (qs.map fun q => (resV S q).v) us
  | [], [], k, _, _, _, _ => ⟨[], rfl, by simp, by simp [RVt]⟩
  | r :: rs, q :: qs, k, hck, hc, h1, h2 => by
    obtain ⟨c1, c2⟩ := ckRes_cons hck
    obtain ⟨u, u1, u2, _⟩ := res_one hR c1 (hc q (by simp)) hs (own := fun p => .ret (k :: p)) (fun t e p => by simpa using h1 0 t (by simp [e]) p) (fun b ag sz e p => by simpa using h2 0 b ag sz (by simp [e]) p)
    obtain ⟨us, v1, v2, v3⟩ := ress_ok hR hs rs qs (k + 1) c2 (fun q hq => hc q (by simp [hq])) (fun j t hj p => by
      have := h1 (j + 1) t (by simpa using hj) p
      rwa [show k + (j + 1) = k + 1 + j by omega] at this) (fun j b ag sz hj p => by
      have := h2 (j + 1) b ag sz (by simpa using hj) p
      rwa [show k + (j + 1) = k + 1 + j by omega] at this)
    refine ⟨u :: us, by simp [v1], fun i r' u' hi hu => ?_, ?_⟩
    · cases i with
      | zero => simp at hi hu; subst hi hu; exact u1
      | succ i => exact v2 i r' u' (by simpa using hi) (by simpa using hu)
    · simp only[List.map_cons,RVt]
      exact ⟨u, us, rfl, u2, v3⟩
  | [], _ :: _, _, h, _, _, _ => by simp [ckRes] at h
  | r :: _, [], _, h, _, _, _ => by cases r <;> simp [ckRes] at h

def ckFun (P : Program) (fn : Func) (c' : ACode) (rs : List ARes) : Bool :=
  !(fn.name == "runtime.NumGoroutine") && (match fn.body with | some c => ckCode P fn.ntmps c c' | none => false) && ckRes P fn.results.toList rs && decide ((rs.map ARes.slot).Nodup)
theorem start_ok {fn : Func} {vs : List AVal} {us : Array Value} {h : List HObj} (hus : RIs g w vs us.toList) (hfl : ∀ v ∈ vs, flv v = true) (hh : RHeap g w h) (hlen : vs.length ≤ fn.ntmps) :
    Rel fn.ntmps (.start vs h) g { tmps := us ++ Array.replicate (fn.ntmps - us.size) undef, defers := [] } w := by
  have hl := hus.length
  have hsz : us.size = vs.length := by simpa using hl
  refine ⟨by simp; omega, rfl, fun t => ?_, fun s cs hs => (by cases hs), hh⟩
  simp only[AState.start]
  rcases Nat.lt_or_ge t vs.length with h' | h'
  · have e : vs.getD t .junk = vs[t] := by simp [List.getD_eq_getElem?_getD, h']
    obtain ⟨u, hu1, hu2⟩ := hus.get t vs[t] (by simp [h'])
    have e2 : (us ++ Array.replicate (fn.ntmps - us.size) undef).getD t undef = u := by
      rw [Array.getD_eq_getD_getElem?, Array.getElem?_append_left (by omega)]
      have : us[t]? = some u := by simpa using hu1
      rw [this]; rfl
    rw [e]
    simp only[e2]
    exact RV.of_RT (hfl _ (List.getElem_mem _)) (RT.of_RI hu2)
  · have e : vs.getD t .junk = .junk := by simp [List.getD_eq_getElem?_getD, h']
    rw [e]; simp [RV, RV1, RVc, RI]
theorem ACalls.of_aw {f : FuncId} {fn : Func} (hf : P.funcs[f]? = some fn) {c' : ACode} {rs : List ARes} (hck : ckFun P fn c' rs = true) {vs : List AVal} {h : List HObj} {Q : AVal → List HObj → Prop} (hlen : vs.length ≤ fn.ntmps)
    (haw : aw (ACalls P) c' (retQ rs Q) (.start vs h)) : ACalls P f vs h Q := by
  simp only[ckFun,Bool.and_eq_true,decide_eq_true_eq,Bool.not_eq_true'] at hck
  obtain ⟨⟨⟨c1, c2⟩, c3⟩, c4⟩ := hck
  split at c2
  case h_2 => cases c2
  rename_i c hb
  refine ⟨enters_of hf c1 hb, fun g w us hus hfl hh => ?_⟩
  refine calls_of_wp hf hb (wp_mono (code_ok c' c c2 (fun t s off e => by
      simp only[AState.start] at e
      rcases Nat.lt_or_ge t vs.length with h' | h'
      · have e1 : vs.getD t .junk = vs[t] := by simp [List.getD_eq_getElem?_getD, h']
        obtain ⟨u, _, hu⟩ := hus.get t vs[t] (by simp [h'])
        rw [e1] at e; rw [e] at hu; simp [RI] at hu
      · have e1 : vs.getD t .junk = .junk := by simp [List.getD_eq_getElem?_getD, h']
        rw [e1] at e; cases e) (start_ok hus hfl hh hlen) (.refl g w) haw) ?_)
  intro e a' w' hc
  have key : ∀ S g', (ress S rs).c ∧ Q (ress S rs).v S.heap → Rel fn.ntmps S g' a' w' → Evo g w g' w' → a'.defers = [] ∧ ∃ v, (results fn a'.tmps).run P w' = .ok v w' ∧
      ∃ v', Ending.returned v = .returned v' ∧ ∃ r h' g2, Q r h' ∧ noBox r = true ∧ RV g2 w' .ret r v' ∧ RHeap g2 w' h' ∧ Evo g w g2 w' := by
    rintro S g' ⟨hc1, hc2⟩ hR hE
    refine ⟨hR.defers, ?_⟩
    have hl := ckRes_length c3
    have heap : ∀ pre, RHeap (g'.ren (retO pre 0 rs)) w' S.heap := fun pre =>
      ⟨hR.heap.nh, fun id ob hob => RObj.mono Stb.ren (by rw [hR.heap.nh]; exact (List.getElem?_eq_some_iff.1 hob).1) (Keep.ren (retO_id pre (by simp) (by simp) rs 0)) (fun p => Keep.ren (retO_id pre (by simp) (by simp) rs 0)) (hR.heap.obj id ob hob),
        fun b hb => by simp only[Gh.ren]; rw [hR.heap.valid b hb]; exact retO_id pre (by simp) (by simp) rs 0⟩
    have evo : ∀ pre, Evo g w (g'.ren (retO pre 0 rs)) w' := fun pre => hE.trans (Evo.ren (retO_id pre (by simp) (by simp) rs 0) (retO_id pre (by simp) (by simp) rs 0))
    by_cases h1 : ∃ q, rs = [q]
    · obtain ⟨q, rfl⟩ := h1
      obtain ⟨r, hr⟩ : ∃ r, fn.results.toList = [r] := by
        match hq : fn.results.toList with
        | [r] => exact ⟨r, rfl⟩
        | [] => rw [hq] at hl; simp at hl
        | _ :: _ :: _ => rw [hq] at hl; simp at hl
      rw [hr] at c3
      obtain ⟨u, u1, u2, u3⟩ := res_one hR c3 hc1 (Stb.ren (ρ := retO (fun _ => []) 0 [q])) (own := .ret) (fun t e p => Keep.ren (by subst e; simpa using retO_slot (fun _ => []) p [.t t] 0 0 c4 rfl))
        (fun b ag sz e p => Keep.ren (by subst e; simpa using retO_boxc (fun _ => []) p [.c b ag sz] 0 0 c4 rfl))
      have hrun := results_run (P := P) (a := a') (w := w') (fn := fn) (us := [u]) (by rw [hr]; rfl) (fun i r' u' hi hu => by
        rw [hr] at hi
        cases i with
        | zero => simp at hi hu; subst hi hu; exact u1
        | succ i => simp at hi)
      simp only[List.length_singleton,if_true,List.headD_cons] at hrun
      refine ⟨u, hrun, u, rfl, _, S.heap, _, hc2, ?_, (RV.plain u3).2 u2, heap (fun _ => []), evo _⟩
      simp only[ress]
      cases hv : (resV S q).v <;> first | rfl | (rw [hv] at u3; simp [plainV] at u3)
    · have hress : ress S rs = ⟨∀ r ∈ rs, (resV S r).c, .tup (rs.map fun r => (resV S r).v)⟩ := by
        unfold ress; split
        · exact absurd ⟨_, rfl⟩ h1
        · rfl
      rw [hress] at hc1 hc2
      obtain ⟨us, v1, v2, v3⟩ := ress_ok hR (Stb.ren (ρ := retO (fun i => [i]) 0 rs)) fn.results.toList rs 0 c3 hc1 (fun j t hj p => Keep.ren (retO_slot (fun i => [i]) p rs 0 j c4 hj))
        (fun j b ag sz hj p => Keep.ren (retO_boxc (fun i => [i]) p rs 0 j c4 hj))
      have hrun := results_run (P := P) (a := a') (w := w') (fn := fn) v1 v2
      have hne : us.length ≠ 1 := by
        intro e
        apply h1
        exact List.length_eq_one_iff.1 (by omega)
      rw [if_neg hne] at hrun
      refine ⟨_, hrun, _, rfl, _, S.heap, _, hc2, rfl, ?_, heap (fun i => [i]), evo _⟩
      simp only[RV]
      exact ⟨us.toArray, rfl, v3⟩
  cases e with
  | normal =>
    obtain ⟨S, g', h1, _, h2, h3⟩ := hc
    exact key S g' h1 h2 h3
  | ret =>
    obtain ⟨S, g', h1, _, h2, h3⟩ := hc
    exact key S g' h1 h2 h3
  | exit i =>
    obtain ⟨S, g', h1, _⟩ := hc
    exact h1.elim
  | goto _ => exact hc.elim
  | panic _ => exact hc.elim
  | outgrown => exact hc.elim
end
end Go.Ge
set_option linter.unusedSimpArgs false
set_option linter.unusedVariables false
namespace Go.Ge
section
variable {S : AState} {n d t s : Nat} {v : AVal}
@[go_sem] theorem rd_t : S.rd (.t n) = rdv (S.env n) := rfl
@[go_sem] theorem rd_c : S.rd (.c v) = rdv v := rfl
@[go_sem] theorem full_t : S.full (.t n) = S.env n := rfl
@[go_sem] theorem full_c : S.full (.c v) = v := rfl
@[go_sem] theorem take_t : S.takeT (.t n) = S.set n (remV (S.env n)) := rfl
@[go_sem] theorem take_c : S.takeT (.c v) = S := rfl
@[go_sem] theorem put_none : S.put none v = S := rfl
@[go_sem] theorem env_put : (S.put (some d) v).env t = if t = d then v else S.env t := rfl
@[go_sem] theorem bx_put : (S.put (some d) v).boxes = S.boxes := rfl
@[go_sem] theorem hp_put : (S.put (some d) v).heap = S.heap := rfl
@[go_sem] theorem env_set : (S.set d v).env t = if t = d then v else S.env t := rfl
@[go_sem] theorem bx_set : (S.set d v).boxes = S.boxes := rfl
@[go_sem] theorem hp_set : (S.set d v).heap = S.heap := rfl
@[go_sem] theorem env_setBox {cs : Option (List AVal)} : (S.setBox d cs).env = S.env := rfl
@[go_sem] theorem bx_setBox {cs : Option (List AVal)} : (S.setBox d cs).boxes t = if t = d then cs else S.boxes t := rfl
def proV (s n : Nat) (b : Bool) : AVal → AVal
  | .box s' o => if b = true ∧ s' = s then .hp n o else .box s' o
  | v => v
@[go_sem] theorem env_promote {s : Nat} : (S.promote s).env t = proV s S.heap.length (S.boxes s).isSome (S.env t) := by
  unfold AState.promote proV
  cases h : S.boxes s with
  | none => simp only[Option.isSome_none,Bool.false_eq_true,false_and,if_false]; split <;> simp_all
  | some cs => simp only[Option.isSome_some,true_and]; rfl
@[go_sem] theorem bx_promote {s : Nat} : (S.promote s).boxes t = if t = s then none else S.boxes t := by
  unfold AState.promote
  cases h : S.boxes s with
  | none => simp only; split
            · rename_i e; rw [e, h]
            · rfl
  | some cs => rfl
@[go_sem] theorem hp_promote {s : Nat} : (S.promote s).heap = S.heap ++ (match S.boxes s with | some cs => [.cells cs] | none => []) := by
  unfold AState.promote
  cases h : S.boxes s with
  | none => simp
  | some cs => rfl
@[go_sem] theorem proV_box {s n s' o : Nat} {b : Bool} : proV s n b (.box s' o) = if b = true ∧ s' = s then .hp n o else .box s' o := rfl
@[go_sem] theorem proV_int {s n : Nat} {b : Bool} {k : IntKind} {m : Int} : proV s n b (.int k m) = .int k m := rfl
@[go_sem] theorem proV_bool {s n : Nat} {b c : Bool} : proV s n b (.bool c) = .bool c := rfl
@[go_sem] theorem proV_str {s n : Nat} {b : Bool} {c : ByteArray} : proV s n b (.str c) = .str c := rfl
@[go_sem] theorem proV_lst {s n : Nat} {b : Bool} {o : Own} {xs : List AVal} : proV s n b (.lst o xs) = .lst o xs := rfl
@[go_sem] theorem proV_ref {s n i j k l : Nat} {b : Bool} : proV s n b (.ref i j k l) = .ref i j k l := rfl
@[go_sem] theorem proV_hp {s n i o : Nat} {b : Bool} : proV s n b (.hp i o) = .hp i o := rfl
@[go_sem] theorem proV_agg {s n : Nat} {b : Bool} {cs : List AVal} : proV s n b (.agg cs) = .agg cs := rfl
@[go_sem] theorem proV_tup {s n : Nat} {b : Bool} {cs : List AVal} : proV s n b (.tup cs) = .tup cs := rfl
@[go_sem] theorem proV_func {s n g : Nat} {b : Bool} {cs : List AVal} : proV s n b (.func g cs) = .func g cs := rfl
@[go_sem] theorem proV_junk {s n : Nat} {b : Bool} : proV s n b .junk = .junk := rfl
@[go_sem] theorem proV_nilptr {s n : Nat} {b : Bool} : proV s n b .nilptr = .nilptr := rfl
@[go_sem] theorem hp_setBox {cs : Option (List AVal)} : (S.setBox d cs).heap = S.heap := rfl
def drV (s : Nat) : AVal → AVal
  | .box s' o => if s' = s then .junk else .box s' o
  | v => v
@[go_sem] theorem env_drop : (S.drop s).env t = drV s (S.env t) := by simp only[AState.drop,drV]; cases S.env t <;> rfl
@[go_sem] theorem bx_drop : (S.drop s).boxes = S.boxes := rfl
@[go_sem] theorem hp_drop : (S.drop s).heap = S.heap := rfl
@[go_sem] theorem env_start {vs : List AVal} {h : List HObj} : (AState.start vs h).env t = vs.getD t .junk := rfl
@[go_sem] theorem bx_start {vs : List AVal} {h : List HObj} : (AState.start vs h).boxes t = none := rfl
@[go_sem] theorem hp_start {vs : List AVal} {h : List HObj} : (AState.start vs h).heap = h := rfl
@[go_sem] theorem eta_heap {h : List HObj} : ({ S with heap := h } : AState).env = S.env := rfl
@[go_sem] theorem env_mk {e : Nat → AVal} {b : Nat → Option (List AVal)} {h : List HObj} : (AState.mk e b h).env = e := rfl
@[go_sem] theorem bx_mk {e : Nat → AVal} {b : Nat → Option (List AVal)} {h : List HObj} : (AState.mk e b h).boxes = b := rfl
@[go_sem] theorem hp_mk {e : Nat → AVal} {b : Nat → Option (List AVal)} {h : List HObj} : (AState.mk e b h).heap = h := rfl
end
@[go_sem] theorem drV_int {s : Nat} {k : IntKind} {n : Int} : drV s (.int k n) = .int k n := rfl
@[go_sem] theorem drV_bool {s : Nat} {b : Bool} : drV s (.bool b) = .bool b := rfl
@[go_sem] theorem drV_str {s : Nat} {b : ByteArray} : drV s (.str b) = .str b := rfl
@[go_sem] theorem drV_junk {s : Nat} : drV s .junk = .junk := rfl
@[go_sem] theorem drV_agg {s : Nat} {cs : List AVal} : drV s (.agg cs) = .agg cs := rfl
@[go_sem] theorem drV_tup {s : Nat} {cs : List AVal} : drV s (.tup cs) = .tup cs := rfl
@[go_sem] theorem drV_lst {s : Nat} {o : Own} {cs : List AVal} : drV s (.lst o cs) = .lst o cs := rfl
@[go_sem] theorem drV_box {s s' o : Nat} : drV s (.box s' o) = if s' = s then .junk else .box s' o := rfl
@[go_sem] theorem drV_cptr {s : Nat} {cs : List AVal} : drV s (.cptr cs) = .cptr cs := rfl
@[go_sem] theorem drV_hp {s i o : Nat} : drV s (.hp i o) = .hp i o := rfl
@[go_sem] theorem drV_nilptr {s : Nat} : drV s .nilptr = .nilptr := rfl
@[go_sem] theorem drV_func {s g : Nat} {cs : List AVal} : drV s (.func g cs) = .func g cs := rfl
@[go_sem] theorem rdv_int {k : IntKind} {n : Int} : rdv (.int k n) = .int k n := rfl
@[go_sem] theorem rdv_bool {b : Bool} : rdv (.bool b) = .bool b := rfl
@[go_sem] theorem rdv_str {b : ByteArray} : rdv (.str b) = .str b := rfl
@[go_sem] theorem rdv_junk : rdv .junk = .junk := rfl
@[go_sem] theorem rdv_sh {xs : List AVal} : rdv (.lst .sh xs) = .lst .sh xs := rfl
@[go_sem] theorem rdv_nil {xs : List AVal} : rdv (.lst .nil xs) = .lst .nil xs := rfl
@[go_sem] theorem rdv_app {z : Nat} {xs : List AVal} : rdv (.lst (.app z) xs) = .lst .sh xs := rfl
@[go_sem] theorem rdv_uniq {z c : Nat} {xs : List AVal} : rdv (.lst (.uniq z c) xs) = .junk := rfl
@[go_sem] theorem rdv_agg {cs : List AVal} : rdv (.agg cs) = .agg (cs.map rdc) := rfl
@[go_sem] theorem rdv_tup {cs : List AVal} : rdv (.tup cs) = .tup (cs.map rd1) := rfl
@[go_sem] theorem rdv_cptr {cs : List AVal} : rdv (.cptr cs) = .cptr cs := rfl
@[go_sem] theorem rdv_box {s o : Nat} : rdv (.box s o) = .box s o := rfl
@[go_sem] theorem rdv_hp {s o : Nat} : rdv (.hp s o) = .hp s o := rfl
@[go_sem] theorem rdv_ref {i o l c : Nat} : rdv (.ref i o l c) = .ref i o l c := rfl
@[go_sem] theorem rdv_nilptr : rdv .nilptr = .nilptr := rfl
@[go_sem] theorem rdv_func {g : Nat} {cs : List AVal} : rdv (.func g cs) = .func g cs := rfl
@[go_sem] theorem rd1_int {k : IntKind} {n : Int} : rd1 (.int k n) = .int k n := rfl
@[go_sem] theorem rd1_bool {b : Bool} : rd1 (.bool b) = .bool b := rfl
@[go_sem] theorem rd1_str {b : ByteArray} : rd1 (.str b) = .str b := rfl
@[go_sem] theorem rd1_junk : rd1 .junk = .junk := rfl
@[go_sem] theorem rd1_sh {xs : List AVal} : rd1 (.lst .sh xs) = .lst .sh xs := rfl
@[go_sem] theorem rd1_nil {xs : List AVal} : rd1 (.lst .nil xs) = .lst .nil xs := rfl
@[go_sem] theorem rd1_app {z : Nat} {xs : List AVal} : rd1 (.lst (.app z) xs) = .lst .sh xs := rfl
@[go_sem] theorem rd1_agg {cs : List AVal} : rd1 (.agg cs) = .agg (cs.map rdc) := rfl
@[go_sem] theorem rd1_nilptr : rd1 .nilptr = .nilptr := rfl
@[go_sem] theorem rd1_hp {s o : Nat} : rd1 (.hp s o) = .hp s o := rfl
@[go_sem] theorem rdc_int {k : IntKind} {n : Int} : Go.Ge.rdc (.int k n) = .int k n := rfl
@[go_sem] theorem rdc_bool {b : Bool} : Go.Ge.rdc (.bool b) = .bool b := rfl
@[go_sem] theorem rdc_str {b : ByteArray} : Go.Ge.rdc (.str b) = .str b := rfl
@[go_sem] theorem rdc_sh {xs : List AVal} : Go.Ge.rdc (.lst .sh xs) = .lst .sh xs := rfl
@[go_sem] theorem rdc_nil {xs : List AVal} : Go.Ge.rdc (.lst .nil xs) = .lst .nil xs := rfl
@[go_sem] theorem rdc_app {z : Nat} {xs : List AVal} : Go.Ge.rdc (.lst (.app z) xs) = .lst .sh xs := rfl
@[go_sem] theorem rdc_nilptr : Go.Ge.rdc .nilptr = .nilptr := rfl
@[go_sem] theorem rdc_hp {s o : Nat} : Go.Ge.rdc (.hp s o) = .hp s o := rfl
@[go_sem] theorem rdc_func {g : Nat} {cs : List AVal} : Go.Ge.rdc (.func g cs) = .func g cs := rfl
@[go_sem] theorem remV_int {k : IntKind} {n : Int} : remV (.int k n) = .int k n := rfl
@[go_sem] theorem remV_bool {b : Bool} : remV (.bool b) = .bool b := rfl
@[go_sem] theorem remV_str {b : ByteArray} : remV (.str b) = .str b := rfl
@[go_sem] theorem remV_junk : remV .junk = .junk := rfl
@[go_sem] theorem remV_sh {xs : List AVal} : remV (.lst .sh xs) = .lst .sh xs := rfl
@[go_sem] theorem remV_nil {xs : List AVal} : remV (.lst .nil xs) = .lst .nil xs := rfl
@[go_sem] theorem remV_app {z : Nat} {xs : List AVal} : remV (.lst (.app z) xs) = .lst .sh xs := rfl
@[go_sem] theorem remV_tup {vs : List AVal} : remV (.tup vs) = .junk := rfl
@[go_sem] theorem remV_uniq {z c : Nat} {xs : List AVal} : remV (.lst (.uniq z c) xs) = .junk := rfl
@[go_sem] theorem remV_ref {i o l c : Nat} : remV (.ref i o l c) = .ref i o l c := rfl
@[go_sem] theorem remV_nilptr : remV .nilptr = .nilptr := rfl
@[go_sem] theorem remV_map {i : Nat} : remV (.map i) = .map i := rfl
@[go_sem] theorem remV_nilmap : remV .nilmap = .nilmap := rfl
@[go_sem] theorem remV_func {g : Nat} {cs : List AVal} : remV (.func g cs) = .func g cs := rfl
@[go_sem] theorem remV_cptr {cs : List AVal} : remV (.cptr cs) = .cptr cs := rfl
@[go_sem] theorem remc_ref {i o l c : Nat} : remc (.ref i o l c) = .ref i o l c := rfl
@[go_sem] theorem remc_map {i : Nat} : remc (.map i) = .map i := rfl
@[go_sem] theorem remc_nilmap : remc .nilmap = .nilmap := rfl
@[go_sem] theorem remc_hp {s o : Nat} : remc (.hp s o) = .hp s o := rfl
@[go_sem] theorem rdv_map {i : Nat} : rdv (.map i) = .map i := rfl
@[go_sem] theorem rdv_nilmap : rdv .nilmap = .nilmap := rfl
@[go_sem] theorem rdc_map {i : Nat} : Go.Ge.rdc (.map i) = .map i := rfl
@[go_sem] theorem rdc_nilmap : Go.Ge.rdc .nilmap = .nilmap := rfl
@[go_sem] theorem rdc_ref' {i o l c : Nat} : Go.Ge.rdc (.ref i o l c) = .ref i o l c := rfl
@[go_sem] theorem rd1_ref' {i o l c : Nat} : rd1 (.ref i o l c) = .ref i o l c := rfl
@[go_sem] theorem rd1_map {i : Nat} : rd1 (.map i) = .map i := rfl
@[go_sem] theorem rd1_nilmap : rd1 .nilmap = .nilmap := rfl
@[go_sem] theorem remV_agg {cs : List AVal} : remV (.agg cs) = .agg (cs.map remc) := rfl
@[go_sem] theorem remV_bx {s o : Nat} : remV (.box s o) = .box s o := rfl
@[go_sem] theorem remV_hp {s o : Nat} : remV (.hp s o) = .hp s o := rfl
@[go_sem] theorem remc_int {k : IntKind} {n : Int} : remc (.int k n) = .int k n := rfl
@[go_sem] theorem remc_bool {b : Bool} : remc (.bool b) = .bool b := rfl
@[go_sem] theorem remc_str {b : ByteArray} : remc (.str b) = .str b := rfl
@[go_sem] theorem remc_sh {xs : List AVal} : remc (.lst .sh xs) = .lst .sh xs := rfl
@[go_sem] theorem remc_nil {xs : List AVal} : remc (.lst .nil xs) = .lst .nil xs := rfl
@[go_sem] theorem remc_app {z : Nat} {xs : List AVal} : remc (.lst (.app z) xs) = .lst .sh xs := rfl
@[go_sem] theorem remc_nilptr : remc .nilptr = .nilptr := rfl
attribute [go_sem] AState.live lenV slenV nilckV pickF pickV beqV pnilV eqsV unV convV b2sV s2bV sameV faddrV fieldV iaddrV aaddrV idxV aidxV extV mnV mxV foldV mksliceV slnilV mresV mlenV binV binInt binStr memV sliceV ssliceV loV hiV buildV storeV srcV AState.promAll emptV sliceAV b2sRV capV
@[go_sem] theorem width_junk  : AVal.width (.junk) = 0 := rfl
@[go_sem] theorem cells_junk  : AVal.cells (.junk) = [.junk] := rfl
@[go_sem] theorem noBox_junk  : noBox (.junk) = true := rfl
@[go_sem] theorem plainV_junk  : plainV (.junk) = true := rfl
@[go_sem] theorem storC_junk  : storC (.junk) = false := rfl
@[go_sem] theorem storable_junk  : storable (.junk) = false := rfl
@[go_sem] theorem onlyV_hp {i o : Nat} : onlyV 0 (.hp i o) = True := rfl
@[go_sem] theorem onlyV_box {s q o : Nat} : onlyV (s + 1) (.box q o) = (q = s) := rfl
@[go_sem] theorem memLv_junk  : memLv (.junk) = 2 := rfl
@[go_sem] theorem flC_junk  : flC (.junk) = true := rfl
@[go_sem] theorem width_int {k : IntKind} {n : Int} : AVal.width (.int k n) = 1 := rfl
@[go_sem] theorem cells_int {k : IntKind} {n : Int} : AVal.cells (.int k n) = [.int k n] := rfl
@[go_sem] theorem noBox_int {k : IntKind} {n : Int} : noBox (.int k n) = true := rfl
@[go_sem] theorem plainV_int {k : IntKind} {n : Int} : plainV (.int k n) = true := rfl
@[go_sem] theorem storC_int {k : IntKind} {n : Int} : storC (.int k n) = true := rfl
@[go_sem] theorem storable_int {k : IntKind} {n : Int} : storable (.int k n) = true := rfl
@[go_sem] theorem memLv_int {k : IntKind} {n : Int} : memLv (.int k n) = 2 := rfl
@[go_sem] theorem flC_int {k : IntKind} {n : Int} : flC (.int k n) = true := rfl
@[go_sem] theorem width_bool {b : Bool} : AVal.width (.bool b) = 1 := rfl
@[go_sem] theorem cells_bool {b : Bool} : AVal.cells (.bool b) = [.bool b] := rfl
@[go_sem] theorem noBox_bool {b : Bool} : noBox (.bool b) = true := rfl
@[go_sem] theorem plainV_bool {b : Bool} : plainV (.bool b) = true := rfl
@[go_sem] theorem storC_bool {b : Bool} : storC (.bool b) = true := rfl
@[go_sem] theorem storable_bool {b : Bool} : storable (.bool b) = true := rfl
@[go_sem] theorem memLv_bool {b : Bool} : memLv (.bool b) = 2 := rfl
@[go_sem] theorem flC_bool {b : Bool} : flC (.bool b) = true := rfl
@[go_sem] theorem width_str {s : ByteArray} : AVal.width (.str s) = 1 := rfl
@[go_sem] theorem cells_str {s : ByteArray} : AVal.cells (.str s) = [.str s] := rfl
@[go_sem] theorem noBox_str {s : ByteArray} : noBox (.str s) = true := rfl
@[go_sem] theorem plainV_str {s : ByteArray} : plainV (.str s) = true := rfl
@[go_sem] theorem storC_str {s : ByteArray} : storC (.str s) = true := rfl
@[go_sem] theorem storable_str {s : ByteArray} : storable (.str s) = true := rfl
@[go_sem] theorem memLv_str {s : ByteArray} : memLv (.str s) = 2 := rfl
@[go_sem] theorem flC_str {s : ByteArray} : flC (.str s) = true := rfl
@[go_sem] theorem width_agg {cs : List AVal} : AVal.width (.agg cs) = cs.length := rfl
@[go_sem] theorem cells_agg {cs : List AVal} : AVal.cells (.agg cs) = cs := rfl
@[go_sem] theorem noBox_agg {cs : List AVal} : noBox (.agg cs) = true := rfl
@[go_sem] theorem plainV_agg {cs : List AVal} : plainV (.agg cs) = true := rfl
@[go_sem] theorem storC_agg {cs : List AVal} : storC (.agg cs) = false := rfl
@[go_sem] theorem storable_agg {cs : List AVal} : storable (.agg cs) = cs.all storC := rfl
@[go_sem] theorem memLv_agg {cs : List AVal} : memLv (.agg cs) = 2 := rfl
@[go_sem] theorem flC_agg {cs : List AVal} : flC (.agg cs) = true := rfl
@[go_sem] theorem width_tup {vs : List AVal} : AVal.width (.tup vs) = 0 := rfl
@[go_sem] theorem cells_tup {vs : List AVal} : AVal.cells (.tup vs) = [.tup vs] := rfl
@[go_sem] theorem noBox_tup {vs : List AVal} : noBox (.tup vs) = true := rfl
@[go_sem] theorem plainV_tup {vs : List AVal} : plainV (.tup vs) = false := rfl
@[go_sem] theorem storC_tup {vs : List AVal} : storC (.tup vs) = false := rfl
@[go_sem] theorem storable_tup {vs : List AVal} : storable (.tup vs) = false := rfl
@[go_sem] theorem memLv_tup {vs : List AVal} : memLv (.tup vs) = 2 := rfl
@[go_sem] theorem flC_tup {vs : List AVal} : flC (.tup vs) = true := rfl
@[go_sem] theorem width_lst {o : Own} {xs : List AVal} : AVal.width (.lst o xs) = 1 := rfl
@[go_sem] theorem cells_lst {o : Own} {xs : List AVal} : AVal.cells (.lst o xs) = [.lst o xs] := rfl
@[go_sem] theorem noBox_lst {o : Own} {xs : List AVal} : noBox (.lst o xs) = true := rfl
@[go_sem] theorem plainV_lst {o : Own} {xs : List AVal} : plainV (.lst o xs) = true := rfl
@[go_sem] theorem storC_lst {o : Own} {xs : List AVal} : storC (.lst o xs) = true := rfl
@[go_sem] theorem storable_lst {o : Own} {xs : List AVal} : storable (.lst o xs) = true := rfl
@[go_sem] theorem memLv_lst {o : Own} {xs : List AVal} : memLv (.lst o xs) = 2 := rfl
@[go_sem] theorem width_cptr {cs : List AVal} : AVal.width (.cptr cs) = 1 := rfl
@[go_sem] theorem cells_cptr {cs : List AVal} : AVal.cells (.cptr cs) = [.cptr cs] := rfl
@[go_sem] theorem noBox_cptr {cs : List AVal} : noBox (.cptr cs) = true := rfl
@[go_sem] theorem plainV_cptr {cs : List AVal} : plainV (.cptr cs) = true := rfl
@[go_sem] theorem storC_cptr {cs : List AVal} : storC (.cptr cs) = true := rfl
@[go_sem] theorem storable_cptr {cs : List AVal} : storable (.cptr cs) = true := rfl
@[go_sem] theorem memLv_cptr {cs : List AVal} : memLv (.cptr cs) = 0 := rfl
@[go_sem] theorem flC_cptr {cs : List AVal} : flC (.cptr cs) = true := rfl
@[go_sem] theorem width_box {s o : Nat} : AVal.width (.box s o) = 1 := rfl
@[go_sem] theorem cells_box {s o : Nat} : AVal.cells (.box s o) = [.box s o] := rfl
@[go_sem] theorem noBox_box {s o : Nat} : noBox (.box s o) = false := rfl
@[go_sem] theorem plainV_box {s o : Nat} : plainV (.box s o) = false := rfl
@[go_sem] theorem storC_box {s o : Nat} : storC (.box s o) = false := rfl
@[go_sem] theorem storable_box {s o : Nat} : storable (.box s o) = false := rfl
@[go_sem] theorem memLv_box {s o : Nat} : memLv (.box s o) = 1 := rfl
@[go_sem] theorem flC_box {s o : Nat} : flC (.box s o) = true := rfl
@[go_sem] theorem width_hp {i o : Nat} : AVal.width (.hp i o) = 1 := rfl
@[go_sem] theorem cells_hp {i o : Nat} : AVal.cells (.hp i o) = [.hp i o] := rfl
@[go_sem] theorem noBox_hp {i o : Nat} : noBox (.hp i o) = true := rfl
@[go_sem] theorem plainV_hp {i o : Nat} : plainV (.hp i o) = true := rfl
@[go_sem] theorem storC_hp {i o : Nat} : storC (.hp i o) = true := rfl
@[go_sem] theorem storable_hp {i o : Nat} : storable (.hp i o) = true := rfl
@[go_sem] theorem memLv_hp {i o : Nat} : memLv (.hp i o) = 2 := rfl
@[go_sem] theorem flC_hp {i o : Nat} : flC (.hp i o) = true := rfl
@[go_sem] theorem width_ref {i o l c : Nat} : AVal.width (.ref i o l c) = 1 := rfl
@[go_sem] theorem cells_ref {i o l c : Nat} : AVal.cells (.ref i o l c) = [.ref i o l c] := rfl
@[go_sem] theorem noBox_ref {i o l c : Nat} : noBox (.ref i o l c) = true := rfl
@[go_sem] theorem plainV_ref {i o l c : Nat} : plainV (.ref i o l c) = true := rfl
@[go_sem] theorem storC_ref {i o l c : Nat} : storC (.ref i o l c) = true := rfl
@[go_sem] theorem storable_ref {i o l c : Nat} : storable (.ref i o l c) = true := rfl
@[go_sem] theorem memLv_ref {i o l c : Nat} : memLv (.ref i o l c) = 2 := rfl
@[go_sem] theorem flC_ref {i o l c : Nat} : flC (.ref i o l c) = true := rfl
@[go_sem] theorem width_nilptr  : AVal.width (.nilptr) = 1 := rfl
@[go_sem] theorem cells_nilptr  : AVal.cells (.nilptr) = [.nilptr] := rfl
@[go_sem] theorem noBox_nilptr  : noBox (.nilptr) = true := rfl
@[go_sem] theorem plainV_nilptr  : plainV (.nilptr) = true := rfl
@[go_sem] theorem storC_nilptr  : storC (.nilptr) = true := rfl
@[go_sem] theorem storable_nilptr  : storable (.nilptr) = true := rfl
@[go_sem] theorem memLv_nilptr  : memLv (.nilptr) = 2 := rfl
@[go_sem] theorem flC_nilptr  : flC (.nilptr) = true := rfl
@[go_sem] theorem width_func {g : Nat} {cs : List AVal} : AVal.width (.func g cs) = 1 := rfl
@[go_sem] theorem cells_func {g : Nat} {cs : List AVal} : AVal.cells (.func g cs) = [.func g cs] := rfl
@[go_sem] theorem noBox_func {g : Nat} {cs : List AVal} : noBox (.func g cs) = true := rfl
@[go_sem] theorem plainV_func {g : Nat} {cs : List AVal} : plainV (.func g cs) = true := rfl
@[go_sem] theorem storC_func {g : Nat} {cs : List AVal} : storC (.func g cs) = true := rfl
@[go_sem] theorem storable_func {g : Nat} {cs : List AVal} : storable (.func g cs) = true := rfl
@[go_sem] theorem memLv_func {g : Nat} {cs : List AVal} : memLv (.func g cs) = 2 := rfl
@[go_sem] theorem flC_func {g : Nat} {cs : List AVal} : flC (.func g cs) = true := rfl
@[go_sem] theorem width_map {i : Nat} : AVal.width (.map i) = 1 := rfl
@[go_sem] theorem cells_map {i : Nat} : AVal.cells (.map i) = [.map i] := rfl
@[go_sem] theorem noBox_map {i : Nat} : noBox (.map i) = true := rfl
@[go_sem] theorem plainV_map {i : Nat} : plainV (.map i) = true := rfl
@[go_sem] theorem storC_map {i : Nat} : storC (.map i) = true := rfl
@[go_sem] theorem storable_map {i : Nat} : storable (.map i) = true := rfl
@[go_sem] theorem memLv_map {i : Nat} : memLv (.map i) = 2 := rfl
@[go_sem] theorem flC_map {i : Nat} : flC (.map i) = true := rfl
@[go_sem] theorem width_nilmap  : AVal.width (.nilmap) = 1 := rfl
@[go_sem] theorem cells_nilmap  : AVal.cells (.nilmap) = [.nilmap] := rfl
@[go_sem] theorem noBox_nilmap  : noBox (.nilmap) = true := rfl
@[go_sem] theorem plainV_nilmap  : plainV (.nilmap) = true := rfl
@[go_sem] theorem storC_nilmap  : storC (.nilmap) = true := rfl
@[go_sem] theorem storable_nilmap  : storable (.nilmap) = true := rfl
@[go_sem] theorem memLv_nilmap  : memLv (.nilmap) = 2 := rfl
@[go_sem] theorem flC_nilmap  : flC (.nilmap) = true := rfl
@[go_sem] theorem flC_lst_sh  {xs : List AVal} : flC (.lst (.sh) xs) = true := rfl
@[go_sem] theorem flC_lst_nil  {xs : List AVal} : flC (.lst (.nil) xs) = true := rfl
@[go_sem] theorem flC_lst_app {z : Nat} {xs : List AVal} : flC (.lst (.app z) xs) = false := rfl
@[go_sem] theorem flC_lst_uniq {z c : Nat} {xs : List AVal} : flC (.lst (.uniq z c) xs) = false := rfl
section
variable {C : CallS} {os : List AO} {S : AState} {K : AState → Prop} {d : Option Nat}
@[go_sem] theorem aops_nil : aops C [] S K = K S := rfl
def aopsG (C : CallS) (d : Option Nat) (op : AOp) (want : Bool) (v : AVal) (os : List AO) (S : AState) (K : AState → Prop) : Prop :=
  match v with
  | .bool b => (b = want → aops C (⟨d, op, none⟩ :: os) S K) ∧ (b ≠ want → aops C os (S.put d (.tup [])) K)
  | .tup [] => aops C os (S.put d (.tup [])) K
  | _ => False
@[go_sem] theorem aops_guard {op : AOp} {j : Nat} {want : Bool} : aops C (⟨d, op, some (j, want)⟩ :: os) S K = aopsG C d op want (S.env j) os S K := by
  simp only[aops,aopsG]
  cases h : S.env j with
  | tup l => cases l <;> rfl
  | _ => rfl
@[go_sem] theorem aopsG_tt {op : AOp} : aopsG C d op true (.bool true) os S K = aops C (⟨d, op, none⟩ :: os) S K := by simp [aopsG]
@[go_sem] theorem aopsG_ff {op : AOp} : aopsG C d op false (.bool false) os S K = aops C (⟨d, op, none⟩ :: os) S K := by simp [aopsG]
@[go_sem] theorem aopsG_tf {op : AOp} : aopsG C d op true (.bool false) os S K = aops C os (S.put d (.tup [])) K := by simp [aopsG]
@[go_sem] theorem aopsG_ft {op : AOp} : aopsG C d op false (.bool true) os S K = aops C os (S.put d (.tup [])) K := by simp [aopsG]
@[go_sem] theorem aopsG_un {op : AOp} {want : Bool} : aopsG C d op want (.tup []) os S K = aops C os (S.put d (.tup [])) K := rfl
theorem aopsG_split {op : AOp} {want b : Bool} (h1 : b = true → aopsG C d op want (.bool true) os S K) (h2 : b = false → aopsG C d op want (.bool false) os S K) : aopsG C d op want (.bool b) os S K := by
  cases b
  · exact h2 rfl
  · exact h1 rfl
theorem aopsG_if {op : AOp} {want : Bool} {p : Prop} [Decidable p] (h1 : p → aopsG C d op want (.bool true) os S K) (h2 : ¬p → aopsG C d op want (.bool false) os S K) : aopsG C d op want (.bool (decide p)) os S K := by
  by_cases h : p
  · rw [decide_eq_true h]; exact h1 h
  · rw [decide_eq_false h]; exact h2 h
@[go_sem] theorem aops_move (x : AOpn) : aops C (⟨d, .move false x, none⟩ :: os) S K = ((⟨True, S.rd x⟩ : FR).c ∧ S.live (⟨True, S.rd x⟩ : FR).v ∧ aops C os (S.put d (⟨True, S.rd x⟩ : FR).v) K) := rfl
@[go_sem] theorem aops_pick (c a b : AOpn) : aops C (⟨d, .pick c a b, none⟩ :: os) S K = ((pickF (S.rd c) (S.rd a) (S.rd b) : FR).c ∧ S.live (pickF (S.rd c) (S.rd a) (S.rd b) : FR).v ∧ aops C os (S.put d (pickF (S.rd c) (S.rd a) (S.rd b) : FR).v) K) := rfl
@[go_sem] theorem aops_build (zero : List AVal) (parts : List (Nat × Nat × AOpn)) : aops C (⟨d, .build zero parts, none⟩ :: os) S K = ((buildV S.rd zero parts : FR).c ∧ S.live (buildV S.rd zero parts : FR).v ∧ aops C os (S.put d (buildV S.rd zero parts : FR).v) K) := rfl
@[go_sem] theorem aops_buildS (uq : Bool) (sz : Nat) (parts : List AOpn) : aops C (⟨d, .buildS uq sz parts, none⟩ :: os) S K = ((⟨(∀ x ∈ parts, (S.rd x).width = sz ∧ storable (S.rd x) = true) ∧ parts.length * sz ≤ 16777216, .lst (if uq then .uniq sz parts.length else .app sz) (parts.map S.rd)⟩ : FR).c ∧ S.live (⟨(∀ x ∈ parts, (S.rd x).width = sz ∧ storable (S.rd x) = true) ∧ parts.length * sz ≤ 16777216, .lst (if uq then .uniq sz parts.length else .app sz) (parts.map S.rd)⟩ : FR).v ∧ aops C os (S.put d (⟨(∀ x ∈ parts, (S.rd x).width = sz ∧ storable (S.rd x) = true) ∧ parts.length * sz ≤ 16777216, .lst (if uq then .uniq sz parts.length else .app sz) (parts.map S.rd)⟩ : FR).v) K) := rfl
@[go_sem] theorem aops_load (m : Nat) (ag : Bool) (sz : Nat) (x : AOpn) : aops C (⟨d, .load m ag sz x, none⟩ :: os) S K = ((⟨memLv (S.rd x) ≤ m ∧ (memV S.boxes S.heap ag sz (S.rd x)).c, (memV S.boxes S.heap ag sz (S.rd x)).v⟩ : FR).c ∧ S.live (⟨memLv (S.rd x) ≤ m ∧ (memV S.boxes S.heap ag sz (S.rd x)).c, (memV S.boxes S.heap ag sz (S.rd x)).v⟩ : FR).v ∧ aops C os (S.put d (⟨memLv (S.rd x) ≤ m ∧ (memV S.boxes S.heap ag sz (S.rd x)).c, (memV S.boxes S.heap ag sz (S.rd x)).v⟩ : FR).v) K) := rfl
@[go_sem] theorem aops_loadX (m : Nat) (ag : Bool) (sz : Nat) (x : AOpn) : aops C (⟨d, .loadX m ag sz x, none⟩ :: os) S K = ((⟨onlyV m (S.rd x) ∧ (memV S.boxes S.heap ag sz (S.rd x)).c, (memV S.boxes S.heap ag sz (S.rd x)).v⟩ : FR).c ∧ S.live (⟨onlyV m (S.rd x) ∧ (memV S.boxes S.heap ag sz (S.rd x)).c, (memV S.boxes S.heap ag sz (S.rd x)).v⟩ : FR).v ∧ aops C os (S.put d (⟨onlyV m (S.rd x) ∧ (memV S.boxes S.heap ag sz (S.rd x)).c, (memV S.boxes S.heap ag sz (S.rd x)).v⟩ : FR).v) K) := rfl
@[go_sem] theorem aops_nilck (x : AOpn) : aops C (⟨d, .nilck x, none⟩ :: os) S K = ((nilckV (S.rd x) : FR).c ∧ S.live (nilckV (S.rd x) : FR).v ∧ aops C os (S.put d (nilckV (S.rd x) : FR).v) K) := rfl
@[go_sem] theorem aops_bin (op : BinOp) (x y : AOpn) : aops C (⟨d, .bin op x y, none⟩ :: os) S K = ((binV op (S.rd x) (S.rd y) : FR).c ∧ S.live (binV op (S.rd x) (S.rd y) : FR).v ∧ aops C os (S.put d (binV op (S.rd x) (S.rd y) : FR).v) K) := rfl
@[go_sem] theorem aops_beq (neg : Bool) (x y : AOpn) : aops C (⟨d, .beq neg x y, none⟩ :: os) S K = ((beqV neg (S.rd x) (S.rd y) : FR).c ∧ S.live (beqV neg (S.rd x) (S.rd y) : FR).v ∧ aops C os (S.put d (beqV neg (S.rd x) (S.rd y) : FR).v) K) := rfl
@[go_sem] theorem aops_pnil (neg : Bool) (x : AOpn) : aops C (⟨d, .pnil neg x, none⟩ :: os) S K = ((pnilV neg (S.rd x) : FR).c ∧ S.live (pnilV neg (S.rd x) : FR).v ∧ aops C os (S.put d (pnilV neg (S.rd x) : FR).v) K) := rfl
@[go_sem] theorem aops_eqs (neg : Bool) (sh : List Sh) (x y : AOpn) : aops C (⟨d, .eqs neg sh x y, none⟩ :: os) S K = ((eqsV neg sh (S.rd x) (S.rd y) : FR).c ∧ S.live (eqsV neg sh (S.rd x) (S.rd y) : FR).v ∧ aops C os (S.put d (eqsV neg sh (S.rd x) (S.rd y) : FR).v) K) := rfl
@[go_sem] theorem aops_un (op : UnOp) (x : AOpn) : aops C (⟨d, .un op x, none⟩ :: os) S K = ((unV op (S.rd x) : FR).c ∧ S.live (unV op (S.rd x) : FR).v ∧ aops C os (S.put d (unV op (S.rd x) : FR).v) K) := rfl
@[go_sem] theorem aops_conv (k : IntKind) (x : AOpn) : aops C (⟨d, .conv k x, none⟩ :: os) S K = ((convV k (S.rd x) : FR).c ∧ S.live (convV k (S.rd x) : FR).v ∧ aops C os (S.put d (convV k (S.rd x) : FR).v) K) := rfl
@[go_sem] theorem aops_b2s (x : AOpn) : aops C (⟨d, .b2s x, none⟩ :: os) S K = ((b2sV (S.rd x) : FR).c ∧ S.live (b2sV (S.rd x) : FR).v ∧ aops C os (S.put d (b2sV (S.rd x) : FR).v) K) := rfl
@[go_sem] theorem aops_s2b (x : AOpn) : aops C (⟨d, .s2b x, none⟩ :: os) S K = ((s2bV (S.rd x) : FR).c ∧ S.live (s2bV (S.rd x) : FR).v ∧ aops C os (S.put d (s2bV (S.rd x) : FR).v) K) := rfl
@[go_sem] theorem aops_same (x : AOpn) : aops C (⟨d, .same x, none⟩ :: os) S K = ((sameV (S.rd x) : FR).c ∧ S.live (sameV (S.rd x) : FR).v ∧ aops C os (S.put d (sameV (S.rd x) : FR).v) K) := rfl
@[go_sem] theorem aops_slice (sz : Nat) (x : AOpn) (lo hi mx : Option AOpn) : aops C (⟨d, .slice sz x lo hi mx, none⟩ :: os) S K = ((sliceV sz S.rd (S.rd x) lo hi mx : FR).c ∧ S.live (sliceV sz S.rd (S.rd x) lo hi mx : FR).v ∧ aops C os (S.put d (sliceV sz S.rd (S.rd x) lo hi mx : FR).v) K) := rfl
@[go_sem] theorem aops_sslice (x : AOpn) (lo hi : Option AOpn) : aops C (⟨d, .sslice x lo hi, none⟩ :: os) S K = ((ssliceV S.rd (S.rd x) lo hi : FR).c ∧ S.live (ssliceV S.rd (S.rd x) lo hi : FR).v ∧ aops C os (S.put d (ssliceV S.rd (S.rd x) lo hi : FR).v) K) := rfl
@[go_sem] theorem aops_faddr (off : Nat) (x : AOpn) : aops C (⟨d, .faddr off x, none⟩ :: os) S K = ((faddrV off (S.rd x) : FR).c ∧ S.live (faddrV off (S.rd x) : FR).v ∧ aops C os (S.put d (faddrV off (S.rd x) : FR).v) K) := rfl
@[go_sem] theorem aops_field (ag : Bool) (off sz : Nat) (x : AOpn) : aops C (⟨d, .field ag off sz x, none⟩ :: os) S K = ((fieldV ag off sz (S.rd x) : FR).c ∧ S.live (fieldV ag off sz (S.rd x) : FR).v ∧ aops C os (S.put d (fieldV ag off sz (S.rd x) : FR).v) K) := rfl
@[go_sem] theorem aops_iaddr (sz : Nat) (x i : AOpn) : aops C (⟨d, .iaddr sz x i, none⟩ :: os) S K = ((iaddrV sz (S.rd x) (S.rd i) : FR).c ∧ S.live (iaddrV sz (S.rd x) (S.rd i) : FR).v ∧ aops C os (S.put d (iaddrV sz (S.rd x) (S.rd i) : FR).v) K) := rfl
@[go_sem] theorem aops_aaddr (m sz : Nat) (x i : AOpn) : aops C (⟨d, .aaddr m sz x i, none⟩ :: os) S K = ((aaddrV m sz (S.rd x) (S.rd i) : FR).c ∧ S.live (aaddrV m sz (S.rd x) (S.rd i) : FR).v ∧ aops C os (S.put d (aaddrV m sz (S.rd x) (S.rd i) : FR).v) K) := rfl
@[go_sem] theorem aops_idx (x i : AOpn) : aops C (⟨d, .idx x i, none⟩ :: os) S K = ((idxV (S.rd x) (S.rd i) : FR).c ∧ S.live (idxV (S.rd x) (S.rd i) : FR).v ∧ aops C os (S.put d (idxV (S.rd x) (S.rd i) : FR).v) K) := rfl
@[go_sem] theorem aops_aidx (ag : Bool) (m sz : Nat) (x i : AOpn) : aops C (⟨d, .aidx ag m sz x i, none⟩ :: os) S K = ((aidxV ag m sz (S.rd x) (S.rd i) : FR).c ∧ S.live (aidxV ag m sz (S.rd x) (S.rd i) : FR).v ∧ aops C os (S.put d (aidxV ag m sz (S.rd x) (S.rd i) : FR).v) K) := rfl
@[go_sem] theorem aops_ext (i : Nat) (x : AOpn) : aops C (⟨d, .ext i x, none⟩ :: os) S K = ((extV i (S.rd x) : FR).c ∧ S.live (extV i (S.rd x) : FR).v ∧ aops C os (S.put d (extV i (S.rd x) : FR).v) K) := rfl
@[go_sem] theorem aops_len (x : AOpn) : aops C (⟨d, .len x, none⟩ :: os) S K = ((lenV (S.rd x) : FR).c ∧ S.live (lenV (S.rd x) : FR).v ∧ aops C os (S.put d (lenV (S.rd x) : FR).v) K) := rfl
@[go_sem] theorem aops_slen (x : AOpn) : aops C (⟨d, .slen x, none⟩ :: os) S K = ((slenV (S.rd x) : FR).c ∧ S.live (slenV (S.rd x) : FR).v ∧ aops C os (S.put d (slenV (S.rd x) : FR).v) K) := rfl
@[go_sem] theorem aops_alen (m : Nat) : aops C (⟨d, .alen m, none⟩ :: os) S K = ((⟨True, .int .i64 m⟩ : FR).c ∧ S.live (⟨True, .int .i64 m⟩ : FR).v ∧ aops C os (S.put d (⟨True, .int .i64 m⟩ : FR).v) K) := rfl
@[go_sem] theorem aops_mn (x : AOpn) (ys : List AOpn) : aops C (⟨d, .mn x ys, none⟩ :: os) S K = ((foldV mnV (S.rd x) (ys.map S.rd) : FR).c ∧ S.live (foldV mnV (S.rd x) (ys.map S.rd) : FR).v ∧ aops C os (S.put d (foldV mnV (S.rd x) (ys.map S.rd) : FR).v) K) := rfl
@[go_sem] theorem aops_mx (x : AOpn) (ys : List AOpn) : aops C (⟨d, .mx x ys, none⟩ :: os) S K = ((foldV mxV (S.rd x) (ys.map S.rd) : FR).c ∧ S.live (foldV mxV (S.rd x) (ys.map S.rd) : FR).v ∧ aops C os (S.put d (foldV mxV (S.rd x) (ys.map S.rd) : FR).v) K) := rfl
@[go_sem] theorem aops_mkslice (sz bytes : Nat) (uq : Bool) (zero : AVal) (x : AOpn) : aops C (⟨d, .mkslice sz bytes uq zero x, none⟩ :: os) S K = ((mksliceV sz bytes uq zero (S.rd x) : FR).c ∧ S.live (mksliceV sz bytes uq zero (S.rd x) : FR).v ∧ aops C os (S.put d (mksliceV sz bytes uq zero (S.rd x) : FR).v) K) := rfl
@[go_sem] theorem aops_empt (x : AOpn) : aops C (⟨d, .empt x, none⟩ :: os) S K = ((emptV (S.rd x) : FR).c ∧ S.live (emptV (S.rd x) : FR).v ∧ aops C os (S.put d (emptV (S.rd x) : FR).v) K) := rfl
@[go_sem] theorem aops_sliceA (m sz : Nat) (x : AOpn) (lo hi : Option AOpn) : aops C (⟨d, .sliceA m sz x lo hi, none⟩ :: os) S K = ((sliceAV m sz S.rd (S.rd x) lo hi : FR).c ∧ S.live (sliceAV m sz S.rd (S.rd x) lo hi : FR).v ∧ aops C os (S.put d (sliceAV m sz S.rd (S.rd x) lo hi : FR).v) K) := rfl
@[go_sem] theorem aops_b2sR (x : AOpn) : aops C (⟨d, .b2sR x, none⟩ :: os) S K = ((b2sRV S.heap (S.rd x) : FR).c ∧ S.live (b2sRV S.heap (S.rd x) : FR).v ∧ aops C os (S.put d (b2sRV S.heap (S.rd x) : FR).v) K) := rfl
@[go_sem] theorem aops_capR (x : AOpn) : aops C (⟨d, .capR x, none⟩ :: os) S K = ((capV (S.rd x) : FR).c ∧ S.live (capV (S.rd x) : FR).v ∧ aops C os (S.put d (capV (S.rd x) : FR).v) K) := rfl
@[go_sem] theorem aops_mkfq (g : Nat) (caps : List AOpn) : aops C (⟨d, .mkfq g caps, none⟩ :: os) S K = ((⟨∀ x ∈ caps, storable (S.rd x) = true ∧ (S.rd x).width = 1, .func g (caps.map S.rd)⟩ : FR).c ∧ S.live (⟨∀ x ∈ caps, storable (S.rd x) = true ∧ (S.rd x).width = 1, .func g (caps.map S.rd)⟩ : FR).v ∧ aops C os (S.put d (⟨∀ x ∈ caps, storable (S.rd x) = true ∧ (S.rd x).width = 1, .func g (caps.map S.rd)⟩ : FR).v) K) := rfl
@[go_sem] theorem aops_moveT (x : AOpn) : aops C (⟨d, .move true x, none⟩ :: os) S K = (match S.full x with | .tup _ => False | v => aops C os ((S.takeT x).put d v) K) := by
  simp only[aops,astep,fev,storeV] <;> rfl
@[go_sem] theorem aops_moveX (t : Nat) : aops C (⟨d, .moveX t, none⟩ :: os) S K = aops C os ((S.set t (remV (S.env t))).put d (S.env t)) K := by
  simp only[aops,astep,fev,storeV]
@[go_sem] theorem aops_alloc (fr : Bool) (zs : List AVal) (s : Nat) : aops C (⟨some s, .alloc fr zs, none⟩ :: os) S K = ((fr = true → S.boxes s = none) ∧ aops C os (((S.drop s).setBox s (some zs)).set s (.box s 0)) K) := by
  simp only[aops,astep,fev,storeV] <;> rfl
@[go_sem] theorem aops_bxT (x : AOpn) (s : Nat) : aops C (⟨some s, .bx true x, none⟩ :: os) S K = (storable (S.full x) = true ∧ aops C os ((((S.takeT x).drop s).setBox s (some (S.full x).cells)).set s (.box s 0)) K) := by
  simp only[aops,astep,fev,storeV] <;> rfl
@[go_sem] theorem aops_bxF (x : AOpn) (s : Nat) : aops C (⟨some s, .bx false x, none⟩ :: os) S K = (storable (S.rd x) = true ∧ aops C os (((S.drop s).setBox s (some (S.rd x).cells)).set s (.box s 0)) K) := by
  simp only[aops,astep,fev,storeV] <;> rfl
@[go_sem] theorem aops_loadT (x : AOpn) : aops C (⟨d, .loadT x, none⟩ :: os) S K = (match S.rd x with
    | .box s off => (match S.boxes s with
      | some cs => off < cs.length ∧ storC (cs.getD off .junk) = true ∧ aops C os ((S.setBox s (some (cs.set off (remc (cs.getD off .junk))))).put d (cs.getD off .junk)) K
      | none => False)
    | .hp id off => (match S.heap[id]? with
      | some (.cells cs) => off < cs.length ∧ storC (cs.getD off .junk) = true ∧ aops C os (({ S with heap := S.heap.set id (.cells (cs.set off (remc (cs.getD off .junk)))) } : AState).put d (cs.getD off .junk)) K
      | _ => False)
    | _ => False) := by
  simp only[aops,astep,fev,storeV] <;> rfl
@[go_sem] theorem aops_loadU (s' : Nat) (x : AOpn) : aops C (⟨d, .loadU s' x, none⟩ :: os) S K = (onlyV (s' + 1) (S.rd x) ∧ (match S.rd x with
    | .box s off => (match S.boxes s with
      | some cs => off < cs.length ∧ storC (cs.getD off .junk) = true ∧ aops C os ((S.setBox s (some (cs.set off (remc (cs.getD off .junk))))).put d (cs.getD off .junk)) K
      | none => False)
    | .hp id off => (match S.heap[id]? with
      | some (.cells cs) => off < cs.length ∧ storC (cs.getD off .junk) = true ∧ aops C os (({ S with heap := S.heap.set id (.cells (cs.set off (remc (cs.getD off .junk)))) } : AState).put d (cs.getD off .junk)) K
      | _ => False)
    | _ => False)) := by
  simp only[aops,astep,fev,storeV] <;> rfl
@[go_sem] theorem aops_store (sz : Nat) (p x : AOpn) : aops C (⟨d, .store sz p x, none⟩ :: os) S K = (storable (S.full x) = true ∧ (match S.rd p with
    | .box s off => (match (S.takeT x).boxes s with
      | some old => (S.full x).cells.length = sz ∧ off + sz ≤ old.length ∧ aops C os ((S.takeT x).setBox s (some (fillV old off (S.full x).cells))) K
      | none => False)
    | .hp id off => (match (S.takeT x).heap[id]? with
      | some (.cells old) => (S.full x).cells.length = sz ∧ off + sz ≤ old.length ∧ aops C os { (S.takeT x) with heap := (S.takeT x).heap.set id (.cells (fillV old off (S.full x).cells)) } K
      | _ => False)
    | _ => False)) := by
  simp only[aops,astep,fev,storeV] <;> rfl
@[go_sem] theorem aops_storeB (q sz : Nat) (p x : AOpn) : aops C (⟨d, .storeB q sz p x, none⟩ :: os) S K = (onlyV (q + 1) (S.rd p) ∧ storable (S.full x) = true ∧ (match S.rd p with
    | .box s off => (match (S.takeT x).boxes s with
      | some old => (S.full x).cells.length = sz ∧ off + sz ≤ old.length ∧ aops C os ((S.takeT x).setBox s (some (fillV old off (S.full x).cells))) K
      | none => False)
    | .hp id off => (match (S.takeT x).heap[id]? with
      | some (.cells old) => (S.full x).cells.length = sz ∧ off + sz ≤ old.length ∧ aops C os { (S.takeT x) with heap := (S.takeT x).heap.set id (.cells (fillV old off (S.full x).cells)) } K
      | _ => False)
    | _ => False)) := by
  simp only[aops,astep,fev,storeV] <;> rfl
@[go_sem] theorem aops_sliceT (sz t : Nat) (lo : Option AOpn) : aops C (⟨d, .sliceT sz t lo, none⟩ :: os) S K = (match S.env t, loV S.rd lo with | .lst (.app sz') xs, some l => sz' = sz ∧ 0 ≤ l ∧ l ≤ xs.length ∧ aops C os ((S.set t (.lst .sh xs)).put d (.lst (.app sz) (xs.drop l.toNat))) K | _, _ => False) := by
  simp only[aops,astep,fev,storeV] <;> rfl
@[go_sem] theorem aops_str8 (t : Nat) : aops C (⟨d, .str8 t, none⟩ :: os) S K = (match S.env t with | .lst (.uniq 1 _) xs => xs ≠ [] ∧ aops C os ((S.set t .junk).put d (.lst (.app 1) xs)) K | _ => False) := by
  simp only[aops,astep,fev,storeV] <;> rfl
@[go_sem] theorem aops_extT (i t : Nat) : aops C (⟨d, .extT i t, none⟩ :: os) S K = (match S.env t with | .tup vs => i < vs.length ∧ plainV (vs.getD i .junk) = true ∧ aops C os ((S.set t (.tup (vs.set i .junk))).put d (vs.getD i .junk)) K | _ => False) := by
  simp only[aops,astep,fev,storeV] <;> rfl
@[go_sem] theorem aops_append (sz bytes : Nat) (x y : AOpn) : aops C (⟨d, .append sz bytes x y, none⟩ :: os) S K = (match S.full x, srcV (S.rd y) with
    | .lst o xs, some ys => (match o with | .nil => xs = [] | .app sz' => sz' = sz | .uniq sz' _ => sz' = sz | .sh => False) ∧
          (∀ v ∈ ys, v.width = sz) ∧ (xs.length + ys.length) * bytes ≤ 140737488355328 ∧ xs.length + ys.length ≤ 140737488355328 ∧ aops C os ((S.takeT x).put d (.lst (.app sz) (xs ++ ys))) K
    | _, _ => False) := by
  simp only[aops,astep,fev,storeV] <;> rfl
theorem aops_isnil {mp neg : Bool} {x : AOpn} : aops C (⟨d, .isnil mp neg x, none⟩ :: os) S K = isnilV mp (S.rd x) (fun b => aops C os (S.put d (.bool (b != neg))) K) := rfl
theorem aops_mkf {g : Nat} {caps : List AOpn} : aops C (⟨d, .mkf g caps, none⟩ :: os) S K = ((∀ x ∈ caps, storable ((S.promAll caps).rd x) = true ∧ ((S.promAll caps).rd x).width = 1) ∧ aops C os ((S.promAll caps).put d (.func g (caps.map (S.promAll caps).rd))) K) := rfl
attribute [go_sem] aops_mkf
@[go_sem] theorem aops_bs0 : aops C (⟨d, .bs0, none⟩ :: os) S K = ((⟨True, .ref 0 0 0 0⟩ : FR).c ∧ S.live (⟨True, .ref 0 0 0 0⟩ : FR).v ∧ aops C os (S.put d (⟨True, .ref 0 0 0 0⟩ : FR).v) K) := rfl
@[go_sem] theorem aops_slnil (x y : AOpn) : aops C (⟨d, .slnil x y, none⟩ :: os) S K = ((slnilV (S.rd x) (S.rd y) : FR).c ∧ S.live (slnilV (S.rd x) (S.rd y) : FR).v ∧ aops C os (S.put d (slnilV (S.rd x) (S.rd y) : FR).v) K) := rfl
@[go_sem] theorem aops_mlook (ok ag : Bool) (sh : List Sh) (zero : AVal) (x y : AOpn) : aops C (⟨d, .mlook ok ag sh zero x y, none⟩ :: os) S K = ((mlookV S.heap ok ag sh zero (S.rd x) (S.rd y) : FR).c ∧ S.live (mlookV S.heap ok ag sh zero (S.rd x) (S.rd y) : FR).v ∧ aops C os (S.put d (mlookV S.heap ok ag sh zero (S.rd x) (S.rd y) : FR).v) K) := rfl
@[go_sem] theorem aops_mlen (x : AOpn) : aops C (⟨d, .mlen x, none⟩ :: os) S K = ((mlenV S.heap (S.rd x) : FR).c ∧ S.live (mlenV S.heap (S.rd x) : FR).v ∧ aops C os (S.put d (mlenV S.heap (S.rd x) : FR).v) K) := rfl
@[go_sem] theorem aops_appendZ {sz bytes : Nat} {x n : AOpn} : aops C (⟨d, .hop (.appendZ sz bytes x n), none⟩ :: os) S K = (match S.rd x, S.rd n with
    | .lst .nil _, .int _ m => 0 ≤ m ∧ m.toNat * bytes ≤ 140737488355328 ∧ m.toNat ≤ 140737488355328 ∧ (m = 0 → aops C os (S.put d (.ref 0 0 0 0)) K) ∧
        (m ≠ 0 → ∀ cap, m.toNat ≤ cap → aops C os (({ S with heap := S.heap ++ [.cells (List.replicate (cap * sz) .junk)] } : AState).put d (.ref S.heap.length 0 m.toNat cap)) K)
    | _, _ => False) := by
  simp only[aops,astep,fev,hstep,noBox,forall_const] <;> rfl
@[go_sem] theorem aops_mapset {ag : Bool} {sh : List Sh} {m k v : AOpn} : aops C (⟨d, .hop (.mapset ag sh m k v), none⟩ :: os) S K = (match S.rd m with
    | .map id => (match S.heap[id]? with
      | some (.map clock es) => keyOk ag sh (S.rd k) ∧ (∀ e ∈ es, keyOk ag sh e.2.1) ∧ plainV (S.rd v) = true ∧ aops C os (({ S with heap := S.heap.set id (mput clock es (S.rd k) (S.rd v)) } : AState).put d (.tup [])) K
      | _ => False)
    | _ => False) := by
  simp only[aops,astep,fev,hstep,noBox,forall_const] <;> rfl
@[go_sem] theorem aops_mapdel {ag : Bool} {sh : List Sh} {m k : AOpn} : aops C (⟨d, .hop (.mapdel ag sh m k), none⟩ :: os) S K = (match S.rd m with
    | .map id => (match S.heap[id]? with
      | some (.map clock es) => keyOk ag sh (S.rd k) ∧ (∀ e ∈ es, keyOk ag sh e.2.1) ∧ aops C os (({ S with heap := S.heap.set id (.map clock (mdelL (S.rd k) es)) } : AState).put d (.tup [])) K
      | _ => False)
    | .nilmap => keyOk ag sh (S.rd k) ∧ aops C os (S.put d (.tup [])) K
    | _ => False) := by
  simp only[aops,astep,fev,hstep,noBox,forall_const] <;> rfl
@[go_sem] theorem aops_mrange {m : AOpn} : aops C (⟨d, .hop (.mrange m), none⟩ :: os) S K = (match S.rd m with
    | .map id => (match S.heap[id]? with
      | some (.map clock es) => aops C os (({ S with heap := S.heap ++ [.iter id clock es es none] } : AState).put d (.hp S.heap.length 0)) K
      | _ => False)
    | _ => False) := by
  simp only[aops,astep,fev,hstep,noBox,forall_const] <;> rfl
@[go_sem] theorem aops_mnext {it : AOpn} : aops C (⟨d, .hop (.mnext it), none⟩ :: os) S K = (match S.rd it with
    | .hp i 0 => (match S.heap[i]? with
      | some (.iter m clock es left _) => (match S.heap[m]? with
        | some (.map clock' es') => clock' = clock ∧ es' = es ∧ (left = [] → aops C os (S.put d (.tup [.bool false])) K) ∧
            (∀ e ∈ left, aops C os (({ S with heap := S.heap.set i (.iter m clock es (left.filter fun x => x.1 != e.1) (some e.1)) } : AState).put d (.tup [.bool true, e.2.1, e.2.2])) K)
        | _ => False)
      | _ => False)
    | _ => False) := by
  simp only[aops,astep,fev,hstep,noBox,forall_const] <;> rfl
@[go_sem] theorem aops_mentry {it : AOpn} : aops C (⟨d, .hop (.mentry it), none⟩ :: os) S K = (match S.rd it with
    | .hp i 0 => (match S.heap[i]? with
      | some (.iter m clock es _ (some st)) => (match S.heap[m]? with
        | some (.map clock' es') => clock' = clock ∧ es' = es ∧ (match es.find? (fun x => x.1 == st) with | some e => aops C os (S.put d (.tup [e.2.1, e.2.2])) K | none => False)
        | _ => False)
      | _ => False)
    | _ => False) := by
  simp only[aops,astep,fev,hstep,noBox,forall_const] <;> rfl
theorem aops_hop {op : HOp} : aops C (⟨d, .hop op, none⟩ :: os) S K = hstep C S.rd S.heap op (fun v h => noBox v = true → aops C os (({ S with heap := h } : AState).put d v) K) := rfl
end
section
variable {os : List AO} {S : AState} {K : AState → Prop} {d : Option Nat}
def prS (pr : Bool) (args : List AOpn) (S : AState) : AState := if pr then S.promAll args else S
@[go_sem] theorem prS_f {args : List AOpn} : prS false args S = S := rfl
@[go_sem] theorem prS_t {args : List AOpn} : prS true args S = S.promAll args := rfl
def callG (C : CallS) (f : Nat) (vs : List AVal) (S : AState) (d : Option Nat) (os : List AO) (K : AState → Prop) : Prop :=
  (∀ v ∈ vs, noBox v = true) ∧ C f vs S.heap (fun r h => noBox r = true → aops C os (({ S with heap := h } : AState).put d r) K)
@[go_sem] theorem aops_callG {C : CallS} {pr : Bool} {f : Nat} {args : List AOpn} : aops C (⟨d, .call pr f args, none⟩ :: os) S K = callG C f (args.map (prS pr args S).rd) (prS pr args S) d os K := by
  simp only[aops,astep,fev,callG,prS,List.forall_mem_map]
theorem callG_ok {P : Program} {f : Nat} {vs : List AVal} {R : AVal → List HObj → Prop} (hc : ACalls P f vs S.heap R) (hb : ∀ v ∈ vs, noBox v = true) (hk : ∀ r h, R r h → aops (ACalls P) os (({ S with heap := h } : AState).put d r) K) : callG (ACalls P) f vs S d os K :=
  ⟨hb, ACalls.mono hc fun r h hr _ => hk r h hr⟩
def callqG (C : CallS) (f : Nat) (vs : List AVal) (S : AState) (d : Option Nat) (os : List AO) (K : AState → Prop) : Prop :=
  (∀ v ∈ vs, noBox v = true) ∧ C f vs S.heap (fun r h => h = S.heap ∧ (noBox r = true → noBox r = true → aops C os (({ S with heap := h } : AState).put d r) K))
@[go_sem] theorem aops_callqG {C : CallS} {f : Nat} {args : List AOpn} : aops C (⟨d, .hop (.callq f args), none⟩ :: os) S K = callqG C f (args.map S.rd) S d os K := by
  simp only[aops,astep,fev,hstep,callqG,List.forall_mem_map]
theorem callqG_ok {P : Program} {f : Nat} {vs : List AVal} {R : AVal → List HObj → Prop} (hc : ACalls P f vs S.heap R) (hb : ∀ v ∈ vs, noBox v = true) (hk : ∀ r h, R r h → h = S.heap ∧ aops (ACalls P) os (({ S with heap := h } : AState).put d r) K) : callqG (ACalls P) f vs S d os K :=
  ⟨hb, ACalls.mono hc fun r h hr => ⟨(hk r h hr).1, fun _ _ => (hk r h hr).2⟩⟩
def mkRG (C : CallS) (sz bytes : Nat) (zero : AVal) (x : AVal) (S : AState) (d : Option Nat) (os : List AO) (K : AState → Prop) : Prop := match x with
  | .int _ n => 0 ≤ n ∧ n * bytes ≤ 140737488355328 ∧ n ≤ 140737488355328 ∧ aops C os (({ S with heap := S.heap ++ [.cells ((List.replicate n.toNat zero).flatMap AVal.cells)] } : AState).put d (.ref S.heap.length 0 n.toNat n.toNat)) K
  | _ => False
attribute [go_sem] mkRG
def callpG (C : CallS) (f : Nat) (vs : List AVal) (S : AState) (d : Option Nat) (os : List AO) (K : AState → Prop) : Prop :=
  (∀ v ∈ vs, noBox v = true) ∧ ∃ R : AVal → Prop, (∀ hp', C f vs hp' (fun v h => h = hp' ∧ R v)) ∧ ∀ v, R v → noBox v = true → noBox v = true → aops C os (S.put d v) K
@[go_sem] theorem aops_callpG {C : CallS} {f : Nat} {args : List AOpn} : aops C (⟨d, .hop (.callp f args), none⟩ :: os) S K = callpG C f (args.map S.rd) S d os K := by
  simp only[aops,astep,fev,hstep,callpG,List.forall_mem_map]
theorem callpG_ok {P : Program} {f : Nat} {vs : List AVal} {R : AVal → Prop} (hc : ∀ hp', ACalls P f vs hp' (fun v h => h = hp' ∧ R v)) (hb : ∀ v ∈ vs, noBox v = true) (hk : ∀ r, R r → aops (ACalls P) os (S.put d r) K) : callpG (ACalls P) f vs S d os K :=
  ⟨hb, R, hc, fun v hv _ _ => hk v hv⟩
def callvG (C : CallS) (x : AVal) (vs : List AVal) (S : AState) (d : Option Nat) (os : List AO) (K : AState → Prop) : Prop :=
  match x with
  | .func g caps => (∀ v ∈ vs, noBox v = true) ∧ C g (vs ++ caps.map Ge.rdc) S.heap (fun r h => noBox r = true → aops C os (({ S with heap := h } : AState).put d r) K)
  | _ => False
@[go_sem] theorem aops_callvG {C : CallS} {pr : Bool} {x : AOpn} {args : List AOpn} : aops C (⟨d, .callv pr x args, none⟩ :: os) S K = callvG C ((prS pr args S).rd x) (args.map (prS pr args S).rd) (prS pr args S) d os K := by
  simp only[aops,astep,fev,callvG,prS,List.forall_mem_map]
  cases pr <;> simp only[Bool.false_eq_true,if_true,if_false] <;> rfl
def callvqG (C : CallS) (x : AVal) (vs : List AVal) (S : AState) (d : Option Nat) (os : List AO) (K : AState → Prop) : Prop :=
  match x with
  | .func g caps => (∀ v ∈ vs, noBox v = true) ∧ C g (vs ++ caps.map Ge.rdc) S.heap (fun r h => h = S.heap ∧ (noBox r = true → noBox r = true → aops C os (({ S with heap := h } : AState).put d r) K))
  | _ => False
@[go_sem] theorem aops_callvqG {C : CallS} {x : AOpn} {args : List AOpn} : aops C (⟨d, .hop (.callvq x args), none⟩ :: os) S K = callvqG C (S.rd x) (args.map S.rd) S d os K := by
  simp only[aops,astep,fev,hstep,callvqG,List.forall_mem_map] <;> rfl
theorem callvqG_ok {P : Program} {g : Nat} {caps vs : List AVal} {R : AVal → List HObj → Prop} (hc : ACalls P g (vs ++ caps.map Ge.rdc) S.heap R) (hb : ∀ v ∈ vs, noBox v = true) (hk : ∀ r h, R r h → h = S.heap ∧ aops (ACalls P) os (({ S with heap := h } : AState).put d r) K) : callvqG (ACalls P) (.func g caps) vs S d os K :=
  ⟨hb, ACalls.mono hc fun r h hr => ⟨(hk r h hr).1, fun _ _ => (hk r h hr).2⟩⟩
@[go_sem ↓] theorem eta_self : (⟨S.env, S.boxes, S.heap⟩ : AState) = S := rfl
end
def Rdo (o : Own) : Prop := o = .sh ∨ o = .nil
theorem Rdo.sh : Rdo .sh := .inl rfl
theorem Rdo.nil : Rdo .nil := .inr rfl
section
variable {o : Own} {xs : List AVal} {s : Nat}
@[go_sem] theorem rdv_o (h : Rdo o) : rdv (.lst o xs) = .lst o xs := by rcases h with rfl | rfl <;> rfl
@[go_sem] theorem rd1_o (h : Rdo o) : rd1 (.lst o xs) = .lst o xs := by rcases h with rfl | rfl <;> rfl
@[go_sem] theorem rdc_o (h : Rdo o) : Ge.rdc (.lst o xs) = .lst o xs := by rcases h with rfl | rfl <;> rfl
@[go_sem] theorem remV_o (h : Rdo o) : remV (.lst o xs) = .lst o xs := by rcases h with rfl | rfl <;> rfl
@[go_sem] theorem remc_o (h : Rdo o) : remc (.lst o xs) = .lst o xs := by rcases h with rfl | rfl <;> rfl
@[go_sem] theorem flC_o (h : Rdo o) : flC (.lst o xs) = true := by rcases h with rfl | rfl <;> rfl
end
@[go_sem] theorem fillV_nil {cs : List AVal} : fillV cs 0 [] = cs := by simp [fillV]
@[go_sem] theorem fillV_cons {c x : AVal} {cs new : List AVal} : fillV (c :: cs) 0 (x :: new) = x :: fillV cs 0 new := by simp [fillV]
@[go_sem] theorem fillV_succ {c : AVal} {cs new : List AVal} {k : Nat} : fillV (c :: cs) (k + 1) new = c :: fillV cs k new := by simp [fillV, Nat.add_right_comm]
@[go_sem] theorem retQ_ret {rs : List ARes} {Q : AVal → List HObj → Prop} {S : AState} : retQ rs Q .ret S = ((ress S rs).c ∧ Q (ress S rs).v S.heap) := rfl
@[go_sem] theorem retQ_normal {rs : List ARes} {Q : AVal → List HObj → Prop} {S : AState} : retQ rs Q .normal S = ((ress S rs).c ∧ Q (ress S rs).v S.heap) := rfl
@[go_sem] theorem resV_t {S : AState} {n : Nat} : resV S (.t n) = ⟨plainV (S.env n) = true, S.env n⟩ := rfl
@[go_sem] theorem resV_c {S : AState} {a sz : Nat} {ag : Bool} : resV S (.c a ag sz) = (match S.env a with
    | .box s 0 => (match S.boxes s with
      | some cs => if ag then ⟨s = a ∧ cs.length = sz, .agg cs⟩ else ⟨s = a ∧ cs.length = 1 ∧ plainV (Ge.rdc (cs.headD .junk)) = true, Ge.rdc (cs.headD .junk)⟩
      | none => ⟨False, .junk⟩)
    | .hp id off => ⟨(memV S.boxes S.heap ag sz (.hp id off)).c ∧ plainV (memV S.boxes S.heap ag sz (.hp id off)).v = true, (memV S.boxes S.heap ag sz (.hp id off)).v⟩
    | _ => ⟨False, .junk⟩) := rfl
@[go_sem] theorem ress0 {S : AState} : ress S [] = ⟨∀ r ∈ ([] : List ARes), (resV S r).c, .tup []⟩ := rfl
@[go_sem] theorem ress1 {S : AState} {r : ARes} : ress S [r] = resV S r := rfl
@[go_sem] theorem ress2 {S : AState} {r q : ARes} : ress S [r, q] = ⟨(resV S r).c ∧ (resV S q).c, .tup [(resV S r).v, (resV S q).v]⟩ := by simp [ress]
@[go_sem] theorem ress3 {S : AState} {r q p : ARes} : ress S [r, q, p] = ⟨(resV S r).c ∧ (resV S q).c ∧ (resV S p).c, .tup [(resV S r).v, (resV S q).v, (resV S p).v]⟩ := by simp [ress]
def ints (k : IntKind) (ns : List Int) : List AVal := ns.map (AVal.int k)
section
variable {C : CallS} {Q : AExit → AState → Prop} {K : AState → Prop} {S : AState}
@[go_sem] theorem then_normal : AExit.then K Q .normal S = K S := rfl
@[go_sem] theorem then_ret : AExit.then K Q .ret S = Q .ret S := rfl
@[go_sem] theorem then_exit {i : Nat} : AExit.then K Q (.exit i) S = Q (.exit i) S := rfl
@[go_sem] theorem inB_normal {i : Nat} : AExit.inBlock i Q .normal S = Q .normal S := rfl
@[go_sem] theorem inB_ret {i : Nat} : AExit.inBlock i Q .ret S = Q .ret S := rfl
@[go_sem] theorem inB_exit {i j : Nat} : AExit.inBlock i Q (.exit j) S = if j = i then Q .normal S else Q (.exit j) S := rfl
@[go_sem] theorem aw_seq {a b : ACode} : aw C (.seq a b) Q S = aw C a (AExit.then (aw C b Q) Q) S := rfl
@[go_sem] theorem aw_drawn {ix dn : List Nat} {l : List AO} : aw C (.drawn ix dn l) Q S = ((∀ s ∈ alS l, S.boxes s = none) ∧ aops C l S (Q .normal)) := rfl
def condG (C : CallS) (v : AVal) (a b : ACode) (Q : AExit → AState → Prop) (S : AState) : Prop :=
  match v with
  | .bool t => (t = true → aw C a Q S) ∧ (t = false → aw C b Q S)
  | _ => False
@[go_sem] theorem aw_condG {c : AOpn} {a b : ACode} : aw C (.cond c a b) Q S = condG C (S.rd c) a b Q S := by
  simp only[aw,condG]; rfl
@[go_sem] theorem condG_t {a b : ACode} : condG C (.bool true) a b Q S = aw C a Q S := by simp [condG]
@[go_sem] theorem condG_f {a b : ACode} : condG C (.bool false) a b Q S = aw C b Q S := by simp [condG]
theorem condG_split {a b : ACode} {t : Bool} (h1 : t = true → aw C a Q S) (h2 : t = false → aw C b Q S) : condG C (.bool t) a b Q S := ⟨h1, h2⟩
theorem condG_if {a b : ACode} {p : Prop} [Decidable p] (h1 : p → aw C a Q S) (h2 : ¬p → aw C b Q S) : condG C (.bool (decide p)) a b Q S := ⟨fun e => h1 (of_decide_eq_true e), fun e => h2 (of_decide_eq_false e)⟩
@[go_sem] theorem aw_region {l : List AO} : aw C (.region l) Q S = aops C l S (Q .normal) := rfl
@[go_sem] theorem aw_block {i : Nat} {a : ACode} : aw C (.block i a) Q S = aw C a (AExit.inBlock i Q) S := rfl
@[go_sem] theorem aw_skip : aw C .skip Q S = Q .normal S := rfl
@[go_sem] theorem aw_exit {i : Nat} : aw C (.exit i) Q S = Q (.exit i) S := rfl
@[go_sem] theorem aw_ret : aw C .ret Q S = Q .ret S := rfl
@[go_sem] theorem aw_prom {s : Nat} {a : ACode} : aw C (.prom s a) Q S = aw C a Q (S.promote s) := rfl
@[go_sem] theorem aw_halt : aw C .halt Q S = False := rfl
@[go_sem] theorem aw_kill {s : Nat} {a : ACode} : aw C (.kill s a) Q S = aw C a Q ((S.drop s).setBox s none) := rfl
theorem aw_loop {a : ACode} (I : AState → Prop) (μ : AState → Nat) (h : I S) (r : ∀ S, I S → aw C a (AExit.then (fun S' => I S' ∧ μ S' < μ S) Q) S) : aw C (.loop a) Q S := ⟨I, μ, h, r⟩
theorem aops_mono (hC : CMono C) : ∀ (l : List AO) {S : AState} {K K' : AState → Prop}, (∀ S', K S' → K' S') → aops C l S K → aops C l S K'
  | [], _, _, _, hm, h => hm _ h
  | o :: l, S, K, K', hm, h => by
    rw [aops_cons] at h ⊢
    exact aop1_mono hC (fun S1 h1 => aops_mono hC l hm h1) h
theorem aw_mono (hC : CMono C) : ∀ (a : ACode) {Q Q' : AExit → AState → Prop} {S : AState}, (∀ e S', Q e S' → Q' e S') → aw C a Q S → aw C a Q' S
  | .skip, _, _, _, hm, h => hm _ _ h
  | .region l, _, _, _, hm, h => aops_mono hC l (hm _) h
  | .drawn _ _ l, _, _, _, hm, h => ⟨h.1, aops_mono hC l (hm _) h.2⟩
  | .seq a b, Q, Q', S, hm, h => by
    simp only[aw] at h ⊢
    refine aw_mono hC a ?_ h
    intro e S' h'
    cases e with
    | normal => exact aw_mono hC b hm h'
    | exit i => exact hm _ _ h'
    | ret => exact hm _ _ h'
  | .cond c a b, Q, Q', S, hm, h => by
    simp only[aw] at h ⊢
    split at h
    · exact ⟨fun e => aw_mono hC a hm (h.1 e), fun e => aw_mono hC b hm (h.2 e)⟩
    · exact h.elim
  | .block i a, Q, Q', S, hm, h => by
    simp only[aw] at h ⊢
    refine aw_mono hC a ?_ h
    intro e S' h'
    cases e with
    | normal => exact hm _ _ h'
    | exit j =>
      simp only[AExit.inBlock] at h' ⊢
      split
      · rename_i e; rw [if_pos e] at h'; exact hm _ _ h'
      · rename_i e; rw [if_neg e] at h'; exact hm _ _ h'
    | ret => exact hm _ _ h'
  | .loop a, Q, Q', S, hm, h => by
    obtain ⟨I, μ, h1, h2⟩ := h
    refine ⟨I, μ, h1, fun S' h' => aw_mono hC a ?_ (h2 S' h')⟩
    intro e S1 h3
    cases e with
    | normal => exact h3
    | exit i => exact hm _ _ h3
    | ret => exact hm _ _ h3
  | .exit _, _, _, _, hm, h => hm _ _ h
  | .ret, _, _, _, hm, h => hm _ _ h
  | .kill _ a, _, _, _, hm, h => aw_mono hC a hm h
  | .prom _ a, _, _, _, hm, h => aw_mono hC a hm h
  | .thaw _ a, _, _, _, hm, h => by
    simp only[aw] at h ⊢
    split at h
    · exact ⟨h.1, h.2.1, h.2.2.1, aw_mono hC a hm h.2.2.2⟩
    · exact aw_mono hC a hm h
    · exact h.elim
  | .own _ _ _ a, _, _, _, hm, h => by
    simp only[aw] at h ⊢
    split at h
    · split at h
      · rename_i h0; rw [if_pos h0]; exact aw_mono hC a hm h
      · rename_i h0
        rw [if_neg h0]
        split at h
        · exact ⟨h.1, h.2.1, h.2.2.1, h.2.2.2.1, h.2.2.2.2.1, aw_mono hC a hm h.2.2.2.2.2⟩
        · exact h.elim
    · exact aw_mono hC a hm h
    · exact h.elim
  | .grab _ a, _, _, _, hm, h => by
    simp only[aw] at h ⊢
    split at h
    · exact aw_mono hC a hm h
    · exact aw_mono hC a hm h
    · exact h.elim
  | .halt, _, _, _, _, h => h.elim
theorem aw_count {P : Program} {a : ACode} (I : Nat → AState → Prop) {n : Nat} (h : I n S) (r : ∀ n S, I n S → aw (ACalls P) a (AExit.then (fun S' => ∃ m, m < n ∧ I m S') Q) S) : aw (ACalls P) (.loop a) Q S := by
  have hl : ∀ S, (∃ n, I n S) → I (open Classical in if h : ∃ n, I n S then Classical.choose (least h) else 0) S ∧ ∀ m, I m S → (open Classical in if h : ∃ n, I n S then Classical.choose (least h) else 0) ≤ m := by
    intro S hS
    rw [dif_pos hS]
    exact Classical.choose_spec (least hS)
  refine aw_loop (fun S => ∃ n, I n S) (fun S => open Classical in if h : ∃ n, I n S then Classical.choose (least h) else 0) ⟨n, h⟩ ?_
  intro S hS
  refine aw_mono (CMono_ACalls P) a ?_ (r _ S (hl S hS).1)
  intro e S' h'
  cases e with
  | normal =>
    obtain ⟨m, h1, h2⟩ := h'
    exact ⟨⟨m, h2⟩, Nat.lt_of_le_of_lt ((hl S' ⟨m, h2⟩).2 m h2) h1⟩
  | exit i => exact h'
  | ret => exact h'
end
attribute [irreducible] aopsG condG callG callvG callqG callvqG callpG
end Go.Ge
set_option linter.unusedSimpArgs false
set_option linter.unusedVariables false
namespace Go.Ge

mutual
def AVal.ids : AVal → Nat
  | .hp id _ => id + 1
  | .ref id _ _ cap => if cap = 0 then 0 else id + 1
  | .map id => id + 1
  | .agg cs => idsL cs
  | .tup cs => idsL cs
  | .lst _ cs => idsL cs
  | .cptr cs => idsL cs
  | .func _ cs => idsL cs
  | _ => 0
def idsL : List AVal → Nat
  | [] => 0
  | a :: l => max a.ids (idsL l)
end
section
variable {g : Gh} {w : World} {m : Nat}
end
section
variable {g : Gh} {w : World}
end
end Go.Ge
set_option linter.unusedSimpArgs false
set_option linter.unusedVariables false
namespace Go.Ge
theorem wrapI64 {n : Int} (h1 : -9223372036854775808 ≤ n) (h2 : n < 9223372036854775808) : IntKind.i64.wrap n = n := by
  simp only[IntKind.wrap,IntKind.bits,IntKind.signed]; simp; omega
theorem wrapU64 {n : Int} (h1 : 0 ≤ n) (h2 : n < 18446744073709551616) : IntKind.u64.wrap n = n := by
  simp only[IntKind.wrap,IntKind.bits,IntKind.signed]; simp; omega
theorem wrapU32 {n : Int} (h1 : 0 ≤ n) (h2 : n < 4294967296) : IntKind.u32.wrap n = n := by
  simp only[IntKind.wrap,IntKind.bits,IntKind.signed]; simp; omega
theorem tmodE {a b : Int} (h : 0 ≤ a) : a.tmod b = a % b := Int.tmod_eq_emod_of_nonneg h
theorem int_beq (a b : Int) : (a == b) = decide (a = b) := by
  by_cases h : a = b <;> simp [h]
theorem int_bne (a b : Int) : (a != b) = decide (¬a = b) := by
  by_cases h : a = b <;> simp [h]
section
variable {C : CallS} {S : AState} {K : AState → Prop} {d : Option Nat} {os : List AO}
theorem aopsG_ifn {op : AOp} {want : Bool} {p : Prop} [Decidable p] (h1 : ¬p → aopsG C d op want (.bool true) os S K) (h2 : p → aopsG C d op want (.bool false) os S K) : aopsG C d op want (.bool (decide (¬p))) os S K :=
  aopsG_if h1 fun h => h2 (Decidable.not_not.1 h)
theorem condG_ifn {Q : AExit → AState → Prop} {a b : ACode} {p : Prop} [Decidable p] (h1 : ¬p → aw C a Q S) (h2 : p → aw C b Q S) : condG C (.bool (decide (¬p))) a b Q S :=
  condG_if h1 fun h => h2 (Decidable.not_not.1 h)
end
theorem at_map {α : Type} [Inhabited α] {f : α → AVal} (xs : List α) (i : Nat) (h : i < xs.length) : at_ (xs.map f) (i : Int) = f (xs.getD i default) := by
  simp [at_, List.getD_eq_getElem?_getD, h]
theorem aops_isnilR {C : CallS} {d : Option Nat} {os : List AO} {S : AState} {K : AState → Prop} {neg : Bool} {x : AOpn} {o : Own} {xs : List AVal} (hx : S.rd x = .lst o xs) (ho : o = .sh ∨ o = .nil) (hn : o = .nil → xs = []) (hk : ∀ b : Bool, (xs ≠ [] → b = false) → aops C os (S.put d (.bool (b != neg))) K) :
    aops C (⟨d, .isnil false neg x, none⟩ :: os) S K := by
  rw [aops_isnil, hx]
  rcases ho with rfl | rfl
  · exact ⟨rfl, hk⟩
  · exact ⟨rfl, hk true fun h => absurd (hn rfl) h⟩
section
variable {C : CallS} {Q : AExit → AState → Prop} {S : AState} {a : ACode} {s n : Nat} {k : IntKind} {ns : List Int}
end
section
variable {C : CallS} {Q : AExit → AState → Prop} {S : AState} {a : ACode} {s sz : Nat} {ag : Bool}
end
def Fr (S : List Nat) (h h' : List HObj) : Prop := h.length ≤ h'.length ∧ ∀ i, i < h.length → i ∉ S → h'[i]? = h[i]?
theorem Fr.refl (S : List Nat) (h : List HObj) : Fr S h h := ⟨Nat.le_refl _, fun _ _ _ => rfl⟩
theorem Fr.trans {S S' : List Nat} {h h1 h2 : List HObj} (a : Fr S h h1) (b : Fr S' h1 h2) (hs : ∀ i ∈ S', i ∈ S ∨ h.length ≤ i) : Fr S h h2 :=
  ⟨Nat.le_trans a.1 b.1, fun i hi hn => by
    rw [b.2 i (Nat.lt_of_lt_of_le hi a.1) (fun hm => (hs i hm).elim hn fun h' => absurd hi (by omega)), a.2 i hi hn]⟩
theorem Fr.mono {S S' : List Nat} {h h' : List HObj} (a : Fr S h h') (hs : ∀ i ∈ S, i ∈ S' ∨ h.length ≤ i) : Fr S' h h' :=
  ⟨a.1, fun i hi hn => a.2 i hi (fun hm => (hs i hm).elim hn fun h' => by omega)⟩
theorem Fr.set {S : List Nat} {h : List HObj} {i : Nat} {o : HObj} (hi : i ∈ S) : Fr S h (h.set i o) :=
  ⟨by simp, fun j _ hn => List.getElem?_set_ne (by rintro rfl; exact hn hi)⟩
theorem Fr.app {S : List Nat} {h l : List HObj} : Fr S h (h ++ l) := ⟨by simp, fun i hi _ => List.getElem?_append_left hi⟩
theorem Fr.get {S : List Nat} {h h' : List HObj} (a : Fr S h h') {i : Nat} {o : HObj} (hn : i ∉ S) (ho : h[i]? = some o) : h'[i]? = some o := by
  rw [a.2 i (List.getElem?_eq_some_iff.1 ho).1 hn]; exact ho
theorem lt_of_get {h : List HObj} {i : Nat} {o : HObj} (ho : h[i]? = some o) : i < h.length := (List.getElem?_eq_some_iff.1 ho).1
theorem get_set {h : List HObj} {i : Nat} {o o' : HObj} (ho : h[i]? = some o) : (h.set i o')[i]? = some o' := by
  have := lt_of_get ho
  simp [this]
theorem get_set_ne {h : List HObj} {i j : Nat} {o : HObj} (hn : i ≠ j) : (h.set i o)[j]? = h[j]? := List.getElem?_set_ne hn
theorem flat_len {sz : Nat} : ∀ {xs : List AVal}, (∀ x ∈ xs, x.cells.length = sz) → (xs.flatMap AVal.cells).length = xs.length * sz
  | [], _ => by simp
  | x :: xs, h => by
    rw [List.flatMap_cons, List.length_append, flat_len (fun y hy => h y (by simp [hy])), h x (by simp), List.length_cons, Nat.add_mul]; omega
attribute [go_sem] Bool.and_self Bool.and_true Bool.bne_false Bool.bne_true Bool.false_eq_true Bool.not_false Bool.not_true Bool.true_eq_false Int.toNat_natCast List.all_cons List.all_nil List.append_assoc List.append_nil List.cons_append List.drop_succ_cons List.drop_zero List.getD_cons_succ List.getD_cons_zero List.getElem?_cons_succ List.getElem?_cons_zero List.headD_cons List.length_append List.length_cons List.length_nil List.map_cons List.map_nil List.mem_cons List.nil_append List.not_mem_nil List.set_cons_succ List.set_cons_zero List.take_succ_cons List.take_zero Nat.add_zero Nat.zero_add Option.isSome_some and_true bne_self_eq_false false_implies forall_const forall_eq forall_eq_or_imp ge_iff_le gt_iff_lt if_false if_true implies_true or_false tmodE true_and wrapI64 wrapU64
end Go.Ge
set_option linter.unusedSimpArgs false
set_option linter.unusedVariables false
namespace Go.Ge
open Go.RowKit

inductive Ty where
  | int (k : IntKind)
  | bool
  | str
  | slice (bytes : Nat) (ag : Bool) (es : List Ty)
  deriving Inhabited

def packV (ag : Bool) (cs : List AVal) : AVal := if ag then .agg cs else cs.headD .junk
def packU (ag : Bool) (us : List Value) : Value := if ag then .agg us.toArray else us.headD undef
mutual
def HasC : Ty → AVal → Prop
  | .int k, x => ∃ n, x = .int k n ∧ (Lit.int k n).wf = true
  | .bool, x => ∃ b, x = .bool b
  | .str, x => ∃ s : ByteArray, x = .str s ∧ s.size ≤ reachBytes
  | .slice by_ ag es, x => ∃ o xs, x = .lst o xs ∧ (o = .sh ∨ o = .nil ∧ xs = []) ∧ xs.length ≤ maxLen ∧ xs.length * by_ ≤ reachBytes ∧ ∀ y ∈ xs, ∃ cs, y = packV ag cs ∧ HasL es cs
def HasL : List Ty → List AVal → Prop
  | [], xs => xs = []
  | t :: ts, xs => ∃ y ys, xs = y :: ys ∧ HasC t y ∧ HasL ts ys
end

def fieldTys (P : Program) (rec : TypeId → Option (List Ty)) : List Field → Nat → Option (List Ty × Nat)
  | [], off => some ([], off)
  | f :: fs, off => if f.offset = off then
      match rec f.type with
      | some es => if es.length = P.cellsOf f.type then
          match fieldTys P rec fs (off + es.length) with
          | some (r, n) => some (es ++ r, n)
          | none => none
        else none
      | none => none
    else none
def repTys (n : Nat) (es : List Ty) : List Ty := (List.replicate n es).flatten
def cellTys (P : Program) : Nat → TypeId → Option (List Ty)
  | 0, _ => none
  | d + 1, t => match P.underlying t with
    | some (.int k) => some [.int k]
    | some .bool => some [.bool]
    | some .string => some [.str]
    | some (.slice e) => match cellTys P d e with
      | some es => if es.length = P.cellsOf e ∧ 0 < es.length ∧ (P.underlying e).isSome = true then some [.slice (P.bytesOf e) (aggT P e) es] else none
      | none => none
    | some (.struct fs) => match fieldTys P (cellTys P d) fs.toList 0 with
      | some (r, n) => if n = P.cellsOf t then some r else none
      | none => none
    | some (.array n e) => match cellTys P d e with
      | some es => if es.length = P.cellsOf e ∧ n * es.length = P.cellsOf t then some (repTys n es) else none
      | none => none
    | _ => none

mutual
def bulkV : AVal → Nat
  | .lst _ xs => bulkVs xs + 1
  | .agg cs => bulkVs cs
  | .str s => s.size + 1
  | _ => 1
def bulkVs : List AVal → Nat
  | [] => 0
  | x :: l => bulkV x + bulkVs l
end
theorem bulkVs_append (a b : List AVal) : bulkVs (a ++ b) = bulkVs a + bulkVs b := by
  induction a with
  | nil => simp [bulkVs]
  | cons x l ih => simp only[List.cons_append,bulkVs,ih]; omega
mutual
def bulkD {H : Type} : DataW H → Nat
  | .lit (.string bytes) => bytes.length + 1
  | .lit _ => 1
  | .nil => 1
  | .ptr d => bulkD d + 1
  | .slice elems spare => bulkDs elems + bulkDs spare + 1
  | .agg parts => bulkDs parts + 1
  | .iface _ d => bulkD d + 1
  | .map entries => bulkDe entries + 1
  | .held _ => 1
def bulkDs {H : Type} : List (DataW H) → Nat
  | [] => 0
  | d :: r => bulkD d + bulkDs r
def bulkDe {H : Type} : List (Lit × DataW H) → Nat
  | [] => 0
  | x :: r => bulkD1 x + bulkDe r
def bulkD1 {H : Type} : Lit × DataW H → Nat
  | (.string bytes, d) => bytes.length + bulkD d + 1
  | (_, d) => bulkD d + 1
end
theorem bulkDs_append {H : Type} (a b : List (DataW H)) : bulkDs (a ++ b) = bulkDs a + bulkDs b := by
  induction a with
  | nil => simp [bulkDs]
  | cons x l ih => simp only[List.cons_append,bulkDs,ih]; omega
theorem HasL.append : ∀ {l1 bs : List Ty} {xs ys : List AVal}, HasL l1 xs → HasL bs ys → HasL (l1 ++ bs) (xs ++ ys)
  | [], bs, xs, ys, h, k => by simp only[HasL] at h; subst h; simpa using k
  | t :: l, bs, xs, ys, h, k => by
    simp only[HasL] at h
    obtain ⟨y, zs, rfl, h1, h2⟩ := h
    simp only[List.cons_append,HasL]
    exact ⟨y, zs ++ ys, rfl, h1, h2.append k⟩
theorem HasL.length : ∀ {l1 : List Ty} {xs : List AVal}, HasL l1 xs → xs.length = l1.length
  | [], xs, h => by simp only[HasL] at h; subst h; rfl
  | t :: l, xs, h => by
    simp only[HasL] at h
    obtain ⟨y, zs, rfl, h1, h2⟩ := h
    simp [h2.length]
theorem HasC.noBox {t : Ty} {x : AVal} (h : HasC t x) : storC x = true ∧ flC x = true := by
  cases t <;> simp only[HasC] at h
  · obtain ⟨n, rfl, _⟩ := h; exact ⟨rfl, rfl⟩
  · obtain ⟨n, rfl⟩ := h; exact ⟨rfl, rfl⟩
  · obtain ⟨n, rfl, _⟩ := h; exact ⟨rfl, rfl⟩
  · obtain ⟨o, xs, rfl, ho, _⟩ := h
    rcases ho with rfl | ⟨rfl, _⟩ <;> exact ⟨rfl, rfl⟩

def Gh.all (w : World) : Gh := ⟨fun b => match w.heap[b]? with | some (.cells c _ _) => c.size | _ => 0, fun _ => .no, fun _ => (0, 0), fun _ => 0, 0⟩
theorem St.all {w : World} {b o : Nat} {v : Value} (h : w.cell? ⟨b, o, none⟩ = some v) (h1 : v.oneCell' = true) : St (Gh.all w) w b o v := by
  refine ⟨?_, h, h1⟩
  simp only[World.cell?] at h
  simp only[Gh.all]
  split at h
  · rename_i c e fz hb
    rw [hb]
    simp at h
    exact (Array.getElem?_eq_some_iff.1 h).1
  · cases h
theorem RHeap.all (w : World) : RHeap (Gh.all w) w [] := ⟨rfl, fun id o h => by simp at h, fun _ _ => rfl⟩

section
variable {H : Type} {enc : TypeId × Value → H} {P : Program} {W : World}
def Reads (W : World) (es : List Ty) (cs : List Value) (N : Nat) : Prop := ∃ xs, HasL es xs ∧ RIs (Gh.all W) W xs cs ∧ (∀ c ∈ cs, c.oneCell' = true) ∧ bulkVs xs ≤ N
theorem Reads.append {l1 bs : List Ty} {xs ys : List Value} {N M : Nat} (h : Reads W l1 xs N) (k : Reads W bs ys M) : Reads W (l1 ++ bs) (xs ++ ys) (N + M) := by
  obtain ⟨x, h1, h2, h3, h4⟩ := h
  obtain ⟨y, k1, k2, k3, k4⟩ := k
  exact ⟨x ++ y, h1.append k1, h2.append k2, fun c hc => (List.mem_append.1 hc).elim (h3 c) (k3 c), by rw [bulkVs_append]; omega⟩
theorem Reads.nil : Reads W [] [] 0 := ⟨[], by simp [HasL], by simp [RIs], by simp, by simp [bulkVs]⟩
theorem Reads.one {t : Ty} {x : AVal} {v : Value} {N : Nat} (h : HasC t x) (k : RI (Gh.all W) W x v) (o : v.oneCell' = true) (hn : bulkV x ≤ N) : Reads W [t] [v] N :=
  ⟨[x], by simp only[HasL]; exact ⟨x, [], rfl, h, rfl⟩, by simp only[RIs]; exact ⟨v, [], rfl, k, rfl⟩, by simpa using o, by simpa [bulkVs] using hn⟩
theorem Reads.le {es : List Ty} {cs : List Value} {N M : Nat} (h : Reads W es cs N) (hle : N ≤ M) : Reads W es cs M := by
  obtain ⟨xs, h1, h2, h3, h4⟩ := h
  exact ⟨xs, h1, h2, h3, by omega⟩
theorem Reads.length {es : List Ty} {cs : List Value} {N : Nat} (h : Reads W es cs N) : cs.length = es.length := by
  obtain ⟨xs, h1, h2, _⟩ := h
  rw [h2.length, h1.length]

theorem mapM_some {α β : Type} {f : α → Option β} : ∀ {l : List α} {r : List β}, l.mapM f = some r → r.length = l.length ∧ ∀ (i : Nat) (x : α), l[i]? = some x → ∃ y, r[i]? = some y ∧ f x = some y
  | [], r, h => by simp at h; subst h; simp
  | a :: l, r, h => by
    simp only[List.mapM_cons,Option.bind_eq_bind,Option.bind_eq_some_iff,Option.pure_def,Option.some.injEq] at h
    obtain ⟨y, h1, ys, h2, rfl⟩ := h
    obtain ⟨k1, k2⟩ := mapM_some h2
    refine ⟨by simp [k1], fun i x hx => ?_⟩
    cases i with
    | zero => simp at hx; subst hx; exact ⟨y, by simp, h1⟩
    | succ i => simpa using k2 i x (by simpa using hx)
theorem weightsAll_mem {e : TypeId} {m : Nat} : ∀ {ds : List (DataW H)}, (∀ x ∈ DataW.weightsAll P e ds, x ≤ m) → ∀ d ∈ ds, ∀ x ∈ d.weights P e, x ≤ m
  | [], _, d, hd => by simp at hd
  | c :: ds, h, d, hd => by
    simp only[DataW.weightsAll,List.mem_append] at h
    rcases List.mem_cons.1 hd with rfl | hd
    · exact fun x hx => h x (.inl hx)
    · exact weightsAll_mem (fun x hx => h x (.inr hx)) d hd
theorem weightsEach_cons {m : Nat} {t : TypeId} {ts : List TypeId} {d : DataW H} {ds : List (DataW H)} (h : ∀ x ∈ DataW.weightsEach P (t :: ts) (d :: ds), x ≤ m) : (∀ x ∈ d.weights P t, x ≤ m) ∧ ∀ x ∈ DataW.weightsEach P ts ds, x ≤ m := by
  simp only[DataW.weightsEach,List.mem_append] at h
  exact ⟨fun x hx => h x (.inl hx), fun x hx => h x (.inr hx)⟩
theorem cell_nospot {a : Addr} {v : Value} (h : W.cell? a = some v) : a.spot = none := by
  simp only[World.cell?] at h
  split at h
  · split at h
    · cases h
    · rename_i hs; simpa using hs
  · cases h

theorem fields_read {rec : TypeId → Option (List Ty)} {tr : TypeId → List Value → Option (DataW H × List MemPlace)} {m : Nat}
    (ih : ∀ t cs d ps es, tr t cs = some (d, ps) → rec t = some es → (∀ x ∈ d.weights P t, x ≤ m) → Reads W es cs (bulkD d)) :
    ∀ (fs : List Field) (cs : List Value) (off k : Nat) (r : List Ty) (xs : List (DataW H × List MemPlace)), fs.mapM (fun f => tr f.type ((cs.drop f.offset).take (P.cellsOf f.type))) = some xs → fieldTys P rec fs off = some (r, k) →
      (∀ x ∈ DataW.weightsEach P (fs.map (·.type)) (xs.map (·.1)), x ≤ m) → k = cs.length → off ≤ cs.length → Reads W r (cs.drop off) (bulkDs (xs.map (·.1)))
  | [], cs, off, k, r, xs, h, hf, hw, hk, hle => by
    simp only[fieldTys,Option.some.injEq,Prod.mk.injEq] at hf
    obtain ⟨rfl, rfl⟩ := hf
    rw [hk, List.drop_length]; exact Reads.nil.le (Nat.zero_le _)
  | f :: fs, cs, off, k, r, xs, h, hf, hw, hk, hle => by
    simp only[List.mapM_cons,Option.bind_eq_bind,Option.bind_eq_some_iff,Option.pure_def,Option.some.injEq] at h
    obtain ⟨y, h1, ys, h2, rfl⟩ := h
    obtain ⟨d, ps⟩ := y
    simp only[fieldTys] at hf
    split at hf
    case isFalse => cases hf
    rename_i hoff
    split at hf
    case h_2 => cases hf
    rename_i es hes
    split at hf
    case isFalse => cases hf
    rename_i hlen
    split at hf
    case h_2 => cases hf
    rename_i r' n' hr'
    simp only[Option.some.injEq,Prod.mk.injEq] at hf
    obtain ⟨rfl, rfl⟩ := hf
    simp only[List.map_cons] at hw
    obtain ⟨hw1, hw2⟩ := weightsEach_cons hw
    subst hoff
    have hr1 := ih _ _ _ _ _ h1 hes hw1
    have hl1 := hr1.length
    rw [List.length_take, List.length_drop] at hl1
    have h3 := fields_read ih fs cs (f.offset + es.length) n' r' ys h2 hr' hw2 hk (by omega)
    have e : cs.drop f.offset = (cs.drop f.offset).take (P.cellsOf f.type) ++ cs.drop (f.offset + es.length) := by
      rw [← List.drop_drop, hlen, List.take_append_drop]
    rw [e]
    exact (hr1.append h3).le (by simp [bulkDs])
theorem trod_reads : ∀ (fuel dd : Nat) (t : TypeId) (cs : List Value) (d : DataW H) (ps : List MemPlace) (es : List Ty), DataW.trod enc P W 0 (fun _ => true) true fuel t cs = some (d, ps) → cellTys P dd t = some es →
    (∀ x ∈ d.weights P t, x ≤ reachBytes) → Reads W es cs (bulkD d)
  | 0, _, _, _, _, _, _, h, _, _ => by simp [DataW.trod] at h
  | _ + 1, 0, _, _, _, _, _, _, h, _ => by simp [cellTys] at h
  | fuel + 1, dd + 1, t, cs, d, ps, es, h, hc, hw => by
    have ih : ∀ t cs d ps es, DataW.trod enc P W 0 (fun _ => true) true fuel t cs = some (d, ps) → cellTys P dd t = some es → (∀ x ∈ d.weights P t, x ≤ reachBytes) → Reads W es cs (bulkD d) := fun t cs d ps es => trod_reads fuel dd t cs d ps es
    simp only[cellTys] at hc
    have none0 : ∀ {x : DataW H × List MemPlace}, (none : Option (DataW H × List MemPlace)) = some x → False := by intro x h; cases h
    split at hc
    · -- int
      rename_i k hu
      cases hc
      unfold DataW.trod at h
      rw [hu] at h
      split at h <;> (try (rename_i e1; cases e1)) <;> (try (cases h; done))
      split at h
      · rename_i hk
        obtain ⟨rfl, hk⟩ := hk
        rename_i k' m
        exact Reads.one (x := .int k' m) (by simp only[HasC]; exact ⟨_, rfl, hk⟩) (by simp [RI]) rfl (by simp only[Option.some.injEq,Prod.mk.injEq] at h; rw [← h.1]; simp [bulkV, bulkD])
      · cases h
    · rename_i hu
      cases hc
      unfold DataW.trod at h
      rw [hu] at h
      split at h <;> (try (rename_i e1; cases e1)) <;> (try (cases h; done))
      rename_i b
      exact Reads.one (x := .bool b) (by simp only[HasC]; exact ⟨_, rfl⟩) (by simp [RI]) rfl (by simp only[Option.some.injEq,Prod.mk.injEq] at h; rw [← h.1]; simp [bulkV, bulkD])
    · rename_i hu
      cases hc
      unfold DataW.trod at h
      rw [hu] at h
      split at h <;> (try (rename_i e1; cases e1)) <;> (try (cases h; done))
      split at h
      · rename_i s hs
        simp only[Option.some.injEq,Prod.mk.injEq] at h
        obtain ⟨rfl, rfl⟩ := h
        have := hw s.data.toList.length (by simp [DataW.weights])
        exact Reads.one (x := .str s) (by simp only[HasC]; exact ⟨_, rfl, by simpa using this⟩) (by simp [RI]) rfl (by simp [bulkV, bulkD])
      · cases h
    · -- slice
      rename_i e hu
      split at hc
      case h_2 => cases hc
      rename_i es' hes
      split at hc
      case isFalse => cases hc
      rename_i hlen
      obtain ⟨hl1, hl2, hl3⟩ := hlen
      cases hc
      unfold DataW.trod at h
      rw [hu] at h
      split at h <;> (try (rename_i e1; cases e1)) <;> (try (cases h; done))
      · -- nil
        refine Reads.one (x := .lst .nil []) ?_ ?_ rfl (by simp only[Option.some.injEq,Prod.mk.injEq] at h; rw [← h.1]; simp [bulkV, bulkVs, bulkD])
        · simp only[HasC]; exact ⟨.nil, [], rfl, .inr ⟨rfl, rfl⟩, by simp, by simp, by simp⟩
        · simp only[RI]; exact ⟨none, 0, [], rfl, by simp, by simp [RIs], ⟨1, by simp, by simp⟩, rfl, rfl⟩
      · rename_i ad len cap
        simp only at h
        split at h
        case isFalse => cases h
        rename_i hcap
        obtain ⟨_, hlc, hcm⟩ := hcap
        simp only[Option.bind_eq_some_iff,Option.map_eq_some_iff] at h
        obtain ⟨elems, hel, rest, hrest, h⟩ := h
        simp only[Prod.mk.injEq] at h
        obtain ⟨rfl, rfl⟩ := h
        obtain ⟨m1, m2⟩ := mapM_some hel
        have m1 : elems.length = len := by simpa using m1
        simp only[if_true] at hrest
        obtain ⟨m3, _⟩ := mapM_some hrest
        have m3 : rest.length = cap - len := by simpa using m3
        have hwt : (elems.length + rest.length) * P.bytesOf e ≤ reachBytes := hw _ (by simp [DataW.weights, hu])
        have hwe : ∀ d ∈ elems.map (·.1), ∀ x ∈ d.weights P e, x ≤ reachBytes := weightsAll_mem (fun x hx => hw x (by simp [DataW.weights, hu, hx]))
        have key : ∀ i, i < len → ∃ (cs : List Value) (y : DataW H × List MemPlace), elems[i]? = some y ∧ (∀ (j : Nat) (u : Value), cs[j]? = some u → W.cell? ((ad.add (i * P.cellsOf e)).add j) = some u) ∧ Reads W es' cs (bulkD y.1) := by
          intro i hi
          obtain ⟨y, hy1, hy2⟩ := m2 i i (by simp [hi])
          simp only[Option.bind_eq_some_iff] at hy2
          obtain ⟨cs, hcs, hy2⟩ := hy2
          obtain ⟨d, q⟩ := y
          refine ⟨cs, (d, q), hy1, fun j u hj => ?_, ih _ _ _ _ _ hy2 hes (hwe d (List.mem_map.2 ⟨_, List.mem_of_getElem? hy1, rfl⟩))⟩
          simp only[World.cells?] at hcs
          split at hcs
          · obtain ⟨n1, n2⟩ := mapM_some hcs
            have hjl : j < P.cellsOf e := by
              have := (List.getElem?_eq_some_iff.1 hj).1
              rw [n1] at this; simpa using this
            obtain ⟨u', hu1, hu2⟩ := n2 j j (by simp [hjl])
            rw [hj] at hu1; cases hu1; exact hu2
          · cases hcs
        -- the elements, one by one
        have build : ∀ k, k ≤ len → ∃ (xs : List AVal) (us : List Value), xs.length = k ∧ us.length = k ∧ RIs (Gh.all W) W xs us ∧ (∀ y ∈ xs, ∃ cs, y = packV (aggT P e) cs ∧ HasL es' cs) ∧ (∀ u ∈ us, u.cells.size = es'.length) ∧
            (∀ (i : Nat) (u : Value) (j : Nat) (x : Value), us[i]? = some u → u.cells[j]? = some x → W.cell? ((ad.add (i * P.cellsOf e)).add j) = some x ∧ x.oneCell' = true) ∧ bulkVs xs ≤ bulkDs ((elems.take k).map (·.1)) := by
          intro k
          induction k with
          | zero => intro _; exact ⟨[], [], rfl, rfl, by simp [RIs], by simp, by simp, by simp, by simp [bulkVs]⟩
          | succ k ihk =>
            intro hk
            obtain ⟨xs, us, a1, a2, a3, a4, a5, a6, a7⟩ := ihk (by omega)
            obtain ⟨cs, yd, hyd, b1, ys, b2, b3, b4, b5⟩ := key k (by omega)
            have hyl := b2.length
            have hcl := b3.length
            have hcells : (packU (aggT P e) cs).cells = cs.toArray := by
              unfold packU
              cases hag : aggT P e with
              | true => simp [Value.cells]
              | false =>
                have h1 : es'.length = 1 := by
                  cases dd with
                  | zero => simp [cellTys] at hes
                  | succ dd =>
                    simp only[cellTys] at hes
                    simp only[aggT] at hag
                    split at hes <;> first | (cases hes; done) | (cases hes; rfl) | skip
                    · split at hes
                      · split at hes <;> first | (cases hes; rfl) | (cases hes; done)
                      · cases hes
                    · rename_i hq; rw [hq] at hag; cases hag
                    · rename_i hq; rw [hq] at hag; cases hag
                cases cs with
                | nil => simp at hcl; omega
                | cons c cs =>
                  have : cs = [] := List.eq_nil_of_length_eq_zero (by simp at hcl; omega)
                  subst this
                  simp only[Bool.false_eq_true,if_false,List.headD_cons]
                  rw [cells_one (b4 c (by simp))]
            have hri : RI (Gh.all W) W (packV (aggT P e) ys) (packU (aggT P e) cs) := by
              unfold packV packU
              cases hag : aggT P e with
              | true => simp only[if_true,RI]; exact ⟨_, rfl, by simpa using b3⟩
              | false =>
                simp only[Bool.false_eq_true,if_false]
                cases ys with
                | nil => simp at hyl; omega
                | cons y ys =>
                  simp only[RIs] at b3
                  obtain ⟨u, us', rfl, b6, _⟩ := b3
                  exact b6
            refine ⟨xs ++ [packV (aggT P e) ys], us ++ [packU (aggT P e) cs], by simp [a1], by simp [a2], a3.append (by simp only[RIs]; exact ⟨_, [], rfl, hri, rfl⟩), ?_, ?_, ?_, ?_⟩
            · intro y hy
              rcases List.mem_append.1 hy with hy | hy
              · exact a4 y hy
              · simp at hy; subst hy; exact ⟨ys, rfl, b2⟩
            · intro u hu'
              rcases List.mem_append.1 hu' with hu' | hu'
              · exact a5 u hu'
              · simp at hu'; subst hu'; rw [hcells]; simp [hcl, hyl]
            · intro i u j x hi hj
              rcases Nat.lt_or_ge i us.length with hlt | hge
              · rw [List.getElem?_append_left hlt] at hi; exact a6 i u j x hi hj
              · rw [List.getElem?_append_right hge] at hi
                have : i = us.length := by
                  have := (List.getElem?_eq_some_iff.1 hi).1
                  simp at this; omega
                subst this
                simp at hi; subst hi
                rw [hcells] at hj
                have hj : cs[j]? = some x := by simpa using hj
                rw [a2]
                exact ⟨b1 j x hj, b4 x (List.mem_of_getElem? hj)⟩
            · rw [bulkVs_append, List.take_add_one, hyd, List.map_append, bulkDs_append]
              have h1 : bulkVs [packV (aggT P e) ys] ≤ bulkD yd.1 := by
                refine Nat.le_trans ?_ b5
                simp only[bulkVs,Nat.add_zero,packV]
                cases aggT P e with
                | true => simp [bulkV]
                | false =>
                  cases ys with
                  | nil => simp at hyl; omega
                  | cons y ys => simp [bulkVs]
              have h2 : bulkDs (List.map (fun x => x.fst) (some yd).toList) = bulkD yd.1 := by simp [bulkDs]
              rw [h2]
              omega
        obtain ⟨xs, us, a1, a2, a3, a4, a5, a6, a7⟩ := build len (Nat.le_refl _)
        refine Reads.one (x := .lst .sh xs) ?_ ?_ rfl (by
          rw [List.take_of_length_le (by omega)] at a7
          simp only[bulkV,bulkD]; omega)
        · simp only[HasC]
          refine ⟨.sh, xs, rfl, .inl rfl, by omega, ?_, a4⟩
          refine Nat.le_trans (Nat.mul_le_mul_right _ ?_) hwt
          omega
        · simp only[RI]
          refine ⟨some ad, cap, us, by rw [a2], by omega, a3, ⟨P.cellsOf e, fun u hu' => by rw [a5 u hu', hl1], fun hne => ?_⟩, trivial⟩
          have hpos : 0 < us.length := List.length_pos_iff.2 hne
          obtain ⟨u0, hu0⟩ : ∃ u, us[0]? = some u := ⟨_, List.getElem?_eq_getElem hpos⟩
          have hs0 : 0 < u0.cells.size := by rw [a5 u0 (List.mem_of_getElem? hu0)]; exact hl2
          obtain ⟨q1, _⟩ := a6 0 u0 0 _ hu0 (Array.getElem?_eq_getElem hs0)
          obtain ⟨b, off, sp⟩ := ad
          have hsp : sp = none := by
            have := cell_nospot q1
            cases sp with
            | none => rfl
            | some s => simp [Addr.add] at this
          subst hsp
          refine ⟨b, off, rfl, fun i u j x hi hj => ?_⟩
          obtain ⟨r1, r2⟩ := a6 i u j x hi hj
          rw [Addr.add_lit, Addr.add_lit] at r1
          exact St.all r1 r2
    · -- struct
      rename_i fs hu
      split at hc
      case h_2 => cases hc
      rename_i r k hr
      split at hc
      case isFalse => cases hc
      rename_i hk
      cases hc
      unfold DataW.trod at h
      rw [hu] at h
      split at h <;> (try (rename_i e1; cases e1)) <;> (try (cases h; done)) <;> (try exact ((‹∀ fs_1 : Array Field, some (TypeDesc.struct fs) = some (TypeDesc.struct fs_1) → False›) fs rfl).elim)
      rename_i cs _ _
      split at h
      case isFalse => cases h
      rename_i hlen
      simp only[Option.map_eq_some_iff] at h
      obtain ⟨xs, hxs, h⟩ := h
      simp only[Prod.mk.injEq] at h
      obtain ⟨rfl, rfl⟩ := h
      have := fields_read ih fs.toList cs 0 k es xs hxs hr (fun x hx => hw x (by simp only[DataW.weights,hu]; exact hx)) (by rw [hk, hlen]) (by omega)
      exact Reads.le (by simpa using this) (by simp [bulkD])
    · -- array
      rename_i m e hu
      split at hc
      case h_2 => cases hc
      rename_i es' hes
      split at hc
      case isFalse => cases hc
      rename_i hlen'
      obtain ⟨hl1, hl2⟩ := hlen'
      cases hc
      unfold DataW.trod at h
      rw [hu] at h
      split at h <;> (try (rename_i e1; cases e1)) <;> (try (cases h; done)) <;> (try exact ((‹∀ (n : Nat) (e' : TypeId), some (TypeDesc.array m e) = some (TypeDesc.array n e') → False›) m e rfl).elim)
      rename_i cs _ _
      split at h
      case isFalse => cases h
      rename_i hlen
      simp only[Option.map_eq_some_iff] at h
      obtain ⟨xs, hxs, h⟩ := h
      simp only[Prod.mk.injEq] at h
      obtain ⟨rfl, rfl⟩ := h
      obtain ⟨m1, m2⟩ := mapM_some hxs
      have hwe : ∀ d ∈ xs.map (·.1), ∀ x ∈ d.weights P e, x ≤ reachBytes := weightsAll_mem (fun x hx => hw x (by simp only[DataW.weights,hu]; exact hx))
      have key : ∀ k, k ≤ m → Reads W (repTys k es') (cs.take (k * es'.length)) (bulkDs ((xs.take k).map (·.1))) := by
        intro k
        induction k with
        | zero =>
          intro _
          have e0 : cs.take (0 * es'.length) = [] := by simp
          rw [e0]; exact Reads.nil.le (Nat.zero_le _)
        | succ k ihk =>
          intro hk
          obtain ⟨y, hy1, hy2⟩ := m2 k k (by rw [List.getElem?_range (by omega)])
          obtain ⟨d, q⟩ := y
          have hr := ih _ _ _ _ _ hy2 hes (hwe d (List.mem_map.2 ⟨_, List.mem_of_getElem? hy1, rfl⟩))
          have := (ihk (by omega)).append hr
          have e1 : repTys (k + 1) es' = repTys k es' ++ es' := by simp [repTys, List.replicate_succ']
          rw [e1]
          have e2 : cs.take ((k + 1) * es'.length) = cs.take (k * es'.length) ++ (cs.drop (k * P.cellsOf e)).take (P.cellsOf e) := by
            rw [← hl1, Nat.add_mul, Nat.one_mul, List.take_add]
          rw [e2, List.take_add_one, hy1, List.map_append, bulkDs_append]
          exact this.le (by simp [bulkDs])
      have := key m (Nat.le_refl _)
      rw [hl2, ← hlen, List.take_length, List.take_of_length_le (by simp [m1])] at this
      exact this.le (by simp [bulkD])
    · cases hc

theorem arg_reads {base : Nat} {t : TypeId} {v : Value} {d : DataW H} {p : List MemPlace} {dd : Nat} {es : List Ty} (hok : Value.okWide P W .any base t v) (h : DataW.Trod enc P W 0 (fun _ => true) true t v d p) (hc : cellTys P dd t = some es)
    (hw : ∀ x ∈ d.weights P t, x ≤ reachBytes) : ∃ xs, HasL es xs ∧ RI (Gh.all W) W (packV (aggT P t) xs) v ∧ bulkV (packV (aggT P t) xs) ≤ bulkD d := by
  obtain ⟨fuel, h⟩ := h
  obtain ⟨xs, h1, h2, h3, h4⟩ := trod_reads fuel dd t _ d p es h hc hw
  refine ⟨xs, h1, ?_⟩
  have one : v.cells = #[v] → aggT P t = false → RI (Gh.all W) W (packV (aggT P t) xs) v ∧ bulkV (packV (aggT P t) xs) ≤ bulkD d := by
    intro hv hag
    rw [hv] at h2
    unfold packV
    rw [hag]
    simp only[Bool.false_eq_true,if_false]
    cases xs with
    | nil => simp [RIs] at h2
    | cons x xs =>
      simp only[RIs] at h2
      obtain ⟨u, us, e, h5, _⟩ := h2
      simp at e
      rw [e.1]
      simp only[bulkVs] at h4
      exact ⟨h5, by simp only[List.headD_cons]; omega⟩
  cases dd with
  | zero => simp [cellTys] at hc
  | succ dd =>
    simp only[cellTys] at hc
    split at hc
    · rename_i k hu
      obtain ⟨n, rfl⟩ := WideShapes.okWide_int hu hok
      exact one rfl (by simp [aggT, hu])
    · rename_i hu
      obtain ⟨n, rfl⟩ := WideShapes.okWide_bool hu hok
      exact one rfl (by simp [aggT, hu])
    · rename_i hu
      obtain ⟨n, rfl⟩ := WideShapes.okWide_string hu hok
      exact one rfl (by simp [aggT, hu])
    · rename_i e hu
      obtain ⟨a, len, cap, rfl⟩ := WideShapes.okWide_slice hu hok
      exact one rfl (by simp [aggT, hu])
    · rename_i fs hu
      unfold Value.okWide at hok
      rw [hu] at hok
      obtain ⟨cs, rfl, _⟩ := hok
      simp only[packV,aggT,hu,if_true,RI]
      exact ⟨⟨cs, rfl, by simpa [Value.cells] using h2⟩, by simpa only [bulkV] using h4⟩
    · rename_i m e hu
      unfold Value.okWide at hok
      rw [hu] at hok
      obtain ⟨cs, rfl, _⟩ := hok
      simp only[packV,aggT,hu,if_true,RI]
      exact ⟨⟨cs, rfl, by simpa [Value.cells] using h2⟩, by simpa only [bulkV] using h4⟩
    · cases hc
def HasA : List (Bool × List Ty) → List AVal → Prop
  | [], xs => xs = []
  | t :: ts, xs => ∃ cs ys, xs = packV t.1 cs :: ys ∧ HasL t.2 cs ∧ HasA ts ys
def argTys (P : Program) : List TypeId → Option (List (Bool × List Ty))
  | [] => some []
  | t :: ts => match cellTys P 20 t, argTys P ts with
    | some es, some r => some ((aggT P t, es) :: r)
    | _, _ => none
theorem args_read {base : Nat} : ∀ {ts : List TypeId} {vs : List Value} {ds : List (DataW H)} {p : List MemPlace} {tys : List (Bool × List Ty)}, (∀ (j : Nat) (t : TypeId) (v : Value), ts[j]? = some t → vs[j]? = some v → Value.okWide P W .any base t v) →
    DataW.TrodAll enc P W 0 (fun _ => true) true ts vs ds p → argTys P ts = some tys → (∀ x ∈ DataW.weightsEach P ts ds, x ≤ reachBytes) → ∃ xs, HasA tys xs ∧ RIs (Gh.all W) W xs vs ∧ bulkVs xs ≤ bulkDs ds
  | [], [], [], p, tys, _, h, hty, _ => by
    simp only[argTys,Option.some.injEq] at hty
    subst hty
    exact ⟨[], by simp [HasA], by simp [RIs], by simp [bulkVs]⟩
  | t :: ts, v :: vs, d :: ds, p, tys, hok, h, hty, hw => by
    simp only[DataW.TrodAll] at h
    obtain ⟨p', q, h1, h2, rfl⟩ := h
    simp only[argTys] at hty
    split at hty
    case h_2 => cases hty
    rename_i es r hes hr
    cases hty
    obtain ⟨w1, w2⟩ := weightsEach_cons hw
    obtain ⟨xs, k1, k2, k5⟩ := arg_reads (hok 0 t v (by simp) (by simp)) h1 hes w1
    obtain ⟨ys, k3, k4, k6⟩ := args_read (fun j t v ht hv => hok (j + 1) t v (by simpa using ht) (by simpa using hv)) h2 hr w2
    exact ⟨packV (aggT P t) xs :: ys, by simp only[HasA]; exact ⟨xs, ys, rfl, k1, k3⟩, by simp only[RIs]; exact ⟨v, vs, rfl, k2, k4⟩, by simp only[bulkVs,bulkDs]; omega⟩
  | [], [], _ :: _, _, _, _, h, _, _ => by simp [DataW.TrodAll] at h
  | [], _ :: _, _, _, _, _, h, _, _ => by simp [DataW.TrodAll] at h
  | _ :: _, [], _, _, _, _, h, _, _ => by simp [DataW.TrodAll] at h
  | _ :: _, _ :: _, [], _, _, _, h, _, _ => by simp [DataW.TrodAll] at h
theorem packV_fl {es : List Ty} {cs : List AVal} {ag : Bool} (h : HasL es cs) : flv (packV ag cs) = true := by
  have hall : ∀ {es : List Ty} {cs : List AVal}, HasL es cs → ∀ c ∈ cs, flc c = true := by
    intro es
    induction es with
    | nil => intro cs h; simp only[HasL] at h; subst h; simp
    | cons t ts ih =>
      intro cs h
      simp only[HasL] at h
      obtain ⟨y, ys, rfl, h1, h2⟩ := h
      intro c hc
      rcases List.mem_cons.1 hc with rfl | hc
      · exact flC_flc h1.noBox.2
      · exact ih h2 c hc
  have hall := hall h
  unfold packV
  cases ag with
  | true => simp only[if_true,flv,fl1,List.all_eq_true]; exact hall
  | false =>
    simp only[Bool.false_eq_true,if_false]
    cases cs with
    | nil => rfl
    | cons c cs =>
      have h1 := hall c (by simp)
      cases es with
      | nil => simp [HasL] at h
      | cons t ts =>
        simp only[HasL] at h
        obtain ⟨y, ys, e, h2, _⟩ := h
        simp only[List.cons.injEq] at e
        obtain ⟨rfl, rfl⟩ := e
        have h3 := h2.noBox.1
        simp only[List.headD_cons]
        cases c <;> first | rfl | (simp [storC] at h3; done) | exact h1
theorem HasA.fl : ∀ {tys : List (Bool × List Ty)} {xs : List AVal}, HasA tys xs → ∀ v ∈ xs, flv v = true
  | [], xs, h => by simp only[HasA] at h; subst h; simp
  | t :: ts, xs, h => by
    simp only[HasA] at h
    obtain ⟨cs, ys, rfl, h1, h2⟩ := h
    intro v hv
    rcases List.mem_cons.1 hv with rfl | hv
    · exact packV_fl h1
    · exact h2.fl v hv
theorem args_back {W' : World} (hl : laidOutB P = true) (hb : Below W.heap.size W W') : ∀ {ts : List TypeId} {vs : List Value} {ds : List (DataW H)} {p : List MemPlace}, ts.all (fun t => P.readableRec t && decide (t < P.types.size)) = true →
    DataW.TrodAll enc P W 0 (fun _ => true) true ts vs ds p → DataW.TrodAll enc P W' 0 (fun b => decide (b < W.heap.size)) true ts vs ds p
  | [], [], [], p, _, h => h
  | t :: ts, v :: vs, d :: ds, p, ht, h => by
    simp only[List.all_cons,Bool.and_eq_true,decide_eq_true_eq] at ht
    simp only[DataW.TrodAll] at h ⊢
    obtain ⟨p', q, h1, h2, rfl⟩ := h
    have hlt : ∀ x ∈ p', x.block < W.heap.size := by
      obtain ⟨m, hm⟩ := h1
      exact DataW.trod_lt m _ _ _ hm
    exact ⟨p', q, Below.trod hl ht.1.1 ht.1.2 h1 hb hlt, args_back hl hb ht.2 h2, rfl⟩
  | [], [], _ :: _, _, _, h => by simp [DataW.TrodAll] at h
  | [], _ :: _, _, _, _, h => by simp [DataW.TrodAll] at h
  | _ :: _, [], _, _, _, h => by simp [DataW.TrodAll] at h
  | _ :: _, _ :: _, [], _, _, h => by simp [DataW.TrodAll] at h
theorem trodAll_len : ∀ {ts : List TypeId} {vs : List Value} {ds : List (DataW H)} {p : List MemPlace}, DataW.TrodAll enc P W 0 (fun _ => true) true ts vs ds p → ds.length = ts.length
  | [], [], [], p, _ => rfl
  | t :: ts, v :: vs, d :: ds, p, h => by
    simp only[DataW.TrodAll] at h
    obtain ⟨p', q, _, h2, _⟩ := h
    simp [trodAll_len h2]
  | [], [], _ :: _, _, h => by simp [DataW.TrodAll] at h
  | [], _ :: _, _, _, h => by simp [DataW.TrodAll] at h
  | _ :: _, [], _, _, h => by simp [DataW.TrodAll] at h
  | _ :: _, _ :: _, [], _, h => by simp [DataW.TrodAll] at h
end
theorem law_lifted {H : Type} {enc : TypeId × Value → H} {C : Checked} {os : Os} {f : FuncId} {fn : Func} {s : ChangeSpec} {conds : List PathCond} {tb : TypeId} {tys : List (Bool × List Ty)} (own : ownKnob C.prog.godebug = none) (started : os.Started) (noInit : C.prog.inits.idxOf? f = none)
    (hfn : C.prog.funcs[f]? = some fn) (hvars : s.vars = []) (hs : ∀ ds : List (DataW H), ds.length = fn.params.size → s.fn H ds = { results := [.lit (.bool true)], args := ds }) (hres : fn.resultTypes = #[tb]) (htb : C.prog.underlying tb = some .bool)
    (laidOut : laidOutB C.prog = true) (hread : fn.params.toList.all (fun t => C.prog.readableRec t && decide (t < C.prog.types.size)) = true) (htys : argTys C.prog fn.params.toList = some tys)
    (witness : ∃ (w : World) (tape : Tape) (i : Input), w.os = os ∧ (w.forCall tape i).Shaped C.prog ∧ i.vars = [] ∧ Input.okWide C.prog (w.forCall tape i) .any w.heap.size f i ∧
      s.pre6 enc C.prog fn conds false (w.forCall tape i).memory i.args ∧ ({} : Assume).holds C.prog (lone (Frame.enter C.prog f i.args .normal) [] (w.forCall tape i)))
    (contract : ∀ xs : List AVal, HasA tys xs → ACalls C.prog f xs [] (fun r _ => r = .bool true)) :
    ReturnsInHanded {} C os f .any (s.pre6 enc C.prog fn conds false) (s.post enc C.prog fn false true false false) := by
  refine returnsInHanded_of_change_sized (C := C) own started noInit hfn witness ?_
  intro W base args ds gs before hval hW hcnd hsz _
  obtain ⟨p, q, hA, hV, rfl, hfz, hnd⟩ := hW
  have hW' : DataW.Whole enc C.prog fn.params.toList s.vars false W args.toList ds gs (p ++ q) := ⟨p, q, hA, hV, rfl, hfz, hnd⟩
  have hV' := hV
  rw [hvars] at hV'
  have hgs : gs = [] := by
    cases gs with
    | nil => rfl
    | cons g gs => exact hV'.elim
  subst hgs
  have hl := trodAll_len hA
  have hsd : s.fn H (ds ++ []) = { results := [.lit (.bool true)], args := ds } := by
    rw [List.append_nil]; exact hs ds (by simpa using hl)
  have hsz' : ∀ x ∈ DataW.weightsEach C.prog fn.params.toList ds, x ≤ reachBytes := by
    intro x hx
    have hw : ∀ {ts : List TypeId} {ds : List (DataW H)} {ts' : List TypeId}, ds.length = ts.length → ∀ x ∈ DataW.weightsEach C.prog ts ds, x ∈ DataW.weightsEach C.prog (ts ++ ts') (ds ++ []) := by
      intro ts
      induction ts with
      | nil => intro ds ts' hl x hx; cases ds <;> simp_all [DataW.weightsEach]
      | cons t ts ih =>
        intro ds ts' hl x hx
        cases ds with
        | nil => simp at hl
        | cons d ds =>
          simp only[List.cons_append,DataW.weightsEach,List.mem_append] at hx ⊢
          exact hx.imp id (ih (by simpa using hl) x)
    have := List.all_eq_true.1 hsz x (hw hl x hx)
    simpa using this
  obtain ⟨xs, h1, h2, _⟩ := args_read (fun j t v ht hv => hval j t v (by simpa using ht) (by simpa using hv)) hA htys hsz'
  refine ((contract xs h1).2 (Gh.all W) W args h2 h1.fl (RHeap.all W)).mono ?_
  rintro e W' ⟨v, rfl, r, h', g', rfl, _, hrv, hh, he⟩
  have hv : v = .bool true := by simpa [RV, RV1, RVc, RI] using hrv
  subst hv
  have bel : Below W.heap.size W W' := ⟨he.os, he.tape, he.output, he.size, fun k hk => (he.fixed k hk (.inl rfl)).1⟩
  refine ⟨_, rfl, ds, [], p ++ q, [], p, [], hW', ?_, ?_, ?_, bel.frame _, fun h => by cases h⟩
  · rw [hsd, hres]
    exact ⟨[], [], shut_bool htb true, rfl, rfl⟩
  · rw [hsd]
    exact args_back laidOut bel hread hA
  · rw [hsd, hvars]; rfl
end Go.Ge
set_option linter.unusedSimpArgs false
set_option linter.unusedVariables false
namespace Go.Ge
def Rdn {α : Type} (o : Own) (l : List α) : Prop := Rdo o ∧ (o = .nil → l = [])
structure Cell where
  X : Int
  Y : Int
  deriving DecidableEq, Inhabited
structure Fault where
  Tick : Int
  Kind : Int
  N : Int
  deriving DecidableEq, Inhabited
structure Msg where
  Kind : Int
  From : Int
  To : Int
  Seq : Int
  Clock : Int
  Cells : List Cell
  deriving DecidableEq, Inhabited
def cellA (c : Cell) : AVal := .agg [.int .i64 c.X, .int .i64 c.Y]
def cellsA (l : List Cell) : List AVal := l.map cellA
def faultA (f : Fault) : AVal := .agg [.int .i64 f.Tick, .int .i64 f.Kind, .int .i64 f.N]
def faultsA (l : List Fault) : List AVal := l.map faultA
def msgC (o : Own) (m : Msg) : List AVal := [.int .i64 m.Kind, .int .i64 m.From, .int .i64 m.To, .int .i64 m.Seq, .int .u32 m.Clock, .lst o (cellsA m.Cells)]
def msgA (o : Own) (m : Msg) : AVal := .agg (msgC o m)
def inI64 (n : Int) : Prop := -9223372036854775808 ≤ n ∧ n < 9223372036854775808
def Fault.wf (f : Fault) : Prop := inI64 f.Tick ∧ inI64 f.Kind ∧ inI64 f.N
@[go_sem] theorem cellsA_length {l : List Cell} : (cellsA l).length = l.length := by simp [cellsA]
@[go_sem] theorem faultsA_length {l : List Fault} : (faultsA l).length = l.length := by simp [faultsA]
theorem at_cells {l : List Cell} {i : Nat} (h : i < l.length) : at_ (cellsA l) (i : Int) = cellA l[i] := by
  rw [cellsA, at_map _ _ h]; simp [List.getD_eq_getElem?_getD, h]
@[go_sem] theorem noBox_cellA {c : Cell} : noBox (cellA c) = true := rfl
@[go_sem] theorem noBox_faultA {c : Fault} : noBox (faultA c) = true := rfl
theorem wf_i64 {n : Int} (h : (Lit.int .i64 n).wf = true) : inI64 n := by
  simp [Lit.wf, IntKind.min, IntKind.max, IntKind.signed, IntKind.bits] at h; unfold inI64; omega
theorem has_list {α : Type} {by_ : Nat} {ag : Bool} {es : List Ty} {x : AVal} {f : α → AVal} {p : α → Prop} (hel : ∀ cs, HasL es cs → ∃ a, packV ag cs = f a ∧ p a) (h : HasC (.slice by_ ag es) x) :
    ∃ (o : Own) (l : List α), x = .lst o (l.map f) ∧ Rdn o l ∧ (∀ a ∈ l, p a) ∧ l.length * by_ ≤ reachBytes := by
  simp only[HasC] at h
  obtain ⟨o, xs, rfl, ho, _, hb, hx⟩ := h
  have key : ∀ xs : List AVal, (∀ y ∈ xs, ∃ cs, y = packV ag cs ∧ HasL es cs) → ∃ l : List α, xs = l.map f ∧ ∀ a ∈ l, p a := by
    intro xs
    induction xs with
    | nil => intro _; exact ⟨[], rfl, by simp⟩
    | cons y ys ih =>
      intro h
      obtain ⟨cs, rfl, hc⟩ := h y (by simp)
      obtain ⟨a, e, hp⟩ := hel cs hc
      obtain ⟨l, rfl, hl⟩ := ih fun z hz => h z (by simp [hz])
      exact ⟨a :: l, by simp [e], by simpa using ⟨hp, hl⟩⟩
  obtain ⟨l, rfl, hl⟩ := key xs hx
  refine ⟨o, l, rfl, ?_, hl, by simpa using hb⟩
  rcases ho with rfl | ⟨rfl, h0⟩
  · exact ⟨.sh, fun h => by cases h⟩
  · exact ⟨.nil, fun _ => by simpa using h0⟩
theorem has1 {t : Ty} {ts : List Ty} {xs : List AVal} (h : HasL (t :: ts) xs) : ∃ y ys, xs = y :: ys ∧ HasC t y ∧ HasL ts ys := by simpa only [HasL] using h
theorem has0 {xs : List AVal} (h : HasL [] xs) : xs = [] := by simpa only [HasL] using h
theorem has_i64 {y : AVal} (h : HasC (.int .i64) y) : ∃ n, y = .int .i64 n ∧ inI64 n := by
  simp only[HasC] at h; obtain ⟨n, e, w⟩ := h; exact ⟨n, e, wf_i64 w⟩
abbrev tyFault : List Ty := [.int .i64, .int .i64, .int .i64]
theorem has_fault (cs : List AVal) (h : HasL tyFault cs) : ∃ c : Fault, packV true cs = faultA c ∧ c.wf := by
  obtain ⟨x, xs, rfl, h1, h⟩ := has1 h
  obtain ⟨y, ys, rfl, h2, h⟩ := has1 h
  obtain ⟨z, zs, rfl, h3, h⟩ := has1 h
  obtain rfl := has0 h
  obtain ⟨a, rfl, ha⟩ := has_i64 h1
  obtain ⟨b, rfl, hb⟩ := has_i64 h2
  obtain ⟨c, rfl, hc⟩ := has_i64 h3
  exact ⟨⟨a, b, c⟩, rfl, ha, hb, hc⟩
theorem has_faults {y : AVal} (h : HasC (.slice 24 true tyFault) y) : ∃ o l, y = .lst o (faultsA l) ∧ Rdn o l ∧ (∀ c ∈ l, c.wf) ∧ l.length * 24 ≤ reachBytes := has_list has_fault h
theorem has_ints {y : AVal} (h : HasC (.slice 8 false [.int .i64]) y) : ∃ o l, y = .lst o (ints .i64 l) ∧ Rdn o l ∧ (∀ c ∈ l, inI64 c) ∧ l.length * 8 ≤ reachBytes := by
  obtain ⟨o, l, e, h1, h2, h3⟩ := has_list (f := AVal.int .i64) (p := inI64) (fun cs hcs => by
    obtain ⟨x, xs, rfl, h1, h⟩ := has1 hcs
    obtain rfl := has0 h
    obtain ⟨a, rfl, ha⟩ := has_i64 h1
    exact ⟨a, rfl, ha⟩) h
  exact ⟨o, l, e, h1, h2, h3⟩
theorem hasA1 {ag : Bool} {t : List Ty} {ts : List (Bool × List Ty)} {xs : List AVal} (h : HasA ((ag, t) :: ts) xs) : ∃ cs ys, xs = packV ag cs :: ys ∧ HasL t cs ∧ HasA ts ys := by simpa only [HasA] using h
theorem hasA0 {xs : List AVal} (h : HasA [] xs) : xs = [] := by simpa only [HasA] using h
theorem pack1 {t : Ty} {cs : List AVal} (h : HasL [t] cs) : ∃ y, packV false cs = y ∧ HasC t y := by
  obtain ⟨y, ys, rfl, h1, h⟩ := has1 h
  exact ⟨y, rfl, h1⟩
theorem arg_ints {cs : List AVal} (h : HasL [.slice 8 false [.int .i64]] cs) : ∃ o l, packV false cs = .lst o (ints .i64 l) ∧ Rdn o l ∧ (∀ c ∈ l, inI64 c) ∧ l.length * 8 ≤ reachBytes := by
  obtain ⟨y, e, hy⟩ := pack1 h; rw [e]; exact has_ints hy
theorem arg_faults {cs : List AVal} (h : HasL [.slice 24 true tyFault] cs) : ∃ o l, packV false cs = .lst o (faultsA l) ∧ Rdn o l ∧ (∀ c ∈ l, c.wf) ∧ l.length * 24 ≤ reachBytes := by
  obtain ⟨y, e, hy⟩ := pack1 h; rw [e]; exact has_faults hy
section
variable {α : Type} {R : α → AVal → Prop}
end
end Go.Ge
set_option linter.unusedSimpArgs false
set_option linter.unusedVariables false
namespace Go.Ge
def rnd (b : BitVec 32) : BitVec 32 := (b >>> 1) ^^^ (0xedb88320#32 * (b &&& 1#32))
def rnds : Nat → BitVec 32 → BitVec 32
  | 0, b => b
  | n + 1, b => rnd (rnds n b)
def entry (i : Nat) : BitVec 32 := rnds 8 (BitVec.ofNat 32 i)
end Go.Ge
