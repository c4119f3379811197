/- What a call has left behind is forgotten; what is held alone may be held to append. -/
import Derived.Test.YtpdajkbfemcdlaaGeSimp
set_option linter.unusedSimpArgs false
set_option linter.unusedVariables false
namespace Go.Ge

mutual
/-- Above all names of objects in a value. -/
def AVal.ids : AVal → Nat
  | .hp id _ => id + 1
  | .ref id _ _ cap => if cap = 0 then 0 else id + 1
  | .map id => id + 1
  | .agg cs => idsL cs
  | .tup cs => idsL cs
  | .lst _ cs => idsL cs
  | .cptr cs => idsL cs
  | .func _ cs => idsL cs
  | _ => 0
def idsL : List AVal → Nat
  | [] => 0
  | a :: l => max a.ids (idsL l)
end
def HObj.ids : HObj → Nat
  | .dead => 0
  | .cells cs => idsL cs
theorem idsL_le {m : Nat} : ∀ {l0 : List AVal}, idsL l0 ≤ m ↔ ∀ x ∈ l0, x.ids ≤ m
  | [] => by simp [idsL]
  | a :: l => by simp only [idsL, Nat.max_le, idsL_le (l0 := l), List.mem_cons, forall_eq_or_imp]

def cutO (m : Nat) : Ow → Ow
  | .obj id => if id < m then .obj id else .no
  | .objc id p => if id < m then .objc id p else .no
  | o => o
def Gh.cut (g : Gh) (m : Nat) : Gh := { g with ow := fun b => cutO m (g.ow b), nh := m }
section
variable {g : Gh} {w : World} {m : Nat}
theorem St.cut {b o : Nat} {v : Value} (h : St g w b o v) : St (g.cut m) w b o v := h
theorem Cont.cut {A : Option Addr} {us : List Value} (h : Cont g w A us) : Cont (g.cut m) w A us := h
mutual
theorem RI.ids_le : ∀ (x : AVal) (v : Value), RI g w x v → x.ids ≤ g.nh
  | .junk, _, _ | .int .., _, _ | .bool _, _, _ | .str _, _, _ | .box .., _, _ | .nilptr, _, _ | .nilmap, _, _ => by simp [AVal.ids]
  | .agg cs, v, h => by
    simp only [RI] at h
    obtain ⟨us, _, h⟩ := h
    simp only [AVal.ids]; exact RIs.ids_le cs _ h
  | .tup cs, v, h => by
    simp only [RI] at h
    obtain ⟨us, _, h⟩ := h
    simp only [AVal.ids]; exact RIs.ids_le cs _ h
  | .lst o xs, v, h => by
    simp only [RI] at h
    obtain ⟨A, c, us, _, _, h, _⟩ := h
    simp only [AVal.ids]; exact RIs.ids_le xs _ h
  | .cptr cs, v, h => by
    simp only [RI] at h
    obtain ⟨b, off, us, _, h, _⟩ := h
    simp only [AVal.ids]; exact RIs.ids_le cs _ h
  | .hp id off, v, h => by
    simp only [RI] at h
    simp only [AVal.ids]; exact h.1
  | .ref id off len cap, v, h => by
    simp only [RI] at h
    obtain ⟨A, _, _, h⟩ := h
    simp only [AVal.ids]
    split
    · omega
    · rename_i hc; exact (h hc).1
  | .func f caps, v, h => by
    simp only [RI] at h
    obtain ⟨us, _, h⟩ := h
    simp only [AVal.ids]; exact RIs.ids_le caps _ h
  | .map id, v, h => by
    simp only [RI] at h
    simp only [AVal.ids]; exact h.1
theorem RIs.ids_le : ∀ (xs : List AVal) (us : List Value), RIs g w xs us → idsL xs ≤ g.nh
  | [], _, _ => by simp [idsL]
  | a :: l, us, h => by
    simp only [RIs] at h
    obtain ⟨u, us', _, h1, h2⟩ := h
    simp only [idsL]
    exact Nat.max_le.2 ⟨RI.ids_le a u h1, RIs.ids_le l us' h2⟩
end
mutual
theorem RI.cut : ∀ (x : AVal) (v : Value), x.ids ≤ m → RI g w x v → RI (g.cut m) w x v
  | .junk, _, _, _ => by simp [RI]
  | .int .., _, _, h => by simpa [RI] using h
  | .bool _, _, _, h => by simpa [RI] using h
  | .str _, _, _, h => by simpa [RI] using h
  | .agg cs, v, hi, h => by
    simp only [RI] at h ⊢
    obtain ⟨us, e, h⟩ := h
    simp only [AVal.ids] at hi
    exact ⟨us, e, RIs.cut cs _ hi h⟩
  | .tup cs, v, hi, h => by
    simp only [RI] at h ⊢
    obtain ⟨us, e, h⟩ := h
    simp only [AVal.ids] at hi
    exact ⟨us, e, RIs.cut cs _ hi h⟩
  | .lst o xs, v, hi, h => by
    simp only [RI] at h ⊢
    obtain ⟨A, c, us, e, hl, h, hc, hn⟩ := h
    simp only [AVal.ids] at hi
    exact ⟨A, c, us, e, hl, RIs.cut xs _ hi h, hc, hn⟩
  | .cptr cs, v, hi, h => by
    simp only [RI] at h ⊢
    obtain ⟨b, off, us, e, h, hc⟩ := h
    simp only [AVal.ids] at hi
    exact ⟨b, off, us, e, RIs.cut cs _ hi h, hc⟩
  | .box .., _, _, h => by simp [RI] at h
  | .hp id off, v, hi, h => by
    simp only [RI] at h ⊢
    simp only [AVal.ids] at hi
    exact ⟨hi, h.2⟩
  | .ref id off len cap, v, hi, h => by
    simp only [RI] at h ⊢
    obtain ⟨A, h1, h2, h3⟩ := h
    refine ⟨A, h1, h2, fun hc => ?_⟩
    simp only [AVal.ids, if_neg hc] at hi
    exact ⟨hi, (h3 hc).2⟩
  | .nilptr, _, _, h => by simpa [RI] using h
  | .func f caps, v, hi, h => by
    simp only [RI] at h ⊢
    obtain ⟨us, e, h⟩ := h
    simp only [AVal.ids] at hi
    exact ⟨us, e, RIs.cut caps _ hi h⟩
  | .map id, v, hi, h => by
    simp only [RI] at h ⊢
    simp only [AVal.ids] at hi
    exact ⟨hi, h.2⟩
  | .nilmap, _, _, h => by simpa [RI] using h
theorem RIs.cut : ∀ (xs : List AVal) (us : List Value), idsL xs ≤ m → RIs g w xs us → RIs (g.cut m) w xs us
  | [], _, _, h => by simpa [RIs] using h
  | a :: l, us, hi, h => by
    simp only [RIs] at h ⊢
    simp only [idsL, Nat.max_le] at hi
    obtain ⟨u, us', e, h1, h2⟩ := h
    exact ⟨u, us', e, RI.cut a u hi.1 h1, RIs.cut l us' hi.2 h2⟩
end
theorem RVc.ids_le {o : Ow} {x : AVal} {v : Value} (h : RVc g w o x v) : x.ids ≤ g.nh := by
  unfold RVc at h
  split at h
  · obtain ⟨A, c, us, _, _, h, _⟩ := h
    simp only [AVal.ids]; exact RIs.ids_le _ _ h
  · obtain ⟨A, us, _, _, h, _⟩ := h
    simp only [AVal.ids]; exact RIs.ids_le _ _ h
  · exact RI.ids_le _ _ h
theorem RVs.ids_le {own : Nat → Ow} : ∀ {xs : List AVal} {i : Nat} {us : List Value}, RVs g w own i xs us → idsL xs ≤ g.nh
  | [], _, _, _ => by simp [idsL]
  | a :: l, i, us, h => by
    simp only [RVs] at h
    obtain ⟨u, us', _, h1, h2⟩ := h
    simp only [idsL]
    exact Nat.max_le.2 ⟨h1.ids_le, RVs.ids_le h2⟩
theorem RObj.ids_le {id : Nat} {o : HObj} (h : RObj g w id o) : o.ids ≤ g.nh := by
  cases o with
  | dead => simp [HObj.ids]
  | cells cs =>
    simp only [HObj.ids]
    by_cases hne : cs = []
    · subst hne; simp [idsL]
    · obtain ⟨cur, e, fz, us, _, _, _, _, _, _, h⟩ := h hne
      exact h.ids_le
theorem RVc.cut {o : Ow} {x : AVal} {v : Value} (hx : x.ids ≤ m) (ho : cutO m o = o) (h : RVc g w o x v) : RVc (g.cut m) w o x v := by
  unfold RVc at h ⊢
  split at h
  · simp only [AVal.ids] at hx
    obtain ⟨A, c, us, e, hl, h, hsz, hc, hn⟩ := h
    exact ⟨A, c, us, e, hl, RIs.cut _ _ hx h, hsz, hc, hn.imp id fun ⟨b, off, cur, e, fz, q1, q2, q3⟩ => ⟨b, off, cur, e, fz, q1, by simp [Gh.cut, q2, ho], q3⟩⟩
  · simp only [AVal.ids] at hx
    obtain ⟨A, us, e, hl, h, hsz, hn⟩ := h
    exact ⟨A, us, e, hl, RIs.cut _ _ hx h, hsz, hn.imp id fun ⟨b, off, cur, e, fz, q1, q2, q3⟩ => ⟨b, off, cur, e, fz, q1, by simp [Gh.cut, q2, ho], q3⟩⟩
  · exact RI.cut _ _ hx h
theorem RVs.cut {own : Nat → Ow} : ∀ {xs : List AVal} {i : Nat} {us : List Value}, idsL xs ≤ m → (∀ j, cutO m (own j) = own j) → RVs g w own i xs us → RVs (g.cut m) w own i xs us
  | [], _, _, _, _, h => by simpa [RVs] using h
  | a :: l, i, us, hi, ho, h => by
    simp only [RVs] at h ⊢
    simp only [idsL, Nat.max_le] at hi
    obtain ⟨u, us', e, h1, h2⟩ := h
    exact ⟨u, us', e, h1.cut hi.1 (ho i), RVs.cut hi.2 ho h2⟩
theorem RV1.cut {own : List Nat → Ow} {x : AVal} {v : Value} (hx : x.ids ≤ m) (ho : ∀ p, cutO m (own p) = own p) (h : RV1 g w own x v) : RV1 (g.cut m) w own x v := by
  unfold RV1 at h ⊢
  split at h
  · simp only [AVal.ids] at hx
    obtain ⟨us, e, h⟩ := h
    exact ⟨us, e, RVs.cut hx (fun j => ho [j]) h⟩
  · exact RVc.cut hx (ho []) h
theorem RVt.cut {own : List Nat → Ow} : ∀ {xs : List AVal} {i : Nat} {us : List Value}, idsL xs ≤ m → (∀ p, cutO m (own p) = own p) → RVt g w own i xs us → RVt (g.cut m) w own i xs us
  | [], _, _, _, _, h => by simpa [RVt] using h
  | a :: l, i, us, hi, ho, h => by
    simp only [RVt] at h ⊢
    simp only [idsL, Nat.max_le] at hi
    obtain ⟨u, us', e, h1, h2⟩ := h
    exact ⟨u, us', e, h1.cut hi.1 (fun p => ho _), RVt.cut hi.2 ho h2⟩
theorem RV.cut {own : List Nat → Ow} {x : AVal} {v : Value} (hx : x.ids ≤ m) (ho : ∀ p, cutO m (own p) = own p) (h : RV g w own x v) : RV (g.cut m) w own x v := by
  unfold RV at h ⊢
  split at h
  · simp only [AVal.ids] at hx
    obtain ⟨us, e, h⟩ := h
    exact ⟨us, e, RVt.cut hx ho h⟩
  · exact h
  · exact RV1.cut hx ho h
end
/-- What a call has left behind is forgotten. -/
theorem ACalls.gc {P : Program} {f : FuncId} {vs : List AVal} {h : List HObj} {Q : AVal → List HObj → Prop}
    (hc : ACalls P f vs h (fun r h' => ∃ h1 ext, h' = h1 ++ ext ∧ h.length ≤ h1.length ∧ r.ids ≤ h1.length ∧ (∀ (i : Nat) (o : HObj), h1[i]? = some o → h[i]? = some o ∨ o.ids ≤ h1.length) ∧ Q r h1)) : ACalls P f vs h Q :=
  ⟨hc.1, fun g w us q1 q2 q3 cs => by
    obtain ⟨e, w', fr, ⟨v, e1, r, h', g', ⟨h1, ext, rfl, hl, hr, ho, hq⟩, hnb, hrv, hh, he⟩, hs⟩ := hc.2 g w us q1 q2 q3 cs
    have hnh := hh.nh
    have hgn := q3.nh
    refine ⟨e, w', fr, ⟨v, e1, r, h1, g'.cut h1.length, hq, hnb, RV.cut hr (fun p => rfl) hrv, ⟨rfl, fun id o hid => ?_, fun b hb => ?_⟩, ?_⟩, hs⟩
    · have hlt : id < h1.length := (List.getElem?_eq_some_iff.1 hid).1
      have hob := hh.obj id o (by rw [List.getElem?_append_left hlt]; exact hid)
      have hi : o.ids ≤ h1.length := by
        rcases ho id o hid with h2 | h2
        · have := (q3.obj id o h2).ids_le; omega
        · exact h2
      cases o with
      | dead => trivial
      | cells cs =>
        simp only [RObj] at hob ⊢
        intro hne
        obtain ⟨cur, e, fz, us, b1, b2, b3, b4, bz, b5, b6⟩ := hob hne
        exact ⟨cur, e, fz, us, b1, b2, by simp [Gh.cut, b3, cutO, hlt], b4, bz, b5, RVs.cut hi (fun j => by simp [cutO, hlt]) b6⟩
    · simp [Gh.cut, hh.valid b hb, cutO]
    · refine ⟨he.os, he.tape, he.output, he.size, fun b hb hno => ?_, he.stab, by show g.nh ≤ h1.length; omega, he.io⟩
      obtain ⟨k1, k2, k3⟩ := he.fixed b hb hno
      exact ⟨k1, k2, by rcases hno with hno | hno <;> simp [Gh.cut, k3, hno, cutO]⟩⟩

/-! ### Held alone, then held to append -/
def grc : AVal → AVal
  | .lst (.uniq sz _) xs => .lst (.app sz) xs
  | v => v
def grv : AVal → AVal
  | .tup vs => .tup (vs.map grc)
  | v => grc v
section
variable {g : Gh} {w : World}
theorem RVc.gr {q : Ow} {x : AVal} {v : Value} (h : RVc g w q x v) (hq : q ≠ .no) (hq2 : q ≠ .other) :
    ∃ g', Evo g w g' w ∧ (∀ p, p ≠ q → Keep g w g' w p p) ∧ g'.ow = g.ow ∧ g'.ib = g.ib ∧ g'.io = g.io ∧ g'.nh = g.nh ∧ RVc g' w q (grc x) v := by
  unfold grc
  split
  · exact h.grab (ow := .uniq _ _) rfl hq hq2
  · exact ⟨g, .refl g w, fun _ _ b hb => ⟨hb, rfl, rfl⟩, rfl, rfl, rfl, rfl, h⟩
theorem RHeap.step {g' : Gh} {h : List HObj} (hh : RHeap g w h) (he : Evo g w g' w) {q : Ow} (hk : ∀ p, p ≠ q → Keep g w g' w p p) (h1 : g'.ow = g.ow) (h2 : g'.nh = g.nh) (hq1 : ∀ id, .obj id ≠ q) (hq2 : ∀ id p, .objc id p ≠ q) : RHeap g' w h :=
  ⟨by rw [h2]; exact hh.nh, fun id ob hob => RObj.mono he.stb (by rw [hh.nh]; exact (List.getElem?_eq_some_iff.1 hob).1) (hk _ (hq1 id)) (fun p => hk _ (hq2 id p)) (hh.obj id ob hob), fun b hb => by rw [h1]; exact hh.valid b hb⟩
theorem RV1.gr {own : List Nat → Ow} {x : AVal} {v : Value} (h : RV1 g w own x v) (hq : own [] ≠ .no) (hq2 : own [] ≠ .other) :
    ∃ g', Evo g w g' w ∧ (∀ p, p ≠ own [] → Keep g w g' w p p) ∧ g'.ow = g.ow ∧ g'.ib = g.ib ∧ g'.io = g.io ∧ g'.nh = g.nh ∧ RV1 g' w own (grc x) v := by
  cases x with
  | agg cs => exact ⟨g, .refl g w, fun _ _ b hb => ⟨hb, rfl, rfl⟩, rfl, rfl, rfl, rfl, h⟩
  | lst o xs =>
    obtain ⟨g', a1, a2, a3, a4, a5, a6, a7⟩ := RVc.gr (x := .lst o xs) h hq hq2
    refine ⟨g', a1, a2, a3, a4, a5, a6, ?_⟩
    cases o <;> exact a7
  | _ => exact ⟨g, .refl g w, fun _ _ b hb => ⟨hb, rfl, rfl⟩, rfl, rfl, rfl, rfl, h⟩
theorem RVt.gr {h : List HObj} : ∀ {xs : List AVal} {g : Gh} {i : Nat} {us : List Value}, RVt g w Ow.ret i xs us → RHeap g w h → ∃ g', Evo g w g' w ∧ (∀ p, (∀ j, i ≤ j → p ≠ .ret [j]) → Keep g w g' w p p) ∧ RHeap g' w h ∧ RVt g' w Ow.ret i (xs.map grc) us
  | [], g, i, us, hx, hh => ⟨g, .refl g w, fun _ _ b hb => ⟨hb, rfl, rfl⟩, hh, by simpa [RVt] using hx⟩
  | a :: l, g, i, us, hx, hh => by
    simp only [RVt] at hx
    obtain ⟨u, us', rfl, h1, h2⟩ := hx
    obtain ⟨g1, a1, a2, a3, a4, a5, a6, a7⟩ := RV1.gr h1 (by simp) (by simp)
    have h2' : RVt g1 w Ow.ret (i + 1) l us' := by
      have key : ∀ {xs : List AVal} {k : Nat} {us : List Value}, i < k → RVt g w Ow.ret k xs us → RVt g1 w Ow.ret k xs us := by
        intro xs
        induction xs with
        | nil => intro k us _ h; simpa [RVt] using h
        | cons x xs ih =>
          intro k us hk h
          simp only [RVt] at h ⊢
          obtain ⟨u, us', e, h1, h2⟩ := h
          exact ⟨u, us', e, RV1.mono a1.stb (fun p => a2 _ (by simp; intro e; omega)) _ _ h1, ih (by omega) h2⟩
      exact key (by omega) h2
    have hh1 := hh.step a1 a2 a3 a6 (by simp) (by simp)
    obtain ⟨g2, b1, b2, b3, b4⟩ := RVt.gr h2' hh1
    refine ⟨g2, a1.trans b1, fun p hp b hb => ?_, b3, ?_⟩
    · obtain ⟨c1, c2, c3⟩ := a2 p (hp i (Nat.le_refl _)) b hb
      obtain ⟨d1, d2, d3⟩ := b2 p (fun j hj => hp j (by omega)) b c1
      exact ⟨d1, d2, d3.trans c3⟩
    · simp only [List.map_cons, RVt]
      refine ⟨u, us', rfl, RV1.mono b1.stb (fun p => ?_) _ _ a7, b4⟩
      exact b2 _ (fun j hj => by simp; omega)
end
/-- A result that is held alone may be held to append. -/
theorem ACalls.gr {P : Program} {f : FuncId} {vs : List AVal} {h : List HObj} {Q : AVal → List HObj → Prop} (hc : ACalls P f vs h (fun r h' => Q (grv r) h')) : ACalls P f vs h Q :=
  ⟨hc.1, fun g w us q1 q2 q3 cs => by
    obtain ⟨e, w', fr, ⟨v, e1, r, h', g', hq, hnb, hrv, hh, he⟩, hs⟩ := hc.2 g w us q1 q2 q3 cs
    by_cases ht : ∃ vs, r = .tup vs
    · obtain ⟨vs, rfl⟩ := ht
      simp only [RV] at hrv
      obtain ⟨us, e2, hrv⟩ := hrv
      obtain ⟨g2, b1, b2, b3, b4⟩ := RVt.gr hrv hh
      exact ⟨e, w', fr, ⟨v, e1, _, h', g2, hq, rfl, by simp only [grv, RV]; exact ⟨us, e2, b4⟩, b3, he.trans b1⟩, hs⟩
    · have e3 : grv r = grc r := by cases r <;> first | rfl | exact absurd ⟨_, rfl⟩ ht
      have hb : ∀ s off, r ≠ .box s off := by rintro s off rfl; cases hnb
      have hrv1 : RV1 g' w' .ret r v := by
        cases r <;> first | exact hrv | exact absurd ⟨_, rfl⟩ ht | exact absurd rfl (hb _ _)
      obtain ⟨g1, a1, a2, a3, a4, a5, a6, a7⟩ := RV1.gr hrv1 (by simp) (by simp)
      have hh1 := hh.step a1 a2 a3 a6 (by simp) (by simp)
      refine ⟨e, w', fr, ⟨v, e1, grv r, h', g1, hq, ?_, ?_, hh1, he.trans a1⟩, hs⟩
      · rw [e3]; unfold grc; split <;> first | rfl | exact hnb
      · rw [e3]
        have : RV g1 w' .ret (grc r) v ↔ RV1 g1 w' .ret (grc r) v := by
          cases r <;> first | rfl | exact absurd ⟨_, rfl⟩ ht | exact absurd rfl (hb _ _) | (rename_i o xs; cases o <;> rfl)
        exact this.2 a7⟩
end Go.Ge
