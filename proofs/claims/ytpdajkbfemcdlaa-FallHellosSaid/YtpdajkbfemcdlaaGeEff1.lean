/- What writes: the worlds behind a store, behind an append; holders that change their names. -/
import Derived.Test.YtpdajkbfemcdlaaGeFev
import Derived.Deep.AppendSrc
import Derived.Deep.Upon
set_option linter.unusedSimpArgs false
set_option linter.unusedVariables false
namespace Go.Ge

/-! ### A row of cells written into a block -/
def putArr (cur : Array Value) (o : Nat) (vs : List Value) : Array Value := (cur.toList.take o ++ vs ++ cur.toList.drop (o + vs.length)).toArray
theorem putArr_size {cur : Array Value} {o : Nat} {vs : List Value} (h : o + vs.length ≤ cur.size) : (putArr cur o vs).size = cur.size := by simp [putArr]; omega
theorem putArr_in {cur : Array Value} {o : Nat} {vs : List Value} (h : o + vs.length ≤ cur.size) {j : Nat} (hj : j < vs.length) : (putArr cur o vs)[o + j]? = vs[j]? := by
  simp only [putArr, List.getElem?_toArray]
  rw [List.append_assoc, List.getElem?_append_right (by simp; omega), List.getElem?_append_left (by simp; omega)]
  congr 1; simp; omega
theorem putArr_out {cur : Array Value} {o : Nat} {vs : List Value} (h : o + vs.length ≤ cur.size) {j : Nat} (hj : j < o ∨ o + vs.length ≤ j) : (putArr cur o vs)[j]? = cur[j]? := by
  simp only [putArr, List.getElem?_toArray]
  rcases hj with hj | hj
  · rw [List.append_assoc, List.getElem?_append_left (by simp; omega), List.getElem?_take_of_lt hj]; simp
  · rw [List.getElem?_append_right (by simp; omega), List.getElem?_drop]
    have e : o + vs.length + (j - (cur.toList.take o ++ vs).length) = j := by simp; omega
    rw [e]; simp
theorem setCell_block {w : World} {b o : Nat} {cur : Array Value} {e : TypeId} {fz : Nat × Nat} (h : w.heap[b]? = some (.cells cur e fz)) (v : Value) : (w.setCell ⟨b, o, none⟩ v).heap[b]? = some (.cells (cur.setIfInBounds o v) e fz) := by
  have hlt : b < w.heap.size := (Array.getElem?_eq_some_iff.1 h).1
  simp [World.setCell, Array.getElem?_modify, h]
theorem setCells_block : ∀ (vs : List Value) (o : Nat) (w : World) (cur : Array Value) {b : Nat} {e : TypeId} {fz : Nat × Nat}, w.heap[b]? = some (.cells cur e fz) → o + vs.length ≤ cur.size → (w.setCells b o vs).heap[b]? = some (.cells (putArr cur o vs) e fz)
  | [], o, w, cur, b, e, fz, h, _ => by simp [World.setCells, putArr, h]
  | v :: vs, o, w, cur, b, e, fz, h, hl => by
    simp only [List.length_cons] at hl
    have h1 := setCell_block (o := o) h v
    have := setCells_block vs (o + 1) (w.setCell ⟨b, o, none⟩ v) _ h1 (by simp; omega)
    simp only [World.setCells]
    rw [this]
    congr 2
    apply Array.ext_getElem?
    intro j
    rcases Nat.lt_or_ge j o with hj | hj
    · rw [putArr_out (by simp; omega) (.inl (by omega)), putArr_out (by simp; omega) (.inl hj)]
      rw [Array.getElem?_setIfInBounds_ne (by omega)]
    · rcases Nat.lt_or_ge j (o + 1) with hj2 | hj2
      · obtain rfl : j = o := by omega
        rw [putArr_out (by simp; omega) (.inl (by omega))]
        have := putArr_in (cur := cur) (o := j) (vs := v :: vs) (by simp; omega) (j := 0) (by simp)
        simp only [Nat.add_zero] at this
        rw [this]
        simp [show j < cur.size by omega]
      · rcases Nat.lt_or_ge j (o + 1 + vs.length) with hj3 | hj3
        · obtain ⟨k, rfl⟩ : ∃ k, j = o + 1 + k := ⟨j - (o + 1), by omega⟩
          rw [putArr_in (by simp; omega) (by omega)]
          have := putArr_in (cur := cur) (o := o) (vs := v :: vs) (by simp; omega) (j := k + 1) (by simp; omega)
          rw [show o + 1 + k = o + (k + 1) by omega, this]; simp
        · rw [putArr_out (by simp; omega) (.inr hj3), putArr_out (by simp; omega) (.inr (by simp; omega))]
          rw [Array.getElem?_setIfInBounds_ne (by omega)]
theorem setCells_size : ∀ (vs : List Value) (o : Nat) (w : World) (b : Nat), (w.setCells b o vs).heap.size = w.heap.size
  | [], _, _, _ => rfl
  | v :: vs, o, w, b => by simp [World.setCells, setCells_size vs]
theorem setCells_other : ∀ (vs : List Value) (o : Nat) (w : World) (b k : Nat), k ≠ b → (w.setCells b o vs).heap[k]? = w.heap[k]?
  | [], _, _, _, _, _ => rfl
  | v :: vs, o, w, b, k, h => by
    simp only [World.setCells]
    rw [setCells_other vs _ _ _ _ h, Go.RowKit.Below.heap_setCell _ _ _ _ h]
theorem setCells_rest : ∀ (vs : List Value) (o : Nat) (w : World) (b : Nat), (w.setCells b o vs).os = w.os ∧ (w.setCells b o vs).tape = w.tape ∧ (w.setCells b o vs).output = w.output
  | [], _, _, _ => ⟨rfl, rfl, rfl⟩
  | v :: vs, o, w, b => by
    simp only [World.setCells]
    obtain ⟨h1, h2, h3⟩ := setCells_rest vs (o + 1) (w.setCell ⟨b, o, none⟩ v) b
    exact ⟨h1, h2, h3⟩

/-- A block that somebody of us holds is written, from its frontier on; the frontier may go up. -/
theorem Evo.write {g : Gh} {w : World} {b o : Nat} {vs : List Value} {cur : Array Value} {e : TypeId} {fz : Nat × Nat} (hb : w.heap[b]? = some (.cells cur e fz)) (hle : o + vs.length ≤ cur.size) (hfr : g.fr b ≤ o) (hno : g.ow b ≠ .no) (hot : g.ow b ≠ .other)
    (q : Ow) (f : Nat) (hf : g.fr b ≤ f) : Evo g w (g.alloc b q f) (w.setCells b o vs) := by
  obtain ⟨r1, r2, r3⟩ := setCells_rest vs o w b
  refine ⟨r1, r2, r3, by rw [setCells_size]; exact Nat.le_refl _, fun k hk ho => ?_, fun k hk => ?_, Nat.le_refl _, fun _ _ => rfl⟩
  · have : k ≠ b := by
      rintro rfl
      rcases ho with ho | ho
      · exact hno ho
      · exact hot ho
    exact ⟨setCells_other _ _ _ _ _ this, by simp [Gh.alloc, this], by simp [Gh.alloc, this]⟩
  · by_cases h : k = b
    · subst h
      refine ⟨by simpa [Gh.alloc] using hf, fun j hj => ?_⟩
      rw [cell_of_block (setCells_block vs o w cur hb hle), cell_of_block hb, putArr_out hle (.inl (by omega))]
    · refine ⟨by simp [Gh.alloc, h], fun j _ => World.cell?_of_block (w := w) (setCells_other _ _ _ _ _ h)⟩
theorem Keep.write {g : Gh} {w : World} {b o : Nat} {vs : List Value} {q' : Ow} {q : Ow} {f : Nat} (hq : g.ow b ≠ q') : Keep g w (g.alloc b q f) (w.setCells b o vs) q' q' := by
  intro k hk
  have : k ≠ b := by rintro rfl; exact hq hk
  exact ⟨by simp [Gh.alloc, this, hk], setCells_other _ _ _ _ _ this, by simp [Gh.alloc, this]⟩

/-- Holders change their names. -/
def Gh.ren (g : Gh) (ρ : Ow → Ow) : Gh := { g with ow := fun b => ρ (g.ow b) }
theorem Evo.ren {g : Gh} {w : World} {ρ : Ow → Ow} (h1 : ρ .no = .no) (h2 : ρ .other = .other) : Evo g w (g.ren ρ) w :=
  ⟨rfl, rfl, rfl, Nat.le_refl _, fun b _ ho => ⟨rfl, rfl, by rcases ho with ho | ho <;> simp [Gh.ren, ho, h1, h2]⟩, fun _ _ => ⟨Nat.le_refl _, fun _ _ => rfl⟩, Nat.le_refl _, fun _ _ => rfl⟩
theorem Keep.ren {g : Gh} {w : World} {ρ : Ow → Ow} {q q' : Ow} (h : ρ q = q') : Keep g w (g.ren ρ) w q q' := fun b hb => ⟨by simp [Gh.ren, hb, h], rfl, rfl⟩
theorem Stb.ren {g : Gh} {w : World} {ρ : Ow → Ow} : Stb g w (g.ren ρ) w := ⟨fun _ _ _ h => h, Nat.le_refl _, fun _ _ => rfl⟩

/-- What a value leaves where it was taken away. -/
theorem RI_remc {g : Gh} {w : World} {o : Ow} {x : AVal} {v : Value} (h : RVc g w o x v) : RI g w (remc x) v := by
  have := RI_rdc h
  cases x <;> first | exact this | skip
theorem RVc.rem {g : Gh} {w : World} {o o' : Ow} {x : AVal} {v : Value} (h : RVc g w o x v) : RVc g w o' (remc x) v := by
  refine RVc.of_RI ?_ (RI_remc h)
  cases x <;> first | rfl | (rename_i o xs; cases o <;> rfl)
theorem RVs.rem {g : Gh} {w : World} {own own' : Nat → Ow} : ∀ {xs : List AVal} {i : Nat} {us : List Value}, RVs g w own i xs us → RVs g w own' i (xs.map remc) us
  | [], _, _, h => by simpa [RVs] using h
  | a :: as, i, us, h => by
    simp only [RVs] at h
    obtain ⟨u, us', e, h1, h2⟩ := h
    simp only [List.map, RVs]
    exact ⟨u, us', e, h1.rem, RVs.rem h2⟩
theorem RV.rem {g : Gh} {w : World} {own own' : List Nat → Ow} {x : AVal} {v : Value} (h : RV g w own x v) : RV g w own' (remV x) v := by
  cases x with
  | agg cs =>
    simp only [RV, RV1] at h
    obtain ⟨us, e, h⟩ := h
    simp only [remV, RV, RV1]
    exact ⟨us, e, h.rem⟩
  | tup vs => simp [remV, RV, RV1, RVc, RI]
  | box s off => simpa [remV, remc, RV] using h
  | lst o xs =>
    have : RVc g w (own []) (.lst o xs) v := h
    have := this.rem (o' := own' [])
    cases o <;> exact this
  | _ => simpa [remV, remc, RV, RV1, RVc] using h
end Go.Ge
