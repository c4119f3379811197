/- The operations that change nothing but their own slot: what the model does, against 'fev'. -/
import Derived.Test.YtpdajkbfemcdlaaGeRead
import Derived.Laws.Cells
import Derived.Laws.Tables
import Derived.Great.BuildSlice
import Derived.Laws.MakeOwn
import Derived.Laws.Slices
import Derived.WalkKit
import Derived.ChangeKeysEq
import Derived.Deep.Draws
namespace Go.Ge

/-! ### Constants and operands -/
def cv1 : Value → AVal → Bool
  | _, .junk => true
  | .int k n, .int k' n' => decide (k = k') && decide (n = n')
  | .bool b, .bool b' => b == b'
  | .string s, .str s' => decide (s.data = s'.data)
  | .slice none 0 0, .lst (.uniq _ 0) [] => true
  | .slice none 0 0, .lst (.uniq _ (_ + 1)) [] => false
  | .slice none 0 0, .lst _ [] => true
  | .pointer none, .nilptr => true
  | .map none, .nilmap => true
  | _, _ => false
def cvs : List Value → List AVal → Bool
  | [], [] => true
  | v :: vs, x :: xs => cv1 v x && cvs vs xs
  | _, _ => false
def cv : Value → AVal → Bool
  | .agg us, .agg cs => cvs us.toList cs
  | v, x => cv1 v x
def opn : Operand → AOpn → Bool
  | .tmp n, .t m => n == m
  | .const v, .c x => cv v x
  | .func f, .c (.func g []) => f == g
  | _, _ => false

theorem RVc.of_cv1 {g : Gh} {w : World} {o : Ow} {v : Value} {x : AVal} (h : cv1 v x = true) : RVc g w o x v := by
  unfold cv1 at h
  split at h
  · simp [RVc, RI]
  · simp at h; simp [RVc, RI, h]
  · simp at h; simp [RVc, RI, h]
  · rename_i s s'
    simp at h
    have : s = s' := by cases s; cases s'; simp_all
    simp [RVc, RI, this]
  · simp only [RVc]; exact ⟨none, [], rfl, by simp, by simp [RIs], by simp, .inl trivial⟩
  · cases h
  · rename_i o hno1 hno2
    have hc : Cont g w none [] := ⟨1, by simp, by simp⟩
    cases o with
    | sh => simp only [RVc, RI]; exact ⟨none, 0, [], rfl, by simp, by simp [RIs], hc, trivial⟩
    | nil => simp only [RVc, RI]; exact ⟨none, 0, [], rfl, by simp, by simp [RIs], hc, rfl, rfl⟩
    | app sz => simp only [RVc]; exact ⟨none, 0, [], rfl, by simp, by simp [RIs], by simp, hc, .inl rfl⟩
    | uniq sz c => cases c <;> first | exact absurd rfl (hno1 _) | exact absurd rfl (hno2 _ _)
  · simp [RVc, RI]
  · simp [RVc, RI]
  · simp at h
theorem RVs.of_cvs {g : Gh} {w : World} {own : Nat → Ow} : ∀ {vs : List Value} {xs : List AVal} {i : Nat}, cvs vs xs = true → RVs g w own i xs vs
  | [], [], _, _ => by simp [RVs]
  | v :: vs, x :: xs, i, h => by
    simp only [cvs, Bool.and_eq_true] at h
    simp only [RVs]
    exact ⟨v, vs, rfl, RVc.of_cv1 h.1, RVs.of_cvs h.2⟩
  | [], _ :: _, _, h => by simp [cvs] at h
  | _ :: _, [], _, h => by simp [cvs] at h
theorem RV1.of_cv {g : Gh} {w : World} {own : List Nat → Ow} {v : Value} {x : AVal} (h : cv v x = true) : RV1 g w own x v := by
  unfold cv at h; split at h
  · simp only [RV1]; exact ⟨_, rfl, RVs.of_cvs h⟩
  · unfold RV1; split
    · rename_i hne cs
      unfold cv1 at h; split at h <;> simp_all
    · exact RVc.of_cv1 h
theorem RV.of_cv {g : Gh} {w : World} {own : List Nat → Ow} {v : Value} {x : AVal} (h : cv v x = true) : RV g w own x v := by
  unfold RV; split
  · unfold cv at h; split at h
    · simp_all
    · unfold cv1 at h; split at h <;> simp_all
  · unfold cv at h; split at h
    · simp_all
    · unfold cv1 at h; split at h <;> simp_all
  · exact RV1.of_cv h
theorem RV.of_opn {n : Nat} {S : AState} {g : Gh} {a : Act} {w : World} (hR : Rel n S g a w) {x : Operand} {y : AOpn} (h : opn x y = true) :
    (∃ t, y = .t t ∧ RV g w (.slot t) (S.full y) (a.eval x)) ∨ (∃ v, y = .c v) ∧ ∀ own, RV g w own (S.full y) (a.eval x) := by
  unfold opn at h; split at h
  · simp at h; subst h
    exact .inl ⟨_, rfl, hR.env _⟩
  · exact .inr ⟨⟨_, rfl⟩, fun own => RV.of_cv h⟩
  · simp at h; subst h
    exact .inr ⟨⟨_, rfl⟩, fun own => by simp only [AState.full, RV, RV1, RVc, RI, Act.eval]; exact ⟨#[], rfl, by simp [RIs]⟩⟩
  · simp at h
theorem rd_full (S : AState) (y : AOpn) : S.rd y = rdv (S.full y) := by cases y <;> rfl
theorem RT.of_opn {n : Nat} {S : AState} {g : Gh} {a : Act} {w : World} (hR : Rel n S g a w) {x : Operand} {y : AOpn} (h : opn x y = true) : RT g w (S.rd y) (a.eval x) := by
  rw [rd_full]
  rcases RV.of_opn hR h with ⟨t, _, h⟩ | ⟨_, h⟩
  · exact RT_rdv h
  · exact RT_rdv (h (.slot 0))

/-! ### Only new blocks -/
structure Fresh (g : Gh) (w : World) (g' : Gh) (w' : World) : Prop where
  evo : Evo g w g' w'
  keep : ∀ o, o ≠ .no → Keep g w g' w' o o
  ib : g'.ib = g.ib
  nh : g'.nh = g.nh
  valid : ∀ b, w'.heap.size ≤ b → g'.ow b = .no
theorem Fresh.refl {g : Gh} {w : World} (hv : ∀ b, w.heap.size ≤ b → g.ow b = .no) : Fresh g w g w := ⟨.refl g w, fun _ _ _ h => ⟨h, rfl, rfl⟩, rfl, rfl, hv⟩
theorem Fresh.trans {g g1 g2 : Gh} {w w1 w2 : World} (h : Fresh g w g1 w1) (k : Fresh g1 w1 g2 w2) : Fresh g w g2 w2 where
  evo := h.evo.trans k.evo
  keep := fun o ho b hb => by
    obtain ⟨a1, a2, a3⟩ := h.keep o ho b hb
    obtain ⟨c1, c2, c3⟩ := k.keep o ho b a1
    exact ⟨c1, c2.trans a2, c3.trans a3⟩
  ib := k.ib.trans h.ib
  nh := k.nh.trans h.nh
  valid := k.valid
theorem Fresh.drew {g : Gh} {w : World} (hv : ∀ b, w.heap.size ≤ b → g.ow b = .no) (n : Nat) : Fresh g w g (w.drewN n) :=
  ⟨⟨rfl, rfl, rfl, Nat.le_refl _, fun _ _ _ => ⟨rfl, rfl, rfl⟩, fun _ _ => ⟨Nat.le_refl _, fun _ _ => rfl⟩, Nat.le_refl _, fun _ _ => rfl⟩, fun _ _ _ h => ⟨h, rfl, rfl⟩, rfl, rfl, hv⟩
def Gh.alloc (g : Gh) (b : Nat) (o : Ow) (f : Nat) : Gh := { g with ow := fun c => if c = b then o else g.ow c, fr := fun c => if c = b then f else g.fr c }
theorem heap_alloc (w : World) (o : Obj) (k : Nat) (h : k ≠ w.heap.size) : (w.alloc o).heap[k]? = w.heap[k]? := by
  show (w.heap.push o)[k]? = _
  rw [Array.getElem?_push, if_neg h]
theorem heap_alloc_self (w : World) (o : Obj) : (w.alloc o).heap[w.heap.size]? = some o := by
  show (w.heap.push o)[w.heap.size]? = _
  simp
theorem Fresh.alloc {g : Gh} {w : World} (hv : ∀ b, w.heap.size ≤ b → g.ow b = .no) (obj : Obj) (q : Ow) (f : Nat) : Fresh g w (g.alloc w.heap.size q f) (w.alloc obj) where
  evo := {
    os := rfl, tape := rfl, output := rfl, size := by simp
    fixed := fun b hb _ => ⟨heap_alloc w obj b (by omega), by simp [Gh.alloc, Nat.ne_of_lt hb], by simp [Gh.alloc, Nat.ne_of_lt hb]⟩
    stab := fun b hb => ⟨by simp [Gh.alloc, Nat.ne_of_lt hb], fun o _ => World.cell?_alloc_lt w obj ⟨b, o, none⟩ hb⟩
    nh := Nat.le_refl _, io := fun _ _ => rfl }
  keep := fun o ho b hb => by
    have : b ≠ w.heap.size := fun e => ho (by rw [← hb, hv b (by omega)])
    exact ⟨by simp [Gh.alloc, this, hb], heap_alloc w obj b this, by simp [Gh.alloc, this]⟩
  ib := rfl
  nh := rfl
  valid := fun b hb => by
    simp at hb
    have : b ≠ w.heap.size := by omega
    simp only [Gh.alloc, this, if_false]
    exact hv b (by omega)
theorem Rel.fresh {n : Nat} {S : AState} {g g' : Gh} {a : Act} {w w' : World} (h : Rel n S g a w) (f : Fresh g w g' w') : Rel n S g' a w' where
  size := h.size
  defers := h.defers
  env := fun t => RV.mono f.evo.stb (fun p => f.keep _ (by simp)) _ _ (fun s off _ => by rw [f.ib]) (h.env t)
  boxes := fun s cs hs => RBox.mono f.evo.stb (by rw [f.ib]) (f.keep _ (by simp)) (fun p => f.keep _ (by simp)) (h.boxes s cs hs)
  heap := {
    nh := f.nh.trans h.heap.nh
    obj := fun id o ho => RObj.mono f.evo.stb (by rw [h.heap.nh]; exact (List.getElem?_eq_some_iff.1 ho).1) (f.keep _ (by simp)) (fun p => f.keep _ (by simp)) (h.heap.obj id o ho)
    valid := f.valid }
theorem Rel.put {n : Nat} {S : AState} {g : Gh} {a : Act} {w : World} (h : Rel n S g a w) {d : Option Nat} (hd : ∀ k, d = some k → k < n) {x : AVal} {v : Value}
    (hx : ∀ k, d = some k → RV g w (.slot k) x v) : Rel n (S.put d x) g (a.put d v) w := by
  cases d with
  | none => exact h
  | some k =>
    have hk := hd k rfl
    refine ⟨by simpa [Act.put] using h.size, h.defers, fun t => ?_, h.boxes, h.heap⟩
    simp only [AState.put, Act.put]
    by_cases e : t = k
    · subst e
      have : (a.tmps.setIfInBounds t v).getD t undef = v := by simp [Array.getD_eq_getD_getElem?, h.size, hk]
      rw [this, if_pos rfl]; exact hx t rfl
    · have : (a.tmps.setIfInBounds k v).getD t undef = a.tmps.getD t undef := by
        simp only [Array.getD_eq_getD_getElem?, Array.getElem?_setIfInBounds]
        rw [if_neg (by omega)]
      rw [this, if_neg e]; exact h.env t

/-- The operation's run comes to x, new blocks apart. -/
def Ok1 (P : Program) (s : Sem Next) (g : Gh) (w : World) (own : List Nat → Ow) (x : AVal) : Prop :=
  ∃ u w' g', s.run P w = .ok (.value u) w' ∧ Fresh g w g' w' ∧ RV g' w' own x u
theorem Ok1.same {P : Program} {s : Sem Next} {g : Gh} {w : World} {own : List Nat → Ow} {x : AVal} {u : Value} (hv : ∀ b, w.heap.size ≤ b → g.ow b = .no)
    (h : s.run P w = .ok (.value u) w) (hx : RT g w x u) (hf : flv x = true) : Ok1 P s g w own x :=
  ⟨u, w, g, h, .refl hv, RV.of_RT hf hx⟩
end Go.Ge
