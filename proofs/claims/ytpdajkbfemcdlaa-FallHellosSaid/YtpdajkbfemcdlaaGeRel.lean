/- The relation between the abstract states and the model's worlds. -/
import Derived.Test.YtpdajkbfemcdlaaGeDefs
import Derived.Below
namespace Go.Ge

inductive Ow where
  | no
  | other
  | slot (t : Nat) (p : List Nat)
  | box (s : Nat)
  | boxc (s : Nat) (p : List Nat)
  | obj (id : Nat)
  | objc (id : Nat) (p : List Nat)
  | ret (p : List Nat)
  deriving DecidableEq

/-- What is not in the world: fr: below this offset a block's cells are read for ever; ow: who may write the rest; io: where the heap's objects lie; ib: the boxes' blocks. -/
structure Gh where
  fr : Nat → Nat
  ow : Nat → Ow
  io : Nat → Nat × Nat
  ib : Nat → Nat
  nh : Nat

def St (g : Gh) (w : World) (b o : Nat) (v : Value) : Prop := o < g.fr b ∧ w.cell? ⟨b, o, none⟩ = some v ∧ v.oneCell' = true

/-- The elements us lie at A, each of sz cells, and stay. -/
def Cont (g : Gh) (w : World) (A : Option Addr) (us : List Value) : Prop :=
  ∃ sz, (∀ u ∈ us, u.cells.size = sz) ∧ (us ≠ [] → ∃ b off, A = some ⟨b, off, none⟩ ∧
    ∀ i u j x, us[i]? = some u → u.cells[j]? = some x → St g w b (off + i * sz + j) x)

mutual
def RI (g : Gh) (w : World) : AVal → Value → Prop
  | .junk, _ => True
  | .int k n, v => v = .int k n
  | .bool b, v => v = .bool b
  | .str s, v => v = .string s
  | .agg cs, v => ∃ us, v = .agg us ∧ RIs g w cs us.toList
  | .tup vs, v => ∃ us, v = .tuple us ∧ RIs g w vs us.toList
  | .lst o xs, v => ∃ A c us, v = .slice A us.length c ∧ us.length ≤ c ∧ RIs g w xs us ∧ Cont g w A us ∧ (match o with | .nil => A = none ∧ c = 0 | _ => True)
  | .cptr cs, v => ∃ b off us, v = .pointer (some ⟨b, off, none⟩) ∧ RIs g w cs us ∧ ∀ j u, us[j]? = some u → St g w b (off + j) u
  | .box _ _, _ => False
  | .hp id off, v => id < g.nh ∧ v = .pointer (some ⟨(g.io id).1, (g.io id).2 + off, none⟩)
  | .ref id off len cap, v => ∃ A, v = .slice A len cap ∧ len ≤ cap ∧ (cap ≠ 0 → id < g.nh ∧ A = some ⟨(g.io id).1, (g.io id).2 + off, none⟩)
  | .nilptr, v => v = .pointer none
  | .func f caps, v => ∃ us, v = .func (.func f) #[] us ∧ RIs g w caps us.toList
  | .map id, v => id < g.nh ∧ v = .map (some (g.io id).1)
  | .nilmap, v => v = .map none
def RIs (g : Gh) (w : World) : List AVal → List Value → Prop
  | [], us => us = []
  | a :: as, us => ∃ u us', us = u :: us' ∧ RI g w a u ∧ RIs g w as us'
end

def Unfr (n : Nat) (fz : Nat × Nat) : Prop := fz.1 = fz.2 ∨ n ≤ fz.1
theorem Unfr.at {n : Nat} {fz : Nat × Nat} (h : Unfr n fz) (i : Nat) (hi : i < n) : ¬ (fz.1 ≤ i ∧ i < fz.2) := by
  rcases h with h | h <;> omega

/-- Behind the n elements at A lie free cells, up to c elements, of a block that is o's. -/
def Spare (g : Gh) (w : World) (o : Ow) (A : Option Addr) (n c sz : Nat) : Prop :=
  ∃ b off cur e fz, A = some ⟨b, off, none⟩ ∧ g.ow b = o ∧ g.fr b ≤ off + n * sz ∧ w.heap[b]? = some (.cells cur e fz) ∧ off + c * sz ≤ cur.size ∧ Unfr cur.size fz
def Uniq (g : Gh) (w : World) (o : Ow) (A : Option Addr) (us : List Value) (c sz : Nat) : Prop :=
  ∃ b off cur e fz, A = some ⟨b, off, none⟩ ∧ g.ow b = o ∧ g.fr b ≤ off ∧ w.heap[b]? = some (.cells cur e fz) ∧ off + c * sz ≤ cur.size ∧ Unfr cur.size fz ∧
    ∀ i u j x, us[i]? = some u → u.cells[j]? = some x → cur[off + i * sz + j]? = some x ∧ x.oneCell' = true

/-- One cell, held by o. -/
def RVc (g : Gh) (w : World) (o : Ow) (x : AVal) (v : Value) : Prop :=
  match x with
  | .lst (.app sz) xs => ∃ A c us, v = .slice A us.length c ∧ us.length ≤ c ∧ RIs g w xs us ∧ (∀ u ∈ us, u.cells.size = sz) ∧ Cont g w A us ∧ (us.length = c ∨ Spare g w o A us.length c sz)
  | .lst (.uniq sz c) xs => ∃ A us, v = .slice A us.length c ∧ us.length ≤ c ∧ RIs g w xs us ∧ (∀ u ∈ us, u.cells.size = sz) ∧ (c = 0 ∨ Uniq g w o A us c sz)
  | x => RI g w x v
def RVs (g : Gh) (w : World) (own : Nat → Ow) : Nat → List AVal → List Value → Prop
  | _, [], us => us = []
  | i, a :: as, us => ∃ u us', us = u :: us' ∧ RVc g w (own i) a u ∧ RVs g w own (i + 1) as us'
def RV1 (g : Gh) (w : World) (own : List Nat → Ow) (x : AVal) (v : Value) : Prop :=
  match x with
  | .agg cs => ∃ us, v = .agg us ∧ RVs g w (fun i => own [i]) 0 cs us.toList
  | x => RVc g w (own []) x v
def RVt (g : Gh) (w : World) (own : List Nat → Ow) : Nat → List AVal → List Value → Prop
  | _, [], us => us = []
  | i, a :: as, us => ∃ u us', us = u :: us' ∧ RV1 g w (fun p => own (i :: p)) a u ∧ RVt g w own (i + 1) as us'
def RV (g : Gh) (w : World) (own : List Nat → Ow) (x : AVal) (v : Value) : Prop :=
  match x with
  | .tup vs => ∃ us, v = .tuple us ∧ RVt g w own 0 vs us.toList
  | .box s off => v = .pointer (some ⟨g.ib s, off, none⟩)
  | x => RV1 g w own x v

def RBox (g : Gh) (w : World) (s : Nat) (cs : List AVal) : Prop :=
  ∃ us e fz, w.heap[g.ib s]? = some (.cells us e fz) ∧ Unfr us.size fz ∧ g.ow (g.ib s) = .box s ∧ g.fr (g.ib s) = 0 ∧ RVs g w (fun i => .boxc s [i]) 0 cs us.toList
def RObj (g : Gh) (w : World) (id : Nat) : HObj → Prop
  | .dead => True
  | .cells cs => cs ≠ [] → ∃ cur e fz us, w.heap[(g.io id).1]? = some (.cells cur e fz) ∧ Unfr cur.size fz ∧ g.ow (g.io id).1 = .obj id ∧ g.fr (g.io id).1 ≤ (g.io id).2 ∧ (g.io id).2 + us.length ≤ cur.size ∧
      (∀ j u, us[j]? = some u → cur[(g.io id).2 + j]? = some u) ∧ RVs g w (fun i => .objc id [i]) 0 cs us

structure RHeap (g : Gh) (w : World) (h : List HObj) : Prop where
  nh : g.nh = h.length
  obj : ∀ id o, h[id]? = some o → RObj g w id o
  valid : ∀ b, w.heap.size ≤ b → g.ow b = .no

structure Rel (n : Nat) (S : AState) (g : Gh) (a : Act) (w : World) : Prop where
  size : a.tmps.size = n
  defers : a.defers = []
  env : ∀ t, RV g w (.slot t) (S.env t) (a.tmps.getD t undef)
  boxes : ∀ s cs, S.boxes s = some cs → RBox g w s cs
  heap : RHeap g w S.heap

/-- From a world to a later one: what nobody of us holds is as it was. -/
structure Evo (g : Gh) (w : World) (g' : Gh) (w' : World) : Prop where
  os : w'.os = w.os
  tape : w'.tape = w.tape
  output : w'.output = w.output
  size : w.heap.size ≤ w'.heap.size
  fixed : ∀ b, b < w.heap.size → (g.ow b = .no ∨ g.ow b = .other) → w'.heap[b]? = w.heap[b]? ∧ g'.fr b = g.fr b ∧ g'.ow b = g.ow b
  stab : ∀ b, b < w.heap.size → g.fr b ≤ g'.fr b ∧ ∀ o, o < g.fr b → w'.cell? ⟨b, o, none⟩ = w.cell? ⟨b, o, none⟩
  nh : g.nh ≤ g'.nh
  io : ∀ id, id < g.nh → g'.io id = g.io id

theorem Evo.refl (g : Gh) (w : World) : Evo g w g w :=
  ⟨rfl, rfl, rfl, Nat.le_refl _, fun _ _ _ => ⟨rfl, rfl, rfl⟩, fun _ _ => ⟨Nat.le_refl _, fun _ _ => rfl⟩, Nat.le_refl _, fun _ _ => rfl⟩
theorem Evo.trans {g g1 g2 : Gh} {w w1 w2 : World} (h : Evo g w g1 w1) (k : Evo g1 w1 g2 w2) : Evo g w g2 w2 where
  os := k.os.trans h.os
  tape := k.tape.trans h.tape
  output := k.output.trans h.output
  size := Nat.le_trans h.size k.size
  fixed := fun b hb ho => by
    obtain ⟨a1, a2, a3⟩ := h.fixed b hb ho
    obtain ⟨c1, c2, c3⟩ := k.fixed b (Nat.lt_of_lt_of_le hb h.size) (by rw [a3]; exact ho)
    exact ⟨c1.trans a1, c2.trans a2, c3.trans a3⟩
  stab := fun b hb => by
    obtain ⟨a1, a2⟩ := h.stab b hb
    obtain ⟨c1, c2⟩ := k.stab b (Nat.lt_of_lt_of_le hb h.size)
    exact ⟨Nat.le_trans a1 c1, fun o ho => (c2 o (Nat.lt_of_lt_of_le ho a1)).trans (a2 o ho)⟩
  nh := Nat.le_trans h.nh k.nh
  io := fun id hid => (k.io id (Nat.lt_of_lt_of_le hid h.nh)).trans (h.io id hid)

/-- What a reading leans on stays. -/
structure Stb (g : Gh) (w : World) (g' : Gh) (w' : World) : Prop where
  st : ∀ b o v, St g w b o v → St g' w' b o v
  nh : g.nh ≤ g'.nh
  io : ∀ id, id < g.nh → g'.io id = g.io id
theorem Stb.refl (g : Gh) (w : World) : Stb g w g w := ⟨fun _ _ _ h => h, Nat.le_refl _, fun _ _ => rfl⟩
theorem Evo.stb {g g' : Gh} {w w' : World} (h : Evo g w g' w') : Stb g w g' w' :=
  ⟨fun b o v ⟨h1, h2, h3⟩ => by
      have hb : b < w.heap.size := World.block_lt_of_cell? w ⟨b, o, none⟩ h2
      obtain ⟨s1, s2⟩ := h.stab b hb
      exact ⟨Nat.lt_of_lt_of_le h1 s1, (s2 o h1).trans h2, h3⟩, h.nh, h.io⟩

theorem Cont.mono {g g' : Gh} {w w' : World} (hs : Stb g w g' w') {A : Option Addr} {us : List Value} (h : Cont g w A us) : Cont g' w' A us := by
  obtain ⟨sz, h1, h2⟩ := h
  refine ⟨sz, h1, fun hne => ?_⟩
  obtain ⟨b, off, e, hc⟩ := h2 hne
  exact ⟨b, off, e, fun i u j x hi hj => hs.st _ _ _ (hc i u j x hi hj)⟩

mutual
theorem RI.mono {g g' : Gh} {w w' : World} (hs : Stb g w g' w') : ∀ (x : AVal) (v : Value), RI g w x v → RI g' w' x v
  | .junk, _, _ => by simp [RI]
  | .int .., _, h => by simpa [RI] using h
  | .bool _, _, h => by simpa [RI] using h
  | .str _, _, h => by simpa [RI] using h
  | .agg cs, v, h => by
    simp only [RI] at h ⊢
    obtain ⟨us, e, h⟩ := h
    exact ⟨us, e, RIs.mono hs cs _ h⟩
  | .tup cs, v, h => by
    simp only [RI] at h ⊢
    obtain ⟨us, e, h⟩ := h
    exact ⟨us, e, RIs.mono hs cs _ h⟩
  | .lst o xs, v, h => by
    simp only [RI] at h ⊢
    obtain ⟨A, c, us, e, hl, h, hc, hn⟩ := h
    exact ⟨A, c, us, e, hl, RIs.mono hs xs _ h, hc.mono hs, hn⟩
  | .cptr cs, v, h => by
    simp only [RI] at h ⊢
    obtain ⟨b, off, us, e, h, hc⟩ := h
    exact ⟨b, off, us, e, RIs.mono hs cs _ h, fun j u hj => hs.st _ _ _ (hc j u hj)⟩
  | .box .., _, h => by simp [RI] at h
  | .hp id off, v, h => by
    simp only [RI] at h ⊢
    obtain ⟨h1, h2⟩ := h
    exact ⟨Nat.lt_of_lt_of_le h1 hs.nh, by rw [hs.io id h1]; exact h2⟩
  | .ref id off len cap, v, h => by
    simp only [RI] at h ⊢
    obtain ⟨A, h1, h2, h3⟩ := h
    refine ⟨A, h1, h2, fun hc => ?_⟩
    obtain ⟨h4, h5⟩ := h3 hc
    exact ⟨Nat.lt_of_lt_of_le h4 hs.nh, by rw [hs.io id h4]; exact h5⟩
  | .nilptr, _, h => by simpa [RI] using h
  | .func f caps, v, h => by
    simp only [RI] at h ⊢
    obtain ⟨us, e, h⟩ := h
    exact ⟨us, e, RIs.mono hs caps _ h⟩
  | .map id, v, h => by
    simp only [RI] at h ⊢
    obtain ⟨h1, h2⟩ := h
    exact ⟨Nat.lt_of_lt_of_le h1 hs.nh, by rw [hs.io id h1]; exact h2⟩
  | .nilmap, _, h => by simpa [RI] using h
theorem RIs.mono {g g' : Gh} {w w' : World} (hs : Stb g w g' w') : ∀ (xs : List AVal) (us : List Value), RIs g w xs us → RIs g' w' xs us
  | [], _, h => by simpa [RIs] using h
  | a :: as, us, h => by
    simp only [RIs] at h ⊢
    obtain ⟨u, us', e, h1, h2⟩ := h
    exact ⟨u, us', e, RI.mono hs a u h1, RIs.mono hs as us' h2⟩
end

/-- A holder's blocks are as they were, under a name that may be new. -/
def Keep (g : Gh) (w : World) (g' : Gh) (w' : World) (o o' : Ow) : Prop :=
  ∀ b, g.ow b = o → g'.ow b = o' ∧ w'.heap[b]? = w.heap[b]? ∧ g'.fr b = g.fr b

theorem Spare.mono {g g' : Gh} {w w' : World} {o o' : Ow} (hk : Keep g w g' w' o o') {A : Option Addr} {n c sz : Nat} (h : Spare g w o A n c sz) : Spare g' w' o' A n c sz := by
  obtain ⟨b, off, cur, e, fz, h1, h2, h3, h4, h5, h6⟩ := h
  obtain ⟨k1, k2, k3⟩ := hk b h2
  exact ⟨b, off, cur, e, fz, h1, k1, by rw [k3]; exact h3, by rw [k2]; exact h4, h5, h6⟩
theorem Uniq.mono {g g' : Gh} {w w' : World} {o o' : Ow} (hk : Keep g w g' w' o o') {A : Option Addr} {us : List Value} {c sz : Nat} (h : Uniq g w o A us c sz) : Uniq g' w' o' A us c sz := by
  obtain ⟨b, off, cur, e, fz, h1, h2, h3, h4, h5, h6, h7⟩ := h
  obtain ⟨k1, k2, k3⟩ := hk b h2
  exact ⟨b, off, cur, e, fz, h1, k1, by rw [k3]; exact h3, by rw [k2]; exact h4, h5, h6, h7⟩
theorem RVc.mono {g g' : Gh} {w w' : World} (hs : Stb g w g' w') {o o' : Ow} (hk : Keep g w g' w' o o') (x : AVal) (v : Value) (h : RVc g w o x v) : RVc g' w' o' x v := by
  unfold RVc at h ⊢
  split at h
  · obtain ⟨A, c, us, e, hl, h, hsz, hc, hn⟩ := h
    exact ⟨A, c, us, e, hl, RIs.mono hs _ _ h, hsz, hc.mono hs, hn.imp id (Spare.mono hk)⟩
  · obtain ⟨A, us, e, hl, h, hsz, hn⟩ := h
    exact ⟨A, us, e, hl, RIs.mono hs _ _ h, hsz, hn.imp id (Uniq.mono hk)⟩
  · exact RI.mono hs _ _ h
theorem RVs.mono {g g' : Gh} {w w' : World} (hs : Stb g w g' w') {own own' : Nat → Ow} : ∀ (xs : List AVal) (i : Nat) (us : List Value), (∀ j, Keep g w g' w' (own j) (own' j)) → RVs g w own i xs us → RVs g' w' own' i xs us
  | [], _, _, _, h => by simpa [RVs] using h
  | a :: as, i, us, hk, h => by
    simp only [RVs] at h ⊢
    obtain ⟨u, us', e, h1, h2⟩ := h
    exact ⟨u, us', e, RVc.mono hs (hk i) a u h1, RVs.mono hs as (i + 1) us' hk h2⟩
theorem RV1.mono {g g' : Gh} {w w' : World} (hs : Stb g w g' w') {own own' : List Nat → Ow} (hk : ∀ p, Keep g w g' w' (own p) (own' p)) (x : AVal) (v : Value) (h : RV1 g w own x v) : RV1 g' w' own' x v := by
  unfold RV1 at h ⊢
  split at h
  · obtain ⟨us, e, h⟩ := h
    exact ⟨us, e, RVs.mono hs _ _ _ (fun j => hk [j]) h⟩
  · exact RVc.mono hs (hk []) _ _ h
theorem RVt.mono {g g' : Gh} {w w' : World} (hs : Stb g w g' w') {own own' : List Nat → Ow} : ∀ (xs : List AVal) (i : Nat) (us : List Value), (∀ p, Keep g w g' w' (own p) (own' p)) → RVt g w own i xs us → RVt g' w' own' i xs us
  | [], _, _, _, h => by simpa [RVt] using h
  | a :: as, i, us, hk, h => by
    simp only [RVt] at h ⊢
    obtain ⟨u, us', e, h1, h2⟩ := h
    exact ⟨u, us', e, RV1.mono hs (fun p => hk (i :: p)) a u h1, RVt.mono hs as (i + 1) us' hk h2⟩
theorem RV.mono {g g' : Gh} {w w' : World} (hs : Stb g w g' w') {own own' : List Nat → Ow} (hk : ∀ p, Keep g w g' w' (own p) (own' p)) (x : AVal) (v : Value)
    (hb : ∀ s off, x = .box s off → g'.ib s = g.ib s) (h : RV g w own x v) : RV g' w' own' x v := by
  unfold RV at h ⊢
  split at h
  · obtain ⟨us, e, h⟩ := h
    exact ⟨us, e, RVt.mono hs _ _ _ hk h⟩
  · rename_i s off
    rw [hb s off rfl]; exact h
  · exact RV1.mono hs hk _ _ h
theorem RBox.mono {g g' : Gh} {w w' : World} (hs : Stb g w g' w') {s : Nat} {cs : List AVal} (hib : g'.ib s = g.ib s) (hk0 : Keep g w g' w' (.box s) (.box s)) (hk : ∀ p, Keep g w g' w' (.boxc s p) (.boxc s p)) (h : RBox g w s cs) : RBox g' w' s cs := by
  obtain ⟨us, e, fz, h1, h2, h3, h4, h5⟩ := h
  obtain ⟨k1, k2, k3⟩ := hk0 _ h3
  exact ⟨us, e, fz, by rw [hib, k2]; exact h1, h2, by rw [hib]; exact k1, by rw [hib, k3]; exact h4, RVs.mono hs _ _ _ (fun j => hk [j]) h5⟩
theorem RObj.mono {g g' : Gh} {w w' : World} (hs : Stb g w g' w') {id : Nat} {o : HObj} (hid : id < g.nh) (hk0 : Keep g w g' w' (.obj id) (.obj id)) (hk : ∀ p, Keep g w g' w' (.objc id p) (.objc id p)) (h : RObj g w id o) : RObj g' w' id o := by
  cases o with
  | dead => trivial
  | cells cs =>
    simp only [RObj] at h ⊢
    intro hne
    obtain ⟨cur, e, fz, us, h1, h2, h3, h4, hz, h5, h6⟩ := h hne
    obtain ⟨k1, k2, k3⟩ := hk0 _ h3
    rw [hs.io id hid]
    exact ⟨cur, e, fz, us, by rw [k2]; exact h1, h2, k1, by rw [k3]; exact h4, hz, h5, RVs.mono hs _ _ _ (fun j => hk [j]) h6⟩
end Go.Ge
