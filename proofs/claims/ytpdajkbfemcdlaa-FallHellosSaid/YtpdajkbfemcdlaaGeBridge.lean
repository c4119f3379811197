/- From a law's data to what the engine reads. -/
import Derived.Test.YtpdajkbfemcdlaaGeGc
import GoSem.ClaimJoined
import Derived.WalkKit
import Derived.ProofKit
import Derived.OpenShut
import Derived.ChangeOld
import Derived.SizedLaws
import Derived.Carry
import Derived.Deep.CondSized
set_option linter.unusedSimpArgs false
set_option linter.unusedVariables false
namespace Go.Ge
open Go.RowKit

/-- What a type's cells look like. -/
inductive Ty where
  | int (k : IntKind)
  | bool
  | str
  | slice (bytes : Nat) (ag : Bool) (es : List Ty)
  deriving Inhabited

def packV (ag : Bool) (cs : List AVal) : AVal := if ag then .agg cs else cs.headD .junk
def packU (ag : Bool) (us : List Value) : Value := if ag then .agg us.toArray else us.headD undef
mutual
def HasC : Ty → AVal → Prop
  | .int k, x => ∃ n, x = .int k n ∧ (Lit.int k n).wf = true
  | .bool, x => ∃ b, x = .bool b
  | .str, x => ∃ s : ByteArray, x = .str s ∧ s.size ≤ reachBytes
  | .slice by_ ag es, x => ∃ o xs, x = .lst o xs ∧ (o = .sh ∨ o = .nil ∧ xs = []) ∧ xs.length ≤ maxLen ∧ xs.length * by_ ≤ reachBytes ∧ ∀ y ∈ xs, ∃ cs, y = packV ag cs ∧ HasL es cs
def HasL : List Ty → List AVal → Prop
  | [], xs => xs = []
  | t :: ts, xs => ∃ y ys, xs = y :: ys ∧ HasC t y ∧ HasL ts ys
end

def fieldTys (P : Program) (rec : TypeId → Option (List Ty)) : List Field → Nat → Option (List Ty × Nat)
  | [], off => some ([], off)
  | f :: fs, off => if f.offset = off then
      match rec f.type with
      | some es => if es.length = P.cellsOf f.type then
          match fieldTys P rec fs (off + es.length) with
          | some (r, n) => some (es ++ r, n)
          | none => none
        else none
      | none => none
    else none
def repTys (n : Nat) (es : List Ty) : List Ty := (List.replicate n es).flatten
def cellTys (P : Program) : Nat → TypeId → Option (List Ty)
  | 0, _ => none
  | d + 1, t => match P.underlying t with
    | some (.int k) => some [.int k]
    | some .bool => some [.bool]
    | some .string => some [.str]
    | some (.slice e) => match cellTys P d e with
      | some es => if es.length = P.cellsOf e ∧ 0 < es.length ∧ (P.underlying e).isSome = true then some [.slice (P.bytesOf e) (aggT P e) es] else none
      | none => none
    | some (.struct fs) => match fieldTys P (cellTys P d) fs.toList 0 with
      | some (r, n) => if n = P.cellsOf t then some r else none
      | none => none
    | some (.array n e) => match cellTys P d e with
      | some es => if es.length = P.cellsOf e ∧ n * es.length = P.cellsOf t then some (repTys n es) else none
      | none => none
    | _ => none

mutual
/-- How many values and letters. -/
def bulkV : AVal → Nat
  | .lst _ xs => bulkVs xs + 1
  | .agg cs => bulkVs cs
  | .str s => s.size + 1
  | _ => 1
def bulkVs : List AVal → Nat
  | [] => 0
  | x :: l => bulkV x + bulkVs l
end
theorem bulkVs_append (a b : List AVal) : bulkVs (a ++ b) = bulkVs a + bulkVs b := by
  induction a with
  | nil => simp [bulkVs]
  | cons x l ih => simp only [List.cons_append, bulkVs, ih]; omega
mutual
/-- How many values and letters a reading holds. -/
def bulkD {H : Type} : DataW H → Nat
  | .lit (.string bytes) => bytes.length + 1
  | .lit _ => 1
  | .nil => 1
  | .ptr d => bulkD d + 1
  | .slice elems spare => bulkDs elems + bulkDs spare + 1
  | .agg parts => bulkDs parts + 1
  | .iface _ d => bulkD d + 1
  | .map entries => bulkDe entries + 1
  | .held _ => 1
def bulkDs {H : Type} : List (DataW H) → Nat
  | [] => 0
  | d :: r => bulkD d + bulkDs r
def bulkDe {H : Type} : List (Lit × DataW H) → Nat
  | [] => 0
  | x :: r => bulkD1 x + bulkDe r
def bulkD1 {H : Type} : Lit × DataW H → Nat
  | (.string bytes, d) => bytes.length + bulkD d + 1
  | (_, d) => bulkD d + 1
end
theorem bulkDs_append {H : Type} (a b : List (DataW H)) : bulkDs (a ++ b) = bulkDs a + bulkDs b := by
  induction a with
  | nil => simp [bulkDs]
  | cons x l ih => simp only [List.cons_append, bulkDs, ih]; omega
theorem HasL.append : ∀ {l1 bs : List Ty} {xs ys : List AVal}, HasL l1 xs → HasL bs ys → HasL (l1 ++ bs) (xs ++ ys)
  | [], bs, xs, ys, h, k => by simp only [HasL] at h; subst h; simpa using k
  | t :: l, bs, xs, ys, h, k => by
    simp only [HasL] at h
    obtain ⟨y, zs, rfl, h1, h2⟩ := h
    simp only [List.cons_append, HasL]
    exact ⟨y, zs ++ ys, rfl, h1, h2.append k⟩
theorem HasL.length : ∀ {l1 : List Ty} {xs : List AVal}, HasL l1 xs → xs.length = l1.length
  | [], xs, h => by simp only [HasL] at h; subst h; rfl
  | t :: l, xs, h => by
    simp only [HasL] at h
    obtain ⟨y, zs, rfl, h1, h2⟩ := h
    simp [h2.length]
theorem HasC.noBox {t : Ty} {x : AVal} (h : HasC t x) : storC x = true ∧ flC x = true := by
  cases t <;> simp only [HasC] at h
  · obtain ⟨n, rfl, _⟩ := h; exact ⟨rfl, rfl⟩
  · obtain ⟨n, rfl⟩ := h; exact ⟨rfl, rfl⟩
  · obtain ⟨n, rfl, _⟩ := h; exact ⟨rfl, rfl⟩
  · obtain ⟨o, xs, rfl, ho, _⟩ := h
    rcases ho with rfl | ⟨rfl, _⟩ <;> exact ⟨rfl, rfl⟩

/-- The ghost of a law's start: all that is there is read for ever. -/
def Gh.all (w : World) : Gh := ⟨fun b => match w.heap[b]? with | some (.cells c _ _) => c.size | _ => 0, fun _ => .no, fun _ => (0, 0), fun _ => 0, 0⟩
theorem St.all {w : World} {b o : Nat} {v : Value} (h : w.cell? ⟨b, o, none⟩ = some v) (h1 : v.oneCell' = true) : St (Gh.all w) w b o v := by
  refine ⟨?_, h, h1⟩
  simp only [World.cell?] at h
  simp only [Gh.all]
  split at h
  · rename_i c e fz hb
    rw [hb]
    simp at h
    exact (Array.getElem?_eq_some_iff.1 h).1
  · cases h
theorem RHeap.all (w : World) : RHeap (Gh.all w) w [] := ⟨rfl, fun id o h => by simp at h, fun _ _ => rfl⟩

section
variable {H : Type} {enc : TypeId × Value → H} {P : Program} {W : World}
/-- What is read of a type's cells. -/
def Reads (W : World) (es : List Ty) (cs : List Value) (N : Nat) : Prop := ∃ xs, HasL es xs ∧ RIs (Gh.all W) W xs cs ∧ (∀ c ∈ cs, c.oneCell' = true) ∧ bulkVs xs ≤ N
theorem Reads.append {l1 bs : List Ty} {xs ys : List Value} {N M : Nat} (h : Reads W l1 xs N) (k : Reads W bs ys M) : Reads W (l1 ++ bs) (xs ++ ys) (N + M) := by
  obtain ⟨x, h1, h2, h3, h4⟩ := h
  obtain ⟨y, k1, k2, k3, k4⟩ := k
  exact ⟨x ++ y, h1.append k1, h2.append k2, fun c hc => (List.mem_append.1 hc).elim (h3 c) (k3 c), by rw [bulkVs_append]; omega⟩
theorem Reads.nil : Reads W [] [] 0 := ⟨[], by simp [HasL], by simp [RIs], by simp, by simp [bulkVs]⟩
theorem Reads.one {t : Ty} {x : AVal} {v : Value} {N : Nat} (h : HasC t x) (k : RI (Gh.all W) W x v) (o : v.oneCell' = true) (hn : bulkV x ≤ N) : Reads W [t] [v] N :=
  ⟨[x], by simp only [HasL]; exact ⟨x, [], rfl, h, rfl⟩, by simp only [RIs]; exact ⟨v, [], rfl, k, rfl⟩, by simpa using o, by simpa [bulkVs] using hn⟩
theorem Reads.le {es : List Ty} {cs : List Value} {N M : Nat} (h : Reads W es cs N) (hle : N ≤ M) : Reads W es cs M := by
  obtain ⟨xs, h1, h2, h3, h4⟩ := h
  exact ⟨xs, h1, h2, h3, by omega⟩
theorem Reads.length {es : List Ty} {cs : List Value} {N : Nat} (h : Reads W es cs N) : cs.length = es.length := by
  obtain ⟨xs, h1, h2, _⟩ := h
  rw [h2.length, h1.length]

theorem mapM_some {α β : Type} {f : α → Option β} : ∀ {l : List α} {r : List β}, l.mapM f = some r → r.length = l.length ∧ ∀ (i : Nat) (x : α), l[i]? = some x → ∃ y, r[i]? = some y ∧ f x = some y
  | [], r, h => by simp at h; subst h; simp
  | a :: l, r, h => by
    simp only [List.mapM_cons, Option.bind_eq_bind, Option.bind_eq_some_iff, Option.pure_def, Option.some.injEq] at h
    obtain ⟨y, h1, ys, h2, rfl⟩ := h
    obtain ⟨k1, k2⟩ := mapM_some h2
    refine ⟨by simp [k1], fun i x hx => ?_⟩
    cases i with
    | zero => simp at hx; subst hx; exact ⟨y, by simp, h1⟩
    | succ i => simpa using k2 i x (by simpa using hx)
theorem weightsAll_mem {e : TypeId} {m : Nat} : ∀ {ds : List (DataW H)}, (∀ x ∈ DataW.weightsAll P e ds, x ≤ m) → ∀ d ∈ ds, ∀ x ∈ d.weights P e, x ≤ m
  | [], _, d, hd => by simp at hd
  | c :: ds, h, d, hd => by
    simp only [DataW.weightsAll, List.mem_append] at h
    rcases List.mem_cons.1 hd with rfl | hd
    · exact fun x hx => h x (.inl hx)
    · exact weightsAll_mem (fun x hx => h x (.inr hx)) d hd
theorem weightsEach_nth {m : Nat} : ∀ {ts : List TypeId} {ds : List (DataW H)}, (∀ x ∈ DataW.weightsEach P ts ds, x ≤ m) → ∀ (i : Nat) (t : TypeId) (d : DataW H), ts[i]? = some t → ds[i]? = some d → ∀ x ∈ d.weights P t, x ≤ m
  | [], ds, _, i, t, d, ht, _ => by simp at ht
  | _ :: _, [], _, i, t, d, _, hd => by simp at hd
  | t0 :: ts, d0 :: ds, h, i, t, d, ht, hd => by
    simp only [DataW.weightsEach, List.mem_append] at h
    cases i with
    | zero => simp at ht hd; subst ht hd; exact fun x hx => h x (.inl hx)
    | succ i => exact weightsEach_nth (fun x hx => h x (.inr hx)) i t d (by simpa using ht) (by simpa using hd)
theorem weightsEach_cons {m : Nat} {t : TypeId} {ts : List TypeId} {d : DataW H} {ds : List (DataW H)} (h : ∀ x ∈ DataW.weightsEach P (t :: ts) (d :: ds), x ≤ m) : (∀ x ∈ d.weights P t, x ≤ m) ∧ ∀ x ∈ DataW.weightsEach P ts ds, x ≤ m := by
  simp only [DataW.weightsEach, List.mem_append] at h
  exact ⟨fun x hx => h x (.inl hx), fun x hx => h x (.inr hx)⟩
theorem cell_nospot {a : Addr} {v : Value} (h : W.cell? a = some v) : a.spot = none := by
  simp only [World.cell?] at h
  split at h
  · split at h
    · cases h
    · rename_i hs; simpa using hs
  · cases h

theorem fields_read {rec : TypeId → Option (List Ty)} {tr : TypeId → List Value → Option (DataW H × List MemPlace)} {m : Nat}
    (ih : ∀ t cs d ps es, tr t cs = some (d, ps) → rec t = some es → (∀ x ∈ d.weights P t, x ≤ m) → Reads W es cs (bulkD d)) :
    ∀ (fs : List Field) (cs : List Value) (off k : Nat) (r : List Ty) (xs : List (DataW H × List MemPlace)), fs.mapM (fun f => tr f.type ((cs.drop f.offset).take (P.cellsOf f.type))) = some xs → fieldTys P rec fs off = some (r, k) →
      (∀ x ∈ DataW.weightsEach P (fs.map (·.type)) (xs.map (·.1)), x ≤ m) → k = cs.length → off ≤ cs.length → Reads W r (cs.drop off) (bulkDs (xs.map (·.1)))
  | [], cs, off, k, r, xs, h, hf, hw, hk, hle => by
    simp only [fieldTys, Option.some.injEq, Prod.mk.injEq] at hf
    obtain ⟨rfl, rfl⟩ := hf
    rw [hk, List.drop_length]; exact Reads.nil.le (Nat.zero_le _)
  | f :: fs, cs, off, k, r, xs, h, hf, hw, hk, hle => by
    simp only [List.mapM_cons, Option.bind_eq_bind, Option.bind_eq_some_iff, Option.pure_def, Option.some.injEq] at h
    obtain ⟨y, h1, ys, h2, rfl⟩ := h
    obtain ⟨d, ps⟩ := y
    simp only [fieldTys] at hf
    split at hf
    case isFalse => cases hf
    rename_i hoff
    split at hf
    case h_2 => cases hf
    rename_i es hes
    split at hf
    case isFalse => cases hf
    rename_i hlen
    split at hf
    case h_2 => cases hf
    rename_i r' n' hr'
    simp only [Option.some.injEq, Prod.mk.injEq] at hf
    obtain ⟨rfl, rfl⟩ := hf
    simp only [List.map_cons] at hw
    obtain ⟨hw1, hw2⟩ := weightsEach_cons hw
    subst hoff
    have hr1 := ih _ _ _ _ _ h1 hes hw1
    have hl1 := hr1.length
    rw [List.length_take, List.length_drop] at hl1
    have h3 := fields_read ih fs cs (f.offset + es.length) n' r' ys h2 hr' hw2 hk (by omega)
    have e : cs.drop f.offset = (cs.drop f.offset).take (P.cellsOf f.type) ++ cs.drop (f.offset + es.length) := by
      rw [← List.drop_drop, hlen, List.take_append_drop]
    rw [e]
    exact (hr1.append h3).le (by simp [bulkDs])
theorem trod_reads : ∀ (fuel dd : Nat) (t : TypeId) (cs : List Value) (d : DataW H) (ps : List MemPlace) (es : List Ty), DataW.trod enc P W 0 (fun _ => true) true fuel t cs = some (d, ps) → cellTys P dd t = some es →
    (∀ x ∈ d.weights P t, x ≤ reachBytes) → Reads W es cs (bulkD d)
  | 0, _, _, _, _, _, _, h, _, _ => by simp [DataW.trod] at h
  | _ + 1, 0, _, _, _, _, _, _, h, _ => by simp [cellTys] at h
  | fuel + 1, dd + 1, t, cs, d, ps, es, h, hc, hw => by
    have ih : ∀ t cs d ps es, DataW.trod enc P W 0 (fun _ => true) true fuel t cs = some (d, ps) → cellTys P dd t = some es → (∀ x ∈ d.weights P t, x ≤ reachBytes) → Reads W es cs (bulkD d) := fun t cs d ps es => trod_reads fuel dd t cs d ps es
    simp only [cellTys] at hc
    have none0 : ∀ {x : DataW H × List MemPlace}, (none : Option (DataW H × List MemPlace)) = some x → False := by intro x h; cases h
    split at hc
    · -- int
      rename_i k hu
      cases hc
      unfold DataW.trod at h
      rw [hu] at h
      split at h <;> (try (rename_i e1; cases e1)) <;> (try (cases h; done))
      split at h
      · rename_i hk
        obtain ⟨rfl, hk⟩ := hk
        rename_i k' m
        exact Reads.one (x := .int k' m) (by simp only [HasC]; exact ⟨_, rfl, hk⟩) (by simp [RI]) rfl (by simp only [Option.some.injEq, Prod.mk.injEq] at h; rw [← h.1]; simp [bulkV, bulkD])
      · cases h
    · rename_i hu
      cases hc
      unfold DataW.trod at h
      rw [hu] at h
      split at h <;> (try (rename_i e1; cases e1)) <;> (try (cases h; done))
      rename_i b
      exact Reads.one (x := .bool b) (by simp only [HasC]; exact ⟨_, rfl⟩) (by simp [RI]) rfl (by simp only [Option.some.injEq, Prod.mk.injEq] at h; rw [← h.1]; simp [bulkV, bulkD])
    · rename_i hu
      cases hc
      unfold DataW.trod at h
      rw [hu] at h
      split at h <;> (try (rename_i e1; cases e1)) <;> (try (cases h; done))
      split at h
      · rename_i s hs
        simp only [Option.some.injEq, Prod.mk.injEq] at h
        obtain ⟨rfl, rfl⟩ := h
        have := hw s.data.toList.length (by simp [DataW.weights])
        exact Reads.one (x := .str s) (by simp only [HasC]; exact ⟨_, rfl, by simpa using this⟩) (by simp [RI]) rfl (by simp [bulkV, bulkD])
      · cases h
    · -- slice
      rename_i e hu
      split at hc
      case h_2 => cases hc
      rename_i es' hes
      split at hc
      case isFalse => cases hc
      rename_i hlen
      obtain ⟨hl1, hl2, hl3⟩ := hlen
      cases hc
      unfold DataW.trod at h
      rw [hu] at h
      split at h <;> (try (rename_i e1; cases e1)) <;> (try (cases h; done))
      · -- nil
        refine Reads.one (x := .lst .nil []) ?_ ?_ rfl (by simp only [Option.some.injEq, Prod.mk.injEq] at h; rw [← h.1]; simp [bulkV, bulkVs, bulkD])
        · simp only [HasC]; exact ⟨.nil, [], rfl, .inr ⟨rfl, rfl⟩, by simp, by simp, by simp⟩
        · simp only [RI]; exact ⟨none, 0, [], rfl, by simp, by simp [RIs], ⟨1, by simp, by simp⟩, rfl, rfl⟩
      · rename_i ad len cap
        simp only at h
        split at h
        case isFalse => cases h
        rename_i hcap
        obtain ⟨_, hlc, hcm⟩ := hcap
        simp only [Option.bind_eq_some_iff, Option.map_eq_some_iff] at h
        obtain ⟨elems, hel, rest, hrest, h⟩ := h
        simp only [Prod.mk.injEq] at h
        obtain ⟨rfl, rfl⟩ := h
        obtain ⟨m1, m2⟩ := mapM_some hel
        have m1 : elems.length = len := by simpa using m1
        simp only [if_true] at hrest
        obtain ⟨m3, _⟩ := mapM_some hrest
        have m3 : rest.length = cap - len := by simpa using m3
        have hwt : (elems.length + rest.length) * P.bytesOf e ≤ reachBytes := hw _ (by simp [DataW.weights, hu])
        have hwe : ∀ d ∈ elems.map (·.1), ∀ x ∈ d.weights P e, x ≤ reachBytes := weightsAll_mem (fun x hx => hw x (by simp [DataW.weights, hu, hx]))
        have key : ∀ i, i < len → ∃ (cs : List Value) (y : DataW H × List MemPlace), elems[i]? = some y ∧ (∀ (j : Nat) (u : Value), cs[j]? = some u → W.cell? ((ad.add (i * P.cellsOf e)).add j) = some u) ∧ Reads W es' cs (bulkD y.1) := by
          intro i hi
          obtain ⟨y, hy1, hy2⟩ := m2 i i (by simp [hi])
          simp only [Option.bind_eq_some_iff] at hy2
          obtain ⟨cs, hcs, hy2⟩ := hy2
          obtain ⟨d, q⟩ := y
          refine ⟨cs, (d, q), hy1, fun j u hj => ?_, ih _ _ _ _ _ hy2 hes (hwe d (List.mem_map.2 ⟨_, List.mem_of_getElem? hy1, rfl⟩))⟩
          simp only [World.cells?] at hcs
          split at hcs
          · obtain ⟨n1, n2⟩ := mapM_some hcs
            have hjl : j < P.cellsOf e := by
              have := (List.getElem?_eq_some_iff.1 hj).1
              rw [n1] at this; simpa using this
            obtain ⟨u', hu1, hu2⟩ := n2 j j (by simp [hjl])
            rw [hj] at hu1; cases hu1; exact hu2
          · cases hcs
        -- the elements, one by one
        have build : ∀ k, k ≤ len → ∃ (xs : List AVal) (us : List Value), xs.length = k ∧ us.length = k ∧ RIs (Gh.all W) W xs us ∧ (∀ y ∈ xs, ∃ cs, y = packV (aggT P e) cs ∧ HasL es' cs) ∧ (∀ u ∈ us, u.cells.size = es'.length) ∧
            (∀ (i : Nat) (u : Value) (j : Nat) (x : Value), us[i]? = some u → u.cells[j]? = some x → W.cell? ((ad.add (i * P.cellsOf e)).add j) = some x ∧ x.oneCell' = true) ∧ bulkVs xs ≤ bulkDs ((elems.take k).map (·.1)) := by
          intro k
          induction k with
          | zero => intro _; exact ⟨[], [], rfl, rfl, by simp [RIs], by simp, by simp, by simp, by simp [bulkVs]⟩
          | succ k ihk =>
            intro hk
            obtain ⟨xs, us, a1, a2, a3, a4, a5, a6, a7⟩ := ihk (by omega)
            obtain ⟨cs, yd, hyd, b1, ys, b2, b3, b4, b5⟩ := key k (by omega)
            have hyl := b2.length
            have hcl := b3.length
            have hcells : (packU (aggT P e) cs).cells = cs.toArray := by
              unfold packU
              cases hag : aggT P e with
              | true => simp [Value.cells]
              | false =>
                have h1 : es'.length = 1 := by
                  cases dd with
                  | zero => simp [cellTys] at hes
                  | succ dd =>
                    simp only [cellTys] at hes
                    simp only [aggT] at hag
                    split at hes <;> first | (cases hes; done) | (cases hes; rfl) | skip
                    · split at hes
                      · split at hes <;> first | (cases hes; rfl) | (cases hes; done)
                      · cases hes
                    · rename_i hq; rw [hq] at hag; cases hag
                    · rename_i hq; rw [hq] at hag; cases hag
                cases cs with
                | nil => simp at hcl; omega
                | cons c cs =>
                  have : cs = [] := List.eq_nil_of_length_eq_zero (by simp at hcl; omega)
                  subst this
                  simp only [Bool.false_eq_true, if_false, List.headD_cons]
                  rw [cells_one (b4 c (by simp))]
            have hri : RI (Gh.all W) W (packV (aggT P e) ys) (packU (aggT P e) cs) := by
              unfold packV packU
              cases hag : aggT P e with
              | true => simp only [if_true, RI]; exact ⟨_, rfl, by simpa using b3⟩
              | false =>
                simp only [Bool.false_eq_true, if_false]
                cases ys with
                | nil => simp at hyl; omega
                | cons y ys =>
                  simp only [RIs] at b3
                  obtain ⟨u, us', rfl, b6, _⟩ := b3
                  exact b6
            refine ⟨xs ++ [packV (aggT P e) ys], us ++ [packU (aggT P e) cs], by simp [a1], by simp [a2], a3.append (by simp only [RIs]; exact ⟨_, [], rfl, hri, rfl⟩), ?_, ?_, ?_, ?_⟩
            · intro y hy
              rcases List.mem_append.1 hy with hy | hy
              · exact a4 y hy
              · simp at hy; subst hy; exact ⟨ys, rfl, b2⟩
            · intro u hu'
              rcases List.mem_append.1 hu' with hu' | hu'
              · exact a5 u hu'
              · simp at hu'; subst hu'; rw [hcells]; simp [hcl, hyl]
            · intro i u j x hi hj
              rcases Nat.lt_or_ge i us.length with hlt | hge
              · rw [List.getElem?_append_left hlt] at hi; exact a6 i u j x hi hj
              · rw [List.getElem?_append_right hge] at hi
                have : i = us.length := by
                  have := (List.getElem?_eq_some_iff.1 hi).1
                  simp at this; omega
                subst this
                simp at hi; subst hi
                rw [hcells] at hj
                have hj : cs[j]? = some x := by simpa using hj
                rw [a2]
                exact ⟨b1 j x hj, b4 x (List.mem_of_getElem? hj)⟩
            · rw [bulkVs_append, List.take_add_one, hyd, List.map_append, bulkDs_append]
              have h1 : bulkVs [packV (aggT P e) ys] ≤ bulkD yd.1 := by
                refine Nat.le_trans ?_ b5
                simp only [bulkVs, Nat.add_zero, packV]
                cases aggT P e with
                | true => simp [bulkV]
                | false =>
                  cases ys with
                  | nil => simp at hyl; omega
                  | cons y ys => simp [bulkVs]
              have h2 : bulkDs (List.map (fun x => x.fst) (some yd).toList) = bulkD yd.1 := by simp [bulkDs]
              rw [h2]
              omega
        obtain ⟨xs, us, a1, a2, a3, a4, a5, a6, a7⟩ := build len (Nat.le_refl _)
        refine Reads.one (x := .lst .sh xs) ?_ ?_ rfl (by
          rw [List.take_of_length_le (by omega)] at a7
          simp only [bulkV, bulkD]; omega)
        · simp only [HasC]
          refine ⟨.sh, xs, rfl, .inl rfl, by omega, ?_, a4⟩
          refine Nat.le_trans (Nat.mul_le_mul_right _ ?_) hwt
          omega
        · simp only [RI]
          refine ⟨some ad, cap, us, by rw [a2], by omega, a3, ⟨P.cellsOf e, fun u hu' => by rw [a5 u hu', hl1], fun hne => ?_⟩, trivial⟩
          have hpos : 0 < us.length := List.length_pos_iff.2 hne
          obtain ⟨u0, hu0⟩ : ∃ u, us[0]? = some u := ⟨_, List.getElem?_eq_getElem hpos⟩
          have hs0 : 0 < u0.cells.size := by rw [a5 u0 (List.mem_of_getElem? hu0)]; exact hl2
          obtain ⟨q1, _⟩ := a6 0 u0 0 _ hu0 (Array.getElem?_eq_getElem hs0)
          obtain ⟨b, off, sp⟩ := ad
          have hsp : sp = none := by
            have := cell_nospot q1
            cases sp with
            | none => rfl
            | some s => simp [Addr.add] at this
          subst hsp
          refine ⟨b, off, rfl, fun i u j x hi hj => ?_⟩
          obtain ⟨r1, r2⟩ := a6 i u j x hi hj
          rw [Addr.add_lit, Addr.add_lit] at r1
          exact St.all r1 r2
    · -- struct
      rename_i fs hu
      split at hc
      case h_2 => cases hc
      rename_i r k hr
      split at hc
      case isFalse => cases hc
      rename_i hk
      cases hc
      unfold DataW.trod at h
      rw [hu] at h
      split at h <;> (try (rename_i e1; cases e1)) <;> (try (cases h; done)) <;> (try exact ((‹∀ fs_1 : Array Field, some (TypeDesc.struct fs) = some (TypeDesc.struct fs_1) → False›) fs rfl).elim)
      rename_i cs _ _
      split at h
      case isFalse => cases h
      rename_i hlen
      simp only [Option.map_eq_some_iff] at h
      obtain ⟨xs, hxs, h⟩ := h
      simp only [Prod.mk.injEq] at h
      obtain ⟨rfl, rfl⟩ := h
      have := fields_read ih fs.toList cs 0 k es xs hxs hr (fun x hx => hw x (by simp only [DataW.weights, hu]; exact hx)) (by rw [hk, hlen]) (by omega)
      exact Reads.le (by simpa using this) (by simp [bulkD])
    · -- array
      rename_i m e hu
      split at hc
      case h_2 => cases hc
      rename_i es' hes
      split at hc
      case isFalse => cases hc
      rename_i hlen'
      obtain ⟨hl1, hl2⟩ := hlen'
      cases hc
      unfold DataW.trod at h
      rw [hu] at h
      split at h <;> (try (rename_i e1; cases e1)) <;> (try (cases h; done)) <;> (try exact ((‹∀ (n : Nat) (e' : TypeId), some (TypeDesc.array m e) = some (TypeDesc.array n e') → False›) m e rfl).elim)
      rename_i cs _ _
      split at h
      case isFalse => cases h
      rename_i hlen
      simp only [Option.map_eq_some_iff] at h
      obtain ⟨xs, hxs, h⟩ := h
      simp only [Prod.mk.injEq] at h
      obtain ⟨rfl, rfl⟩ := h
      obtain ⟨m1, m2⟩ := mapM_some hxs
      have hwe : ∀ d ∈ xs.map (·.1), ∀ x ∈ d.weights P e, x ≤ reachBytes := weightsAll_mem (fun x hx => hw x (by simp only [DataW.weights, hu]; exact hx))
      have key : ∀ k, k ≤ m → Reads W (repTys k es') (cs.take (k * es'.length)) (bulkDs ((xs.take k).map (·.1))) := by
        intro k
        induction k with
        | zero =>
          intro _
          have e0 : cs.take (0 * es'.length) = [] := by simp
          rw [e0]; exact Reads.nil.le (Nat.zero_le _)
        | succ k ihk =>
          intro hk
          obtain ⟨y, hy1, hy2⟩ := m2 k k (by rw [List.getElem?_range (by omega)])
          obtain ⟨d, q⟩ := y
          have hr := ih _ _ _ _ _ hy2 hes (hwe d (List.mem_map.2 ⟨_, List.mem_of_getElem? hy1, rfl⟩))
          have := (ihk (by omega)).append hr
          have e1 : repTys (k + 1) es' = repTys k es' ++ es' := by simp [repTys, List.replicate_succ']
          rw [e1]
          have e2 : cs.take ((k + 1) * es'.length) = cs.take (k * es'.length) ++ (cs.drop (k * P.cellsOf e)).take (P.cellsOf e) := by
            rw [← hl1, Nat.add_mul, Nat.one_mul, List.take_add]
          rw [e2, List.take_add_one, hy1, List.map_append, bulkDs_append]
          exact this.le (by simp [bulkDs])
      have := key m (Nat.le_refl _)
      rw [hl2, ← hlen, List.take_length, List.take_of_length_le (by simp [m1])] at this
      exact this.le (by simp [bulkD])
    · cases hc

theorem arg_reads {base : Nat} {t : TypeId} {v : Value} {d : DataW H} {p : List MemPlace} {dd : Nat} {es : List Ty} (hok : Value.okWide P W .any base t v) (h : DataW.Trod enc P W 0 (fun _ => true) true t v d p) (hc : cellTys P dd t = some es)
    (hw : ∀ x ∈ d.weights P t, x ≤ reachBytes) : ∃ xs, HasL es xs ∧ RI (Gh.all W) W (packV (aggT P t) xs) v ∧ bulkV (packV (aggT P t) xs) ≤ bulkD d := by
  obtain ⟨fuel, h⟩ := h
  obtain ⟨xs, h1, h2, h3, h4⟩ := trod_reads fuel dd t _ d p es h hc hw
  refine ⟨xs, h1, ?_⟩
  have one : v.cells = #[v] → aggT P t = false → RI (Gh.all W) W (packV (aggT P t) xs) v ∧ bulkV (packV (aggT P t) xs) ≤ bulkD d := by
    intro hv hag
    rw [hv] at h2
    unfold packV
    rw [hag]
    simp only [Bool.false_eq_true, if_false]
    cases xs with
    | nil => simp [RIs] at h2
    | cons x xs =>
      simp only [RIs] at h2
      obtain ⟨u, us, e, h5, _⟩ := h2
      simp at e
      rw [e.1]
      simp only [bulkVs] at h4
      exact ⟨h5, by simp only [List.headD_cons]; omega⟩
  cases dd with
  | zero => simp [cellTys] at hc
  | succ dd =>
    simp only [cellTys] at hc
    split at hc
    · rename_i k hu
      obtain ⟨n, rfl⟩ := WideShapes.okWide_int hu hok
      exact one rfl (by simp [aggT, hu])
    · rename_i hu
      obtain ⟨n, rfl⟩ := WideShapes.okWide_bool hu hok
      exact one rfl (by simp [aggT, hu])
    · rename_i hu
      obtain ⟨n, rfl⟩ := WideShapes.okWide_string hu hok
      exact one rfl (by simp [aggT, hu])
    · rename_i e hu
      obtain ⟨a, len, cap, rfl⟩ := WideShapes.okWide_slice hu hok
      exact one rfl (by simp [aggT, hu])
    · rename_i fs hu
      unfold Value.okWide at hok
      rw [hu] at hok
      obtain ⟨cs, rfl, _⟩ := hok
      simp only [packV, aggT, hu, if_true, RI]
      exact ⟨⟨cs, rfl, by simpa [Value.cells] using h2⟩, by simpa only [bulkV] using h4⟩
    · rename_i m e hu
      unfold Value.okWide at hok
      rw [hu] at hok
      obtain ⟨cs, rfl, _⟩ := hok
      simp only [packV, aggT, hu, if_true, RI]
      exact ⟨⟨cs, rfl, by simpa [Value.cells] using h2⟩, by simpa only [bulkV] using h4⟩
    · cases hc
def HasA : List (Bool × List Ty) → List AVal → Prop
  | [], xs => xs = []
  | t :: ts, xs => ∃ cs ys, xs = packV t.1 cs :: ys ∧ HasL t.2 cs ∧ HasA ts ys
def argTys (P : Program) : List TypeId → Option (List (Bool × List Ty))
  | [] => some []
  | t :: ts => match cellTys P 20 t, argTys P ts with
    | some es, some r => some ((aggT P t, es) :: r)
    | _, _ => none
theorem args_read {base : Nat} : ∀ {ts : List TypeId} {vs : List Value} {ds : List (DataW H)} {p : List MemPlace} {tys : List (Bool × List Ty)}, (∀ (j : Nat) (t : TypeId) (v : Value), ts[j]? = some t → vs[j]? = some v → Value.okWide P W .any base t v) →
    DataW.TrodAll enc P W 0 (fun _ => true) true ts vs ds p → argTys P ts = some tys → (∀ x ∈ DataW.weightsEach P ts ds, x ≤ reachBytes) → ∃ xs, HasA tys xs ∧ RIs (Gh.all W) W xs vs ∧ bulkVs xs ≤ bulkDs ds
  | [], [], [], p, tys, _, h, hty, _ => by
    simp only [argTys, Option.some.injEq] at hty
    subst hty
    exact ⟨[], by simp [HasA], by simp [RIs], by simp [bulkVs]⟩
  | t :: ts, v :: vs, d :: ds, p, tys, hok, h, hty, hw => by
    simp only [DataW.TrodAll] at h
    obtain ⟨p', q, h1, h2, rfl⟩ := h
    simp only [argTys] at hty
    split at hty
    case h_2 => cases hty
    rename_i es r hes hr
    cases hty
    obtain ⟨w1, w2⟩ := weightsEach_cons hw
    obtain ⟨xs, k1, k2, k5⟩ := arg_reads (hok 0 t v (by simp) (by simp)) h1 hes w1
    obtain ⟨ys, k3, k4, k6⟩ := args_read (fun j t v ht hv => hok (j + 1) t v (by simpa using ht) (by simpa using hv)) h2 hr w2
    exact ⟨packV (aggT P t) xs :: ys, by simp only [HasA]; exact ⟨xs, ys, rfl, k1, k3⟩, by simp only [RIs]; exact ⟨v, vs, rfl, k2, k4⟩, by simp only [bulkVs, bulkDs]; omega⟩
  | [], [], _ :: _, _, _, _, h, _, _ => by simp [DataW.TrodAll] at h
  | [], _ :: _, _, _, _, _, h, _, _ => by simp [DataW.TrodAll] at h
  | _ :: _, [], _, _, _, _, h, _, _ => by simp [DataW.TrodAll] at h
  | _ :: _, _ :: _, [], _, _, _, h, _, _ => by simp [DataW.TrodAll] at h
theorem packV_fl {es : List Ty} {cs : List AVal} {ag : Bool} (h : HasL es cs) : flv (packV ag cs) = true := by
  have hall : ∀ {es : List Ty} {cs : List AVal}, HasL es cs → ∀ c ∈ cs, flc c = true := by
    intro es
    induction es with
    | nil => intro cs h; simp only [HasL] at h; subst h; simp
    | cons t ts ih =>
      intro cs h
      simp only [HasL] at h
      obtain ⟨y, ys, rfl, h1, h2⟩ := h
      intro c hc
      rcases List.mem_cons.1 hc with rfl | hc
      · exact flC_flc h1.noBox.2
      · exact ih h2 c hc
  have hall := hall h
  unfold packV
  cases ag with
  | true => simp only [if_true, flv, fl1, List.all_eq_true]; exact hall
  | false =>
    simp only [Bool.false_eq_true, if_false]
    cases cs with
    | nil => rfl
    | cons c cs =>
      have h1 := hall c (by simp)
      cases es with
      | nil => simp [HasL] at h
      | cons t ts =>
        simp only [HasL] at h
        obtain ⟨y, ys, e, h2, _⟩ := h
        simp only [List.cons.injEq] at e
        obtain ⟨rfl, rfl⟩ := e
        have h3 := h2.noBox.1
        simp only [List.headD_cons]
        cases c <;> first | rfl | (simp [storC] at h3; done) | exact h1
theorem HasA.fl : ∀ {tys : List (Bool × List Ty)} {xs : List AVal}, HasA tys xs → ∀ v ∈ xs, flv v = true
  | [], xs, h => by simp only [HasA] at h; subst h; simp
  | t :: ts, xs, h => by
    simp only [HasA] at h
    obtain ⟨cs, ys, rfl, h1, h2⟩ := h
    intro v hv
    rcases List.mem_cons.1 hv with rfl | hv
    · exact packV_fl h1
    · exact h2.fl v hv
/-- The arguments read behind the call as ahead of it. -/
theorem args_back {W' : World} (hl : laidOutB P = true) (hb : Below W.heap.size W W') : ∀ {ts : List TypeId} {vs : List Value} {ds : List (DataW H)} {p : List MemPlace}, ts.all (fun t => P.readableRec t && decide (t < P.types.size)) = true →
    DataW.TrodAll enc P W 0 (fun _ => true) true ts vs ds p → DataW.TrodAll enc P W' 0 (fun b => decide (b < W.heap.size)) true ts vs ds p
  | [], [], [], p, _, h => h
  | t :: ts, v :: vs, d :: ds, p, ht, h => by
    simp only [List.all_cons, Bool.and_eq_true, decide_eq_true_eq] at ht
    simp only [DataW.TrodAll] at h ⊢
    obtain ⟨p', q, h1, h2, rfl⟩ := h
    have hlt : ∀ x ∈ p', x.block < W.heap.size := by
      obtain ⟨m, hm⟩ := h1
      exact DataW.trod_lt m _ _ _ hm
    exact ⟨p', q, Below.trod hl ht.1.1 ht.1.2 h1 hb hlt, args_back hl hb ht.2 h2, rfl⟩
  | [], [], _ :: _, _, _, h => by simp [DataW.TrodAll] at h
  | [], _ :: _, _, _, _, h => by simp [DataW.TrodAll] at h
  | _ :: _, [], _, _, _, h => by simp [DataW.TrodAll] at h
  | _ :: _, _ :: _, [], _, _, h => by simp [DataW.TrodAll] at h
theorem trodAll_len : ∀ {ts : List TypeId} {vs : List Value} {ds : List (DataW H)} {p : List MemPlace}, DataW.TrodAll enc P W 0 (fun _ => true) true ts vs ds p → ds.length = ts.length
  | [], [], [], p, _ => rfl
  | t :: ts, v :: vs, d :: ds, p, h => by
    simp only [DataW.TrodAll] at h
    obtain ⟨p', q, _, h2, _⟩ := h
    simp [trodAll_len h2]
  | [], [], _ :: _, _, h => by simp [DataW.TrodAll] at h
  | [], _ :: _, _, _, h => by simp [DataW.TrodAll] at h
  | _ :: _, [], _, _, h => by simp [DataW.TrodAll] at h
  | _ :: _, _ :: _, [], _, h => by simp [DataW.TrodAll] at h
end
/-- A law: its contract carries its row. -/
theorem law_lifted {H : Type} {enc : TypeId × Value → H} {C : Checked} {os : Os} {f : FuncId} {fn : Func} {s : ChangeSpec} {conds : List PathCond} {tb : TypeId} {tys : List (Bool × List Ty)} (own : ownKnob C.prog.godebug = none) (started : os.Started) (noInit : C.prog.inits.idxOf? f = none)
    (hfn : C.prog.funcs[f]? = some fn) (hvars : s.vars = []) (hs : ∀ ds : List (DataW H), ds.length = fn.params.size → s.fn H ds = { results := [.lit (.bool true)], args := ds }) (hres : fn.resultTypes = #[tb]) (htb : C.prog.underlying tb = some .bool)
    (laidOut : laidOutB C.prog = true) (hread : fn.params.toList.all (fun t => C.prog.readableRec t && decide (t < C.prog.types.size)) = true) (htys : argTys C.prog fn.params.toList = some tys)
    (witness : ∃ (w : World) (tape : Tape) (i : Input), w.os = os ∧ (w.forCall tape i).Shaped C.prog ∧ i.vars = [] ∧ Input.okWide C.prog (w.forCall tape i) .any w.heap.size f i ∧
      s.pre6 enc C.prog fn conds false (w.forCall tape i).memory i.args ∧ ({} : Assume).holds C.prog (lone (Frame.enter C.prog f i.args .normal) [] (w.forCall tape i)))
    (contract : ∀ xs : List AVal, HasA tys xs → ACalls C.prog f xs [] (fun r _ => r = .bool true)) :
    ReturnsInHanded {} C os f .any (s.pre6 enc C.prog fn conds false) (s.post enc C.prog fn false true false false) := by
  refine returnsInHanded_of_change_sized (C := C) own started noInit hfn witness ?_
  intro W base args ds gs before hval hW hcnd hsz _
  obtain ⟨p, q, hA, hV, rfl, hfz, hnd⟩ := hW
  have hW' : DataW.Whole enc C.prog fn.params.toList s.vars false W args.toList ds gs (p ++ q) := ⟨p, q, hA, hV, rfl, hfz, hnd⟩
  have hV' := hV
  rw [hvars] at hV'
  have hgs : gs = [] := by
    cases gs with
    | nil => rfl
    | cons g gs => exact hV'.elim
  subst hgs
  have hl := trodAll_len hA
  have hsd : s.fn H (ds ++ []) = { results := [.lit (.bool true)], args := ds } := by
    rw [List.append_nil]; exact hs ds (by simpa using hl)
  have hsz' : ∀ x ∈ DataW.weightsEach C.prog fn.params.toList ds, x ≤ reachBytes := by
    intro x hx
    have hw : ∀ {ts : List TypeId} {ds : List (DataW H)} {ts' : List TypeId}, ds.length = ts.length → ∀ x ∈ DataW.weightsEach C.prog ts ds, x ∈ DataW.weightsEach C.prog (ts ++ ts') (ds ++ []) := by
      intro ts
      induction ts with
      | nil => intro ds ts' hl x hx; cases ds <;> simp_all [DataW.weightsEach]
      | cons t ts ih =>
        intro ds ts' hl x hx
        cases ds with
        | nil => simp at hl
        | cons d ds =>
          simp only [List.cons_append, DataW.weightsEach, List.mem_append] at hx ⊢
          exact hx.imp id (ih (by simpa using hl) x)
    have := List.all_eq_true.1 hsz x (hw hl x hx)
    simpa using this
  obtain ⟨xs, h1, h2, _⟩ := args_read (fun j t v ht hv => hval j t v (by simpa using ht) (by simpa using hv)) hA htys hsz'
  refine ((contract xs h1).2 (Gh.all W) W args h2 h1.fl (RHeap.all W)).mono ?_
  rintro e W' ⟨v, rfl, r, h', g', rfl, _, hrv, hh, he⟩
  have hv : v = .bool true := by simpa [RV, RV1, RVc, RI] using hrv
  subst hv
  have bel : Below W.heap.size W W' := ⟨he.os, he.tape, he.output, he.size, fun k hk => (he.fixed k hk (.inl rfl)).1⟩
  refine ⟨_, rfl, ds, [], p ++ q, [], p, [], hW', ?_, ?_, ?_, bel.frame _, fun h => by cases h⟩
  · rw [hsd, hres]
    exact ⟨[], [], shut_bool htb true, rfl, rfl⟩
  · rw [hsd]
    exact args_back laidOut bel hread hA
  · rw [hsd, hvars]; rfl
/-- A law under a bound on what it reads: its contract carries its row. -/
theorem law_lifted_upto {H : Type} {enc : TypeId × Value → H} {C : Checked} {os : Os} {f : FuncId} {fn : Func} {s : OpenSpec} {cs : ChangeSpec} {F : Stop.Interp} {k : (H : Type) → List (DataW H) → Bool} {B : Nat} {conds : List PathCond} {tb : TypeId} {tys : List (Bool × List Ty)}
    (hk : s.cond = some k) (hat : s.at F = cs) (hsv : s.vars = cs.vars) (hkb : ∀ ds : List (DataW H), k H ds = true → bulkDs ds ≤ B) (own : ownKnob C.prog.godebug = none) (started : os.Started) (noInit : C.prog.inits.idxOf? f = none)
    (hfn : C.prog.funcs[f]? = some fn) (hvars : cs.vars = []) (hs : ∀ ds : List (DataW H), ds.length = fn.params.size → cs.fn H ds = { results := [.lit (.bool true)], args := ds }) (hres : fn.resultTypes = #[tb]) (htb : C.prog.underlying tb = some .bool)
    (laidOut : laidOutB C.prog = true) (hread : fn.params.toList.all (fun t => C.prog.readableRec t && decide (t < C.prog.types.size)) = true) (htys : argTys C.prog fn.params.toList = some tys)
    (witness : ∃ (w : World) (tape : Tape) (i : Input), w.os = os ∧ (w.forCall tape i).Shaped C.prog ∧ i.vars = [] ∧ Input.okWide C.prog (w.forCall tape i) .any w.heap.size f i ∧
      s.pre6 enc C.prog fn conds false (w.forCall tape i).memory i.args ∧ ({} : Assume).holds C.prog (lone (Frame.enter C.prog f i.args .normal) [] (w.forCall tape i)))
    (contract : ∀ xs : List AVal, HasA tys xs → bulkVs xs ≤ B → ACalls C.prog f xs [] (fun r _ => r = .bool true)) :
    ReturnsInHanded {} C os f .any (s.pre6 enc C.prog fn conds false) ((s.at F).post enc C.prog fn false true false false) := by
  refine returnsInHanded_of_cond_sized (C := C) hk own started noInit hfn witness ?_
  intro W base args ds gs before hval hW hcnd hkk hsz _
  rw [hat]
  rw [hsv] at hW
  obtain ⟨p, q, hA, hV, rfl, hfz, hnd⟩ := hW
  have hW' : DataW.Whole enc C.prog fn.params.toList cs.vars false W args.toList ds gs (p ++ q) := ⟨p, q, hA, hV, rfl, hfz, hnd⟩
  have hV' := hV
  rw [hvars] at hV'
  have hgs : gs = [] := by
    cases gs with
    | nil => rfl
    | cons g gs => exact hV'.elim
  subst hgs
  have hl := trodAll_len hA
  have hbulk := hkb _ hkk
  rw [List.append_nil] at hbulk
  have hsd : cs.fn H (ds ++ []) = { results := [.lit (.bool true)], args := ds } := by
    rw [List.append_nil]; exact hs ds (by simpa using hl)
  have hsz' : ∀ x ∈ DataW.weightsEach C.prog fn.params.toList ds, x ≤ reachBytes := by
    intro x hx
    have hw : ∀ {ts : List TypeId} {ds : List (DataW H)} {ts' : List TypeId}, ds.length = ts.length → ∀ x ∈ DataW.weightsEach C.prog ts ds, x ∈ DataW.weightsEach C.prog (ts ++ ts') (ds ++ []) := by
      intro ts
      induction ts with
      | nil => intro ds ts' hl x hx; cases ds <;> simp_all [DataW.weightsEach]
      | cons t ts ih =>
        intro ds ts' hl x hx
        cases ds with
        | nil => simp at hl
        | cons d ds =>
          simp only [List.cons_append, DataW.weightsEach, List.mem_append] at hx ⊢
          exact hx.imp id (ih (by simpa using hl) x)
    have := List.all_eq_true.1 hsz x (hw hl x hx)
    simpa using this
  obtain ⟨xs, h1, h2, h3⟩ := args_read (fun j t v ht hv => hval j t v (by simpa using ht) (by simpa using hv)) hA htys hsz'
  refine ((contract xs h1 (Nat.le_trans h3 hbulk)).2 (Gh.all W) W args h2 h1.fl (RHeap.all W)).mono ?_
  rintro e W' ⟨v, rfl, r, h', g', rfl, _, hrv, hh, he⟩
  have hv : v = .bool true := by simpa [RV, RV1, RVc, RI] using hrv
  subst hv
  have bel : Below W.heap.size W W' := ⟨he.os, he.tape, he.output, he.size, fun k hk => (he.fixed k hk (.inl rfl)).1⟩
  refine ⟨_, rfl, ds, [], p ++ q, [], p, [], hW', ?_, ?_, ?_, bel.frame _, fun h => by cases h⟩
  · rw [hsd, hres]
    exact ⟨[], [], shut_bool htb true, rfl, rfl⟩
  · rw [hsd]
    exact args_back laidOut bel hread hA
  · rw [hsd, hvars]; rfl
end Go.Ge
