/- What proofs of functions lean on: numbers, lists, loops. -/
import Derived.Test.YtpdajkbfemcdlaaGeGc
set_option linter.unusedSimpArgs false
set_option linter.unusedVariables false
namespace Go.Ge
/-! ### Numbers -/
theorem wrapI64 {n : Int} (h1 : -9223372036854775808 ≤ n) (h2 : n < 9223372036854775808) : IntKind.i64.wrap n = n := by
  simp only [IntKind.wrap, IntKind.bits, IntKind.signed]; simp; omega
theorem wrapU64 {n : Int} (h1 : 0 ≤ n) (h2 : n < 18446744073709551616) : IntKind.u64.wrap n = n := by
  simp only [IntKind.wrap, IntKind.bits, IntKind.signed]; simp; omega
theorem wrapU32 {n : Int} (h1 : 0 ≤ n) (h2 : n < 4294967296) : IntKind.u32.wrap n = n := by
  simp only [IntKind.wrap, IntKind.bits, IntKind.signed]; simp; omega
theorem wrapU8 {n : Int} (h1 : 0 ≤ n) (h2 : n < 256) : IntKind.u8.wrap n = n := by
  simp only [IntKind.wrap, IntKind.bits, IntKind.signed]; simp; omega
theorem wrapU8_mod {n : Int} : IntKind.u8.wrap n = n % 256 := by simp [IntKind.wrap, IntKind.bits, IntKind.signed]
theorem wrapU32_mod {n : Int} : IntKind.u32.wrap n = n % 4294967296 := by simp [IntKind.wrap, IntKind.bits, IntKind.signed]
theorem wrapU64_mod {n : Int} : IntKind.u64.wrap n = n % 18446744073709551616 := by simp [IntKind.wrap, IntKind.bits, IntKind.signed]
/-- n mod 2^32, as a number of a signed kind. -/
theorem wrapI32_mod {n : Int} : IntKind.i32.wrap n = (n + 2147483648) % 4294967296 - 2147483648 := by
  simp only [IntKind.wrap, IntKind.bits, IntKind.signed]; simp; omega
theorem tdivE {a b : Int} (h : 0 ≤ a) : a.tdiv b = a / b := Int.tdiv_eq_ediv_of_nonneg h
theorem tmodE {a b : Int} (h : 0 ≤ a) : a.tmod b = a % b := Int.tmod_eq_emod_of_nonneg h
theorem int_beq (a b : Int) : (a == b) = decide (a = b) := by
  by_cases h : a = b <;> simp [h]
theorem int_bne (a b : Int) : (a != b) = decide (¬a = b) := by
  by_cases h : a = b <;> simp [h]
section
variable {C : CallS} {S : AState} {K : AState → Prop} {d : Option Nat} {os : List AO}
theorem aopsG_ifn {op : AOp} {want : Bool} {p : Prop} [Decidable p] (h1 : ¬p → aopsG C d op want (.bool true) os S K) (h2 : p → aopsG C d op want (.bool false) os S K) : aopsG C d op want (.bool (decide (¬p))) os S K :=
  aopsG_if h1 fun h => h2 (Decidable.not_not.1 h)
theorem condG_ifn {Q : AExit → AState → Prop} {a b : ACode} {p : Prop} [Decidable p] (h1 : ¬p → aw C a Q S) (h2 : p → aw C b Q S) : condG C (.bool (decide (¬p))) a b Q S :=
  condG_if h1 fun h => h2 (Decidable.not_not.1 h)
end
/-! ### Lists of like elements -/
theorem at_map {α : Type} [Inhabited α] {f : α → AVal} (xs : List α) (i : Nat) (h : i < xs.length) : at_ (xs.map f) (i : Int) = f (xs.getD i default) := by
  simp [at_, List.getD_eq_getElem?_getD, h]
theorem at_ints' {k : IntKind} (ns : List Int) (i : Nat) (h : i < ns.length) : at_ (ints k ns) (i : Int) = .int k (ns.getD i 0) := by
  simp [at_, ints, List.getD_eq_getElem?_getD, h]
theorem getD_ints {k : IntKind} (ns : List Int) (i : Nat) (h : i < ns.length) : (ints k ns).getD i .junk = .int k (ns.getD i 0) := by
  simp [ints, List.getD_eq_getElem?_getD, h]
theorem ints_append {k : IntKind} (a b : List Int) : ints k a ++ ints k b = ints k (a ++ b) := by simp [ints]
theorem ints_nil {k : IntKind} : ints k [] = [] := rfl
theorem ints_cons {k : IntKind} (a : Int) (b : List Int) : ints k (a :: b) = .int k a :: ints k b := rfl
theorem ints_drop {k : IntKind} (a : List Int) (n : Nat) : (ints k a).drop n = ints k (a.drop n) := by simp [ints, List.map_drop]
theorem ints_take {k : IntKind} (a : List Int) (n : Nat) : (ints k a).take n = ints k (a.take n) := by simp [ints, List.map_take]
theorem ints_width {k : IntKind} (a : List Int) : ∀ v ∈ ints k a, v.width = 1 := by
  intro v hv; obtain ⟨n, _, rfl⟩ := List.mem_map.1 hv; rfl
theorem ints_flat {k : IntKind} (a : List Int) : (ints k a).flatMap AVal.cells = ints k a := by
  induction a with
  | nil => rfl
  | cons x l ih => simp only [ints, List.map_cons, List.flatMap_cons] at ih ⊢; rw [ih]; rfl
theorem ints_rdc {k : IntKind} (a : List Int) : (ints k a).map Ge.rdc = ints k a := by
  simp only [ints, List.map_map]; exact List.map_congr_left fun _ _ => rfl
theorem ints_rep {k : IntKind} (n : Nat) (z : Int) : List.replicate n (AVal.int k z) = ints k (List.replicate n z) := by simp [ints]
theorem ints_set {k : IntKind} (a : List Int) (i : Nat) (z : Int) (h : i < a.length) : fillV (ints k a) i [.int k z] = ints k (a.set i z) := by
  simp only [fillV, ints, List.length_singleton]
  rw [← List.map_take, ← List.map_drop, List.set_eq_take_append_cons_drop]
  rw [if_pos h]
  simp
theorem ints_ids {k : IntKind} (a : List Int) : idsL (ints k a) = 0 := by
  induction a with
  | nil => rfl
  | cons x l ih => simp only [ints, List.map_cons, idsL, AVal.ids] at ih ⊢; simp [ih]
theorem ints_thaw {k : IntKind} (a : List Int) : ∀ x ∈ ints k a, x.width = 1 ∧ x.cells.all flC = true := by
  intro v hv; obtain ⟨n, _, rfl⟩ := List.mem_map.1 hv; exact ⟨rfl, rfl⟩
theorem ints_storC {k : IntKind} (a : List Int) : (ints k a).all (fun c => storC (Ge.rdc c)) = true := by
  rw [List.all_eq_true]; intro v hv; obtain ⟨n, _, rfl⟩ := List.mem_map.1 hv; rfl
theorem chunk_ints {k : IntKind} : ∀ (a : List Int) (n : Nat), n = a.length → chunkV false 1 (ints k a) n = ints k a
  | [], n, h => by subst h; rfl
  | x :: l, n, h => by
    subst h
    simp only [List.length_cons, chunkV, ints, List.map_cons, Bool.false_eq_true, if_false, List.headD_cons, List.drop_succ_cons, List.drop_zero]
    have := chunk_ints (k := k) l l.length rfl
    simp only [ints] at this
    rw [this]
/-- Is a list nil? The nil slice is; an empty one may be. -/
theorem aops_isnilR {C : CallS} {d : Option Nat} {os : List AO} {S : AState} {K : AState → Prop} {neg : Bool} {x : AOpn} {o : Own} {xs : List AVal} (hx : S.rd x = .lst o xs) (ho : o = .sh ∨ o = .nil) (hn : o = .nil → xs = []) (hk : ∀ b : Bool, (xs ≠ [] → b = false) → aops C os (S.put d (.bool (b != neg))) K) :
    aops C (⟨d, .isnil false neg x, none⟩ :: os) S K := by
  rw [aops_isnil, hx]
  rcases ho with rfl | rfl
  · exact ⟨rfl, hk⟩
  · exact ⟨rfl, hk true fun h => absurd (hn rfl) h⟩
/-! ### What a call adds to the heap -/
theorem hpx_get0 {h l : List HObj} : (h ++ l)[h.length]? = l[0]? := by
  rw [List.getElem?_append_right (Nat.le_refl _), Nat.sub_self]
theorem hpx_get {h l : List HObj} {i : Nat} : (h ++ l)[h.length + i]? = l[i]? := by
  rw [List.getElem?_append_right (by omega)]; congr 1; omega
theorem hpx_set0 {h l : List HObj} {y : HObj} : (h ++ l).set h.length y = h ++ l.set 0 y := by
  rw [List.set_append_right _ _ (Nat.le_refl _)]; simp
theorem hpx_set {h l : List HObj} {i : Nat} {y : HObj} : (h ++ l).set (h.length + i) y = h ++ l.set i y := by
  rw [List.set_append_right _ _ (by omega)]; congr 2; omega
theorem hpx_old {h l : List HObj} {i : Nat} {o : HObj} (e : h[i]? = some o) : (h ++ l)[i]? = some o := by
  rw [List.getElem?_append_left (List.getElem?_eq_some_iff.1 e).1]; exact e
theorem hpx_set_old {h l : List HObj} {i : Nat} {y : HObj} (e : i < h.length) : (h ++ l).set i y = h.set i y ++ l := List.set_append_left _ _ e
/-- Only new things are left behind: they are forgotten. -/
theorem ACalls.gcn {P : Program} {f : FuncId} {vs : List AVal} {h : List HObj} {Q : AVal → Prop} (hc : ACalls P f vs h (fun r h' => ∃ ext, h' = h ++ ext ∧ r.ids ≤ h.length ∧ Q r)) : ACalls P f vs h (fun r h' => Q r ∧ h' = h) :=
  ACalls.gc (ACalls.mono hc fun r h' ⟨ext, e, hi, hq⟩ => ⟨h, ext, e, Nat.le_refl _, hi, fun _ _ h => .inl h, hq, rfl⟩)
/-! ### Slices that may be written -/
section
variable {C : CallS} {Q : AExit → AState → Prop} {S : AState} {a : ACode} {s n : Nat} {k : IntKind} {ns : List Int}
theorem thaw_ints (he : S.env s = .lst (.uniq 1 n) (ints k ns)) (hn : ns.length = n) (hK : aw C a Q (({ S with heap := S.heap ++ [.cells (ints k ns)] } : AState).set s (.ref S.heap.length 0 n n))) : aw C (.thaw s a) Q S := by
  rw [aw_thaw, he]
  simp only [ints_length, ints_flat, hn, Nat.sub_self, Nat.zero_mul, List.replicate_zero, List.append_nil]
  exact ⟨by omega, ints_thaw ns, Nat.le_refl _, hK⟩
theorem own_ints {id : Nat} (he : S.env s = .ref id 0 n n) (hh : S.heap[id]? = some (.cells (ints k ns))) (hn : ns.length = n)
    (hK : ∀ hp, (hp = S.heap ∨ hp = S.heap.set id .dead) → aw C a Q (({ S with heap := hp } : AState).set s (.lst (.uniq 1 n) (ints k ns)))) : aw C (.own s false 1 a) Q S := by
  rw [aw_own, he]
  simp only [hh]
  split
  · rename_i h0
    subst h0
    have : ns = [] := List.eq_nil_of_length_eq_zero hn
    subst this
    exact hK _ (.inl rfl)
  · have e1 : ((ints k ns).drop 0).take (n * 1) = ints k ns := by rw [List.drop_zero, Nat.mul_one]; exact List.take_of_length_le (by simp [ints, hn])
    refine ⟨fun _ => by trivial, by omega, by simp [ints, hn], Nat.le_refl _, ?_, ?_⟩
    · rw [e1]; exact ints_storC ns
    · rw [e1, ints_rdc, chunk_ints _ _ hn.symm]
      exact hK _ (.inr rfl)
end
end Go.Ge
