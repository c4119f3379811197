/- More quiet operations: operators as they stand, conversions, addresses, parts. -/
import Derived.Test.YtpdajkbfemcdlaaGeOps2
set_option linter.unusedSimpArgs false
set_option linter.unusedVariables false
namespace Go.Ge
section
variable {P : Program} {n : Nat} {S : AState} {g : Gh} {a : Act} {w : World} {o : Oper}

theorem mk_binV {op : BinOp} {t : TypeId} {x y : Operand} {ty : TypeId} {u v : Value} {f : FR} (ho : o.op = .binOp op t x y ty) (hx : a.eval x = u) (hy : a.eval y = v) (hv : ∀ b, w.heap.size ≤ b → g.ow b = .no)
    (hg : (eqGuard op t x y u v).run P w = .ok () w) (h : ∃ r, (binOp op t u v).run P w = .ok r w ∧ RI g w f.v r ∧ flv f.v = true) (own : List Nat → Ow) : Ok1 P (execOp a.eval o) g w own f.v := by
  obtain ⟨r, h1, h2, h3⟩ := h
  refine Ok1.same (u := r) hv ?_ (RT.of_RI h2) h3
  simp [execOp, ho, hx, hy, hg, h1]

theorem ok_bin (hR : Rel n S g a w) {op : BinOp} {t : TypeId} {x y : Operand} {ty : TypeId} {x' y' : AOpn} (ho : o.op = .binOp op t x y ty) (hx : opn x x' = true) (hy : opn y y' = true)
    (hc : (binV op (S.rd x') (S.rd y')).c) (own : List Nat → Ow) : Ok1 P (execOp a.eval o) g w own (binV op (S.rd x') (S.rd y')).v := by
  have h1 := RT.of_opn hR hx
  have h2 := RT.of_opn hR hy
  generalize S.rd x' = p at h1 hc ⊢
  generalize S.rd y' = q at h2 hc ⊢
  have hv := hR.heap.valid
  unfold binV at hc ⊢
  split at hc
  · exact mk_binV ho (RI.int_inv h1) (RI.int_inv h2) hv (eqGuard_int ..) (run_binInt hc) own
  · exact mk_binV ho (RI.str_inv h1) (RI.str_inv h2) hv (eqGuard_str ..) (run_binStr hc) own
  · exact hc.elim
theorem ok_beq (hR : Rel n S g a w) {neg : Bool} {t : TypeId} {x y : Operand} {ty : TypeId} {x' y' : AOpn} (ho : o.op = .binOp (if neg then .neq else .eql) t x y ty) (hx : opn x x' = true) (hy : opn y y' = true) (ht : P.underlying t = some .bool)
    {b c : Bool} (hb : S.rd x' = .bool b) (hc : S.rd y' = .bool c) (own : List Nat → Ow) : Ok1 P (execOp a.eval o) g w own (.bool ((b == c) != neg)) := by
  have h1 := RT.of_opn hR hx; rw [hb] at h1
  have h2 := RT.of_opn hR hy; rw [hc] at h2
  refine mk_binV (f := ⟨True, _⟩) ho (RI.bool_inv h1) (RI.bool_inv h2) hR.heap.valid (eqGuard_bool ..) ?_ own
  cases neg with
  | false => exact ⟨_, run_eql_bool w t b c ht, by simp [RI], rfl⟩
  | true => exact ⟨_, run_neq_bool w t b c ht, by simp [RI], rfl⟩
theorem ptr_shape {p : AVal} {v : Value} (h : RT g w p v) (hp : (∃ i j, p = .hp i j) ∨ (∃ i j, p = .box i j) ∨ ∃ cs, p = .cptr cs) : ∃ ad, v = .pointer (some ad) := by
  rcases hp with ⟨i, j, rfl⟩ | ⟨i, j, rfl⟩ | ⟨cs, rfl⟩
  · simp only [RT, RI] at h; exact ⟨_, h.2⟩
  · simp only [RT] at h; exact ⟨_, h⟩
  · simp only [RT, RI] at h; obtain ⟨b, off, us, e, _⟩ := h; exact ⟨_, e⟩
theorem eq_ptr_nil {t e : TypeId} (ht : P.underlying t = some (.pointer e)) (q : Option Addr) (d : Nat) (w' : World) : (Op.equalIn (d + 1) t (.pointer q) (.pointer none)).run P w' = .ok q.isNone w' := by
  cases q <;> simp [Op.equalIn, run_underlying ht]
theorem eq_nil_ptr {t e : TypeId} (ht : P.underlying t = some (.pointer e)) (q : Option Addr) (d : Nat) (w' : World) : (Op.equalIn (d + 1) t (.pointer none) (.pointer q)).run P w' = .ok q.isNone w' := by
  cases q <;> simp [Op.equalIn, run_underlying ht]
theorem ok_pnil (hR : Rel n S g a w) {neg : Bool} {t e : TypeId} {x y z : Operand} {ty : TypeId} {x' : AOpn} (ho : o.op = .binOp (if neg then .neq else .eql) t y z ty) (hx : opn x x' = true)
    (hyz : (y = x ∧ z = .const (.pointer none)) ∨ (z = x ∧ y = .const (.pointer none))) (ht : P.underlying t = some (.pointer e))
    (hc : (pnilV neg (S.rd x')).c) (own : List Nat → Ow) : Ok1 P (execOp a.eval o) g w own (pnilV neg (S.rd x')).v := by
  have h := RT.of_opn hR hx
  revert hc
  generalize S.rd x' = p at h ⊢
  have key : ∀ (q : Option Addr) (b : Bool), a.eval x = .pointer q → b = (q.isNone != neg) → Ok1 P (execOp a.eval o) g w own (.bool b) := by
    rintro q b hq rfl
    have r1 : ∀ w' : World, (Op.equal t (.pointer q) (.pointer none)).run P w' = .ok q.isNone w' := eq_ptr_nil ht q 9999
    have r2 : ∀ w' : World, (Op.equal t (.pointer none) (.pointer q)).run P w' = .ok q.isNone w' := eq_nil_ptr ht q 9999
    rcases hyz with ⟨rfl, rfl⟩ | ⟨rfl, rfl⟩
    · refine mk_binV (f := ⟨True, _⟩) ho hq (show a.eval (.const (.pointer none)) = .pointer none from rfl) hR.heap.valid (eqGuard_ptr ..) ?_ own
      cases neg <;> exact ⟨_, by simp [binOp, r1]; rfl, by cases q <;> simp [RI], rfl⟩
    · refine mk_binV (f := ⟨True, _⟩) ho (show a.eval (.const (.pointer none)) = .pointer none from rfl) hq hR.heap.valid (eqGuard_ptr ..) ?_ own
      cases neg <;> exact ⟨_, by simp [binOp, r2]; rfl, by cases q <;> simp [RI], rfl⟩
  cases p <;> simp only [pnilV, faddrV, false_imp_iff, true_imp_iff]
  · rename_i cs
    obtain ⟨ad, e⟩ := ptr_shape h (.inr (.inr ⟨_, rfl⟩))
    exact key _ _ e (by cases neg <;> rfl)
  · obtain ⟨ad, e⟩ := ptr_shape h (.inr (.inl ⟨_, _, rfl⟩))
    exact key _ _ e (by cases neg <;> rfl)
  · obtain ⟨ad, e⟩ := ptr_shape h (.inl ⟨_, _, rfl⟩)
    exact key _ _ e (by cases neg <;> rfl)
  · simp only [RT, RI] at h
    exact key _ _ h (by cases neg <;> rfl)
theorem ok_eqs (hR : Rel n S g a w) {neg : Bool} {t : TypeId} {x y : Operand} {ty : TypeId} {x' y' : AOpn} {sh : List Sh} (ho : o.op = .binOp (if neg then .neq else .eql) t x y ty) (hx : opn x x' = true) (hy : opn y y' = true)
    (hsh : eqSh P 20 t = some sh) (hag : aggT P t = true) (hgd : P.eqGuardType P.depth t = false) {cs ds : List AVal} (hb : S.rd x' = .agg cs) (hc : S.rd y' = .agg ds) (h1 : hasSh sh cs) (h2 : hasSh sh ds) (own : List Nat → Ow) :
    Ok1 P (execOp a.eval o) g w own (.bool (aggEq cs ds != neg)) := by
  have e1 := RT.of_opn hR hx; rw [hb] at e1
  have e2 := RT.of_opn hR hy; rw [hc] at e2
  simp only [RT, RI] at e1 e2
  obtain ⟨us, hu, hus⟩ := e1
  obtain ⟨vs, hv, hvs⟩ := e2
  have hrun := run_eqSh (P := P) (g := g) (w := w) 20 9980 t sh cs ds _ _ hsh h1 h2 hus hvs
  simp only [packT, hag, if_true, Array.toArray_toList] at hrun
  refine mk_binV (f := ⟨True, _⟩) ho hu hv hR.heap.valid (run_eqGuard_agg _ _ _ _ _ _ _ hgd) ?_ own
  cases neg with
  | false => exact ⟨_, by simp only [Bool.false_eq_true, if_false]; rw [run_eql_struct, hrun]; rfl, by simp [RI], rfl⟩
  | true => exact ⟨_, by simp only [if_true]; rw [run_neq_struct, hrun]; rfl, by simp [RI], rfl⟩

theorem ok_un (hR : Rel n S g a w) {op : UnOp} {t : TypeId} {x : Operand} {x' : AOpn} (ho : o.op = .unOp op t x) (hx : opn x x' = true) (hc : (unV op (S.rd x')).c) (own : List Nat → Ow) :
    Ok1 P (execOp a.eval o) g w own (unV op (S.rd x')).v := by
  have h := RT.of_opn hR hx
  generalize S.rd x' = p at h hc ⊢
  cases op with
  | plus => cases p <;> simp [unV] at hc
  | neg =>
    cases p <;> simp only [unV] at hc ⊢ <;> try exact hc.elim
    exact Ok1.same (u := _) hR.heap.valid (by simp [execOp, ho, RI.int_inv h, Op.unary, Op.intArith]; rfl) (by simp [RT, RI]) rfl
  | not =>
    cases p <;> simp only [unV] at hc ⊢ <;> try exact hc.elim
    exact Ok1.same (u := _) hR.heap.valid (by simp [execOp, ho, RI.bool_inv h, Op.unary]; rfl) (by simp [RT, RI]) rfl
  | xor =>
    cases p <;> simp only [unV] at hc ⊢ <;> try exact hc.elim
    exact Ok1.same (u := _) hR.heap.valid (by simp only [execOp, ho, RI.int_inv h, Op.unary, Sem.run_bind, bits_run _ (.inr (.inr (.inl rfl)))]; rfl) (by simp [RT, RI]) rfl
theorem ok_conv (hR : Rel n S g a w) {s d : TypeId} {k k' : IntKind} {i : Int} {x : Operand} {x' : AOpn} (ho : o.op = .convert s d x) (hx : opn x x' = true) (hs : (P.underlying s).isSome = true) (hd : P.underlying d = some (.int k))
    (hv : S.rd x' = .int k' i) (own : List Nat → Ow) : Ok1 P (execOp a.eval o) g w own (.int k (k.wrap i)) := by
  have h := RT.of_opn hR hx; rw [hv] at h
  obtain ⟨ds, hs'⟩ := isSome_iff' hs
  exact Ok1.same (u := _) hR.heap.valid (by simp [execOp, ho, RI.int_inv h, convert, run_underlying hs', run_underlying hd, Conv.intToInt]; rfl) (by simp [RT, RI]) rfl
theorem ok_same (hR : Rel n S g a w) {s d : TypeId} {q : ByteArray} {x : Operand} {x' : AOpn} (ho : o.op = .convert s d x) (hx : opn x x' = true) (hs : P.underlying s = some .string) (hd : P.underlying d = some .string)
    (hv : S.rd x' = .str q) (own : List Nat → Ow) : Ok1 P (execOp a.eval o) g w own (.str q) := by
  have h := RT.of_opn hR hx; rw [hv] at h
  exact Ok1.same (u := .string q) hR.heap.valid (by simp [execOp, ho, RI.str_inv h, convert, run_underlying hs, run_underlying hd]) (by simp [RT, RI]) rfl

/-! ### Addresses and parts -/
theorem ok_faddr (hR : Rel n S g a w) {s : TypeId} {x : Operand} {f : Nat} {off : Nat} {x' : AOpn} {fs : Array Field} {fd : Field} {i : TypeInfo} (ho : o.op = .fieldAddr s x f) (hx : opn x x' = true)
    (hs : P.underlying s = some (.struct fs)) (hf : fs[f]? = some fd) (hi : P.info? fd.type = some i) (h0 : i.size ≠ 0) (hoff : fd.offset = off)
    (hc : (faddrV off (S.rd x')).c) (own : List Nat → Ow) : Ok1 P (execOp a.eval o) g w own (faddrV off (S.rd x')).v := by
  have h := RT.of_opn hR hx
  revert hc
  generalize S.rd x' = p at h ⊢
  have key : ∀ (b q : Nat) (y : AVal), a.eval x = .pointer (some ⟨b, q, none⟩) → RT g w y (.pointer (some ⟨b, q + off, none⟩)) → flv y = true → Ok1 P (execOp a.eval o) g w own y := by
    intro b q y hq hx hfl
    refine Ok1.same (u := .pointer (some ⟨b, q + off, none⟩)) hR.heap.valid ?_ hx hfl
    simp [execOp, ho, hq, Instr.fieldAt, run_underlying hs, hf, Instr.sureAddr, fieldPlace, sizeOf, typeInfo, hi, h0, hoff, Addr.add_lit]
  cases p <;> simp only [pnilV, faddrV, false_imp_iff, true_imp_iff]
  · simp only [RT, RI] at h
    obtain ⟨b, q, us, e, hus, hst⟩ := h
    refine key b q _ e ?_ rfl
    simp only [RT, RI]
    refine ⟨b, q + off, us.drop off, rfl, hus.drop off, fun j u hj => ?_⟩
    rw [List.getElem?_drop] at hj
    have := hst _ _ hj
    rwa [← Nat.add_assoc] at this
  · simp only [RT] at h
    exact key _ _ _ h (by simp [RT]) rfl
  · simp only [RT, RI] at h
    exact key _ _ _ h.2 (by simp only [RT, RI]; exact ⟨h.1, by rw [Nat.add_assoc]⟩) rfl
theorem ok_aaddr (hR : Rel n S g a w) {t e : TypeId} {x i : Operand} {m sz : Nat} {x' i' : AOpn} {it : TypeInfo} (ho : o.op = .indexAddr t x i) (hx : opn x x' = true) (hi : opn i i' = true)
    (ht : P.underlying t = some (.array m e)) (hit : P.info? e = some it) (hsz : it.size = sz)
    (hc : (aaddrV m sz (S.rd x') (S.rd i')).c) (own : List Nat → Ow) : Ok1 P (execOp a.eval o) g w own (aaddrV m sz (S.rd x') (S.rd i')).v := by
  have h := RT.of_opn hR hx
  have h2 := RT.of_opn hR hi
  revert hc
  generalize S.rd x' = p at h ⊢
  generalize S.rd i' = q at h2 ⊢
  have key : ∀ (b r : Nat) (k : IntKind) (j : Int) (y : AVal), a.eval x = .pointer (some ⟨b, r, none⟩) → a.eval i = .int k j → 0 ≤ j ∧ j < m → RT g w y (.pointer (some ⟨b, r + j.toNat * sz, none⟩)) → flv y = true → Ok1 P (execOp a.eval o) g w own y := by
    intro b r k j y hq hj hjm hx hfl
    refine Ok1.same (u := .pointer (some ⟨b, r + j.toNat * sz, none⟩)) hR.heap.valid ?_ hx hfl
    simp [execOp, ho, hq, hj, Instr.indexAt, run_underlying ht, Instr.sureAddr, asIntOf, sizeOf, typeInfo, hit, hsz, hjm.1, hjm.2, Addr.add_lit]
  cases p <;> cases q <;> simp only [aaddrV, iaddrV, false_imp_iff]
  · intro hc
    simp only [RT, RI] at h
    obtain ⟨b, r, us, e, hus, hst⟩ := h
    rename_i k j
    refine key b r _ _ _ e (RI.int_inv h2) hc ?_ rfl
    simp only [RT, RI]
    refine ⟨b, _, us.drop (j.toNat * sz), rfl, hus.drop _, fun j' u hj => ?_⟩
    rw [List.getElem?_drop] at hj
    have := hst _ _ hj
    rwa [← Nat.add_assoc] at this
  · intro hc
    simp only [RT] at h
    exact key _ _ _ _ _ h (RI.int_inv h2) hc (by simp [RT]) rfl
  · intro hc
    simp only [RT, RI] at h
    exact key _ _ _ _ _ h.2 (RI.int_inv h2) hc (by simp only [RT, RI]; exact ⟨h.1, by rw [Nat.add_assoc]⟩) rfl
theorem at_get {xs : List AVal} {i : Int} (h0 : 0 ≤ i) (h : i < xs.length) : xs[i.toNat]? = some (at_ xs i) := by
  have : i.toNat < xs.length := by omega
  simp [at_, List.getD_eq_getElem?_getD, this]
theorem ok_iaddr (hR : Rel n S g a w) {t e : TypeId} {x i : Operand} {sz : Nat} {x' i' : AOpn} {it : TypeInfo} (ho : o.op = .indexAddr t x i) (hx : opn x x' = true) (hi : opn i i' = true)
    (ht : P.underlying t = some (.slice e)) (hit : P.info? e = some it) (hsz : it.size = sz) (hpos : 0 < sz)
    (hc : (iaddrV sz (S.rd x') (S.rd i')).c) (own : List Nat → Ow) : Ok1 P (execOp a.eval o) g w own (iaddrV sz (S.rd x') (S.rd i')).v := by
  have h := RT.of_opn hR hx
  have h2 := RT.of_opn hR hi
  revert hc
  generalize S.rd x' = p at h ⊢
  generalize S.rd i' = q at h2 ⊢
  have key : ∀ (b r len c : Nat) (k : IntKind) (j : Int) (y : AVal), a.eval x = .slice (some ⟨b, r, none⟩) len c → a.eval i = .int k j → 0 ≤ j → j < len → RT g w y (.pointer (some ⟨b, r + j.toNat * sz, none⟩)) → flv y = true → Ok1 P (execOp a.eval o) g w own y := by
    intro b r len c k j y hq hj h0 hjm hx hfl
    refine Ok1.same (u := .pointer (some ⟨b, r + j.toNat * sz, none⟩)) hR.heap.valid ?_ hx hfl
    simp [execOp, ho, hq, hj, Instr.indexAt, run_underlying ht, asIntOf, sizeOf, typeInfo, hit, hsz, h0, hjm, Addr.add_lit]
  cases p <;> cases q <;> simp only [aaddrV, iaddrV, false_imp_iff]
  · rintro ⟨h0, hlt, hw⟩
    simp only [RT, RI] at h
    obtain ⟨A, c, us, e, hl, hus, ⟨sz', hs1, hs2⟩, _⟩ := h
    rename_i k j
    obtain ⟨u, hu, hru⟩ := hus.get _ _ (at_get h0 hlt)
    have hw' := hru.width (by omega)
    have hmem : u ∈ us := List.mem_of_getElem? hu
    have hsz' : sz' = sz := by rw [← hs1 u hmem, hw', hw]
    subst hsz'
    obtain ⟨b, off, hA, hst⟩ := hs2 (by intro e; rw [e] at hu; simp at hu)
    subst hA
    refine key b off _ _ _ _ _ e (RI.int_inv h2) h0 (by rw [hus.length]; exact hlt) ?_ rfl
    simp only [RT, RI]
    exact ⟨b, _, u.cells.toList, rfl, hru.cells (by omega), fun j' u' hj' => hst _ _ _ _ hu (by simpa using hj')⟩
  · rintro ⟨h0, hlt⟩
    simp only [RT, RI] at h
    obtain ⟨A, e, hcap, h3⟩ := h
    obtain ⟨hid, rfl⟩ := h3 (by omega)
    exact key _ _ _ _ _ _ _ e (RI.int_inv h2) h0 hlt (by simp only [RT, RI]; exact ⟨hid, by rw [Nat.add_assoc]⟩) rfl
end
end Go.Ge
