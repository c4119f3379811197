/- More quiet operations: moves, choices, arithmetic, comparisons, conversions of numbers. -/
import Derived.Test.YtpdajkbfemcdlaaGeOps1
namespace Go.Ge
section
variable {P : Program} {n : Nat} {S : AState} {g : Gh} {a : Act} {w : World} {o : Oper}

theorem ok_move (hR : Rel n S g a w) {x : Operand} {y : AOpn} (ho : o.op = .move x ∨ o.op = .assign x) (hx : opn x y = true) (own : List Nat → Ow) : Ok1 P (execOp a.eval o) g w own (S.rd y) := by
  refine Ok1.same (u := a.eval x) hR.heap.valid ?_ (RT.of_opn hR hx) (by rw [rd_full]; exact flv_rdv _)
  rcases ho with ho | ho <;> simp [execOp, ho]

theorem rd_fl (S : AState) (y : AOpn) : flv (S.rd y) = true := by rw [rd_full]; exact flv_rdv _
theorem RI.bool_inv {b : Bool} {v : Value} (h : RT g w (.bool b) v) : v = .bool b := by simpa [RT, RI] using h
theorem RI.int_inv {k : IntKind} {i : Int} {v : Value} (h : RT g w (.int k i) v) : v = .int k i := by simpa [RT, RI] using h
theorem RI.str_inv {s : ByteArray} {v : Value} (h : RT g w (.str s) v) : v = .string s := by simpa [RT, RI] using h

theorem ok_pick (hR : Rel n S g a w) {c x y : Operand} {c' x' y' : AOpn} {t : Bool} (ho : o.op = .pick c x y) (hc : opn c c' = true) (hx : opn x x' = true) (hy : opn y y' = true)
    (ht : S.rd c' = .bool t) (own : List Nat → Ow) : Ok1 P (execOp a.eval o) g w own (pickV t (S.rd x') (S.rd y')) := by
  have h1 := RT.of_opn hR hc; rw [ht] at h1
  have h2 := RT.of_opn hR hx
  have h3 := RT.of_opn hR hy
  refine Ok1.same (u := if t then a.eval x else a.eval y) hR.heap.valid ?_ ?_ ?_
  · simp [execOp, ho, RI.bool_inv h1, asBool]
  · unfold pickV; split
    · rename_i p q hp hq
      rw [hp] at h2; rw [hq] at h3
      rw [RI.bool_inv h2, RI.bool_inv h3]
      cases t <;> simp [RT, RI]
    · cases t <;> simpa
  · unfold pickV; split
    · rfl
    · cases t <;> exact rd_fl _ _

theorem ok_nilck (hR : Rel n S g a w) {x : Operand} {y : AOpn} (ho : o.op = .nilCheck x) (hx : opn x y = true)
    (hc : (nilckV (S.rd y)).c) (own : List Nat → Ow) : Ok1 P (execOp a.eval o) g w own (nilckV (S.rd y)).v := by
  have h := RT.of_opn hR hx
  have hf := rd_fl S y
  revert hc
  generalize hv : S.rd y = v at h hf
  cases v <;> simp only [nilckV, false_imp_iff, true_imp_iff]
  all_goals
    refine Ok1.same (u := a.eval x) hR.heap.valid ?_ h hf
    simp only [RT, RI] at h
    first
      | (obtain ⟨b, off, us, e, _⟩ := h; simp [execOp, ho, e])
      | (obtain ⟨_, e⟩ := h; simp [execOp, ho, e]; done)
      | (obtain ⟨us, e, _⟩ := h; simp [execOp, ho, e]; done)
      | simp [execOp, ho, h]

theorem bits_run (op : BinOp) (hop : op = .and ∨ op = .or ∨ op = .xor ∨ op = .andNot) (k : IntKind) (x y : Int) : (Op.intBits op k x y).run P w = .ok (.int k (bitsV op k x y)) w := by
  rcases hop with rfl | rfl | rfl | rfl <;> simp [Op.intBits, bitsV]
theorem eqGuard_int (op : BinOp) (t : TypeId) (x y : Operand) (k k' : IntKind) (i j : Int) : (eqGuard op t x y (.int k i) (.int k' j)).run P w = .ok () w := by
  unfold eqGuard; split <;> simp
theorem eqGuard_str (op : BinOp) (t : TypeId) (x y : Operand) (i j : ByteArray) : (eqGuard op t x y (.string i) (.string j)).run P w = .ok () w := by
  unfold eqGuard; split <;> simp
theorem eqGuard_bool (op : BinOp) (t : TypeId) (x y : Operand) (i j : Bool) : (eqGuard op t x y (.bool i) (.bool j)).run P w = .ok () w := by
  unfold eqGuard; split <;> simp
theorem eqGuard_ptr (op : BinOp) (t : TypeId) (x y : Operand) (i j : Option Addr) : (eqGuard op t x y (.pointer i) (.pointer j)).run P w = .ok () w := by
  unfold eqGuard; split <;> simp

theorem run_binInt {op : BinOp} {t : TypeId} {k k' : IntKind} {i j : Int} (hc : (binInt op k k' i j).c) : ∃ u, (binOp op t (.int k i) (.int k' j)).run P w = .ok u w ∧ RI g w (binInt op k k' i j).v u ∧ flv (binInt op k k' i j).v = true := by
  cases op <;> simp only [binInt] at hc ⊢
  case shl => exact ⟨_, by simp [binOp, Op.shift, Int.not_lt.2 hc]; rfl, by simp [RI], rfl⟩
  case shr => exact ⟨_, by simp [binOp, Op.shift, Int.not_lt.2 hc]; rfl, by simp [RI], rfl⟩
  case quo => obtain ⟨rfl, h0⟩ := hc; exact ⟨_, by simp [binOp, Op.intDiv, h0]; rfl, by simp [RI], rfl⟩
  case rem => obtain ⟨rfl, h0⟩ := hc; exact ⟨_, by simp [binOp, Op.intDiv, h0]; rfl, by simp [RI], rfl⟩
  case and => obtain rfl := hc; exact ⟨_, by simp [binOp, bits_run]; rfl, by simp [RI], rfl⟩
  case or => obtain rfl := hc; exact ⟨_, by simp [binOp, bits_run]; rfl, by simp [RI], rfl⟩
  case xor => obtain rfl := hc; exact ⟨_, by simp [binOp, bits_run]; rfl, by simp [RI], rfl⟩
  all_goals (obtain rfl := hc; exact ⟨_, by simp [binOp, Op.intArith, Op.intCmp]; rfl, by simp [RI], rfl⟩)

theorem run_binStr {op : BinOp} {t : TypeId} {x y : ByteArray} (hc : (binStr op x y).c) : ∃ u, (binOp op t (.string x) (.string y)).run P w = .ok u w ∧ RI g w (binStr op x y).v u ∧ flv (binStr op x y).v = true := by
  cases op <;> simp only [binStr] at hc ⊢ <;> try (exact hc.elim)
  case add =>
    have h : ¬ ((x.size + y.size : Nat) : Int) > IntKind.i64.max := by
      simp only [IntKind.max, IntKind.signed, IntKind.bits]; simp; omega
    refine ⟨.string (x ++ y), ?_, by simp [RI], rfl⟩
    simp only [binOp, Op.stringOp, h, if_false, Sem.run_pure]
  all_goals exact ⟨_, by simp [binOp, Op.stringOp]; rfl, by simp [RI], rfl⟩


/-! ### Structs of scalars, compared -/
def eqShF (P : Program) (sh : TypeId → Option (List Sh)) : List Field → Nat → Option (List Sh)
  | [], _ => some []
  | f :: fs, acc =>
    if f.name ≠ "_" ∧ f.offset = acc then
      match sh f.type with
      | some s => if (P.info? f.type).map (·.size) = some s.length then (eqShF P sh fs (acc + s.length)).map (s ++ ·) else none
      | none => none
    else none
def eqSh (P : Program) : Nat → TypeId → Option (List Sh)
  | 0, _ => none
  | d + 1, t =>
    match P.underlying t with
    | some .bool => some [.b]
    | some (.int k) => some [.i k]
    | some .string => some [.s]
    | some (.struct fs) => if P.stoodInHeld t then none else eqShF P (eqSh P d) fs.toList 0
    | _ => none

theorem aggEq_append : ∀ (a b c d : List AVal), a.length = b.length → aggEq (a ++ c) (b ++ d) = (aggEq a b && aggEq c d)
  | [], [], _, _, _ => by simp [aggEq]
  | x :: a, y :: b, c, d, h => by simp [aggEq, aggEq_append a b c d (by simpa using h), Bool.and_assoc]
  | [], _ :: _, _, _, h => by simp at h
  | _ :: _, [], _, _, h => by simp at h
theorem hasSh_length : ∀ {sh : List Sh} {cs : List AVal}, hasSh sh cs → cs.length = sh.length
  | [], [], _ => rfl
  | .i _ :: s, .int _ _ :: cs, h => by simp only [hasSh] at h; simp [hasSh_length h.2]
  | .b :: s, .bool _ :: cs, h => by simp only [hasSh] at h; simp [hasSh_length h]
  | .s :: s, .str _ :: cs, h => by simp only [hasSh] at h; simp [hasSh_length h]
  | [], _ :: _, h => by simp [hasSh] at h
  | _ :: _, [], h => by simp [hasSh] at h
  | .i _ :: _, .bool _ :: _, h => by simp [hasSh] at h
  | .i _ :: _, .str _ :: _, h => by simp [hasSh] at h
  | .b :: _, .int _ _ :: _, h => by simp [hasSh] at h
  | .b :: _, .str _ :: _, h => by simp [hasSh] at h
  | .s :: _, .int _ _ :: _, h => by simp [hasSh] at h
  | .s :: _, .bool _ :: _, h => by simp [hasSh] at h
  | .i _ :: _, .junk :: _, h | .i _ :: _, .agg _ :: _, h | .i _ :: _, .tup _ :: _, h | .i _ :: _, .lst _ _ :: _, h | .i _ :: _, .cptr _ :: _, h | .i _ :: _, .box _ _ :: _, h | .i _ :: _, .hp _ _ :: _, h | .i _ :: _, .ref _ _ _ _ :: _, h | .i _ :: _, .nilptr :: _, h | .i _ :: _, .func _ _ :: _, h | .i _ :: _, .map _ :: _, h | .i _ :: _, .nilmap :: _, h => by simp [hasSh] at h
  | .b :: _, .junk :: _, h | .b :: _, .agg _ :: _, h | .b :: _, .tup _ :: _, h | .b :: _, .lst _ _ :: _, h | .b :: _, .cptr _ :: _, h | .b :: _, .box _ _ :: _, h | .b :: _, .hp _ _ :: _, h | .b :: _, .ref _ _ _ _ :: _, h | .b :: _, .nilptr :: _, h | .b :: _, .func _ _ :: _, h | .b :: _, .map _ :: _, h | .b :: _, .nilmap :: _, h => by simp [hasSh] at h
  | .s :: _, .junk :: _, h | .s :: _, .agg _ :: _, h | .s :: _, .tup _ :: _, h | .s :: _, .lst _ _ :: _, h | .s :: _, .cptr _ :: _, h | .s :: _, .box _ _ :: _, h | .s :: _, .hp _ _ :: _, h | .s :: _, .ref _ _ _ _ :: _, h | .s :: _, .nilptr :: _, h | .s :: _, .func _ _ :: _, h | .s :: _, .map _ :: _, h | .s :: _, .nilmap :: _, h => by simp [hasSh] at h
theorem hasSh_append : ∀ {s1 s2 : List Sh} {cs : List AVal}, hasSh (s1 ++ s2) cs → hasSh s1 (cs.take s1.length) ∧ hasSh s2 (cs.drop s1.length)
  | [], s2, cs, h => by simpa [hasSh] using h
  | x :: s1, s2, [], h => by simp [hasSh] at h
  | x :: s1, s2, c :: cs, h => by
    have key : hasSh (s1 ++ s2) cs → hasSh s1 (cs.take s1.length) ∧ hasSh s2 (cs.drop s1.length) := hasSh_append
    cases x <;> cases c <;> simp only [List.cons_append, hasSh, List.length_cons, List.take_succ_cons, List.drop_succ_cons] at h ⊢ <;> first | exact h.elim | (obtain ⟨h1, h2⟩ := h; exact ⟨⟨h1, (key h2).1⟩, (key h2).2⟩) | exact key h

def packT (P : Program) (t : TypeId) (us : List Value) : Value := if aggT P t then .agg us.toArray else us.headD undef
theorem run_part' {t : TypeId} {us : List Value} {off k : Nat} (hu : (P.underlying t).isSome = true) (hi : (P.info? t).map (·.size) = some k) (hk : aggT P t = false → k = 1) (h : off + k ≤ us.length) :
    (part t us.toArray off).run P w = .ok (packT P t ((us.drop off).take k)) w := by
  obtain ⟨i, hi1, hi2⟩ := Option.map_eq_some_iff.1 hi
  simp only [part, Sem.run_bind, run_isAgg' hu, Result.andThen_ok, packT]
  cases hag : aggT P t with
  | true =>
    simp only [if_true, Sem.run_bind, sizeOf, typeInfo, run_program, hi1, Result.andThen_ok, Sem.run_pure, hi2]
    congr 2
    apply Array.ext'
    simp [List.extract_eq_take_drop, Nat.add_sub_cancel_left]
  | false =>
    have := hk hag; subst this
    have hlt : off < us.length := by omega
    simp only [Bool.false_eq_true, if_false]
    have e1 : us.toArray[off]? = some us[off] := by simp [hlt]
    rw [e1]
    simp only [Sem.run_pure]
    have e2 : (us.drop off).take 1 = [us[off]] := by rw [List.drop_eq_getElem_cons hlt]; rfl
    rw [e2]; rfl

theorem eqSh_scalar {d : Nat} {t : TypeId} {sh : List Sh} (h : eqSh P d t = some sh) (ha : aggT P t = false) : sh.length = 1 := by
  cases d with
  | zero => simp [eqSh] at h
  | succ d =>
    simp only [eqSh] at h
    split at h <;> first | (cases h; rfl) | (cases h; done) | skip
    rename_i hu
    simp [aggT, hu] at ha
theorem eqSh_some {d : Nat} {t : TypeId} {sh : List Sh} (h : eqSh P d t = some sh) : (P.underlying t).isSome = true := by
  cases d with
  | zero => simp [eqSh] at h
  | succ d =>
    simp only [eqSh] at h
    split at h <;> simp_all

theorem run_eqSh : ∀ (d : Nat) (m : Nat) (t : TypeId) (sh : List Sh) (cs ds : List AVal) (us vs : List Value), eqSh P d t = some sh → hasSh sh cs → hasSh sh ds → RIs g w cs us → RIs g w ds vs →
    (Op.equalIn (d + m) t (packT P t us) (packT P t vs)).run P w = .ok (aggEq cs ds) w
  | 0, _, _, _, _, _, _, _, h, _, _, _, _ => by simp [eqSh] at h
  | d + 1, m, t, sh, cs, ds, us, vs, h, h1, h2, hu, hv => by
    have hd : d + 1 + m = (d + m) + 1 := by omega
    simp only [eqSh] at h
    split at h
    · rename_i ht
      cases h
      match cs, ds, h1, h2 with
      | [.bool b], [.bool b'], _, _ =>
        simp only [RIs, RI] at hu hv
        obtain ⟨u, _, rfl, rfl, rfl⟩ := hu
        obtain ⟨v, _, rfl, rfl, rfl⟩ := hv
        simp [packT, aggT, ht, hd, run_equalIn_bool' w _ t b b' ht, aggEq, scEq]
    · rename_i k ht
      cases h
      match cs, ds, h1, h2 with
      | [.int k1 x], [.int k2 y], h1, h2 =>
        simp only [hasSh] at h1 h2
        obtain ⟨rfl, _⟩ := h1
        obtain ⟨rfl, _⟩ := h2
        simp only [RIs, RI] at hu hv
        obtain ⟨u, _, rfl, rfl, rfl⟩ := hu
        obtain ⟨v, _, rfl, rfl, rfl⟩ := hv
        simp [packT, aggT, ht, hd, run_equalIn_int w _ t _ _ x y ht, aggEq, scEq]
    · rename_i ht
      cases h
      match cs, ds, h1, h2 with
      | [.str b], [.str b'], _, _ =>
        simp only [RIs, RI] at hu hv
        obtain ⟨u, _, rfl, rfl, rfl⟩ := hu
        obtain ⟨v, _, rfl, rfl, rfl⟩ := hv
        simp [packT, aggT, ht, hd, run_equalIn_string w _ t b b' ht, aggEq, scEq]
    · rename_i fs ht
      split at h
      · cases h
      · rename_i hst
        have hfo : P.fieldsOf t = fs := by simp [Program.fieldsOf, ht]
        have hag : aggT P t = true := by simp [aggT, ht]
        simp only [packT, hag, if_true, hd]
        rw [run_equalIn_struct w (d + m) t us.toArray vs.toArray (by rw [hfo]; exact ht) (by simpa using hst), hfo]
        -- the fields, one by one
        have key : ∀ (fs : List Field) (acc : Nat) (sh : List Sh), eqShF P (eqSh P d) fs acc = some sh → hasSh sh (cs.drop acc) → hasSh sh (ds.drop acc) → acc ≤ cs.length → acc ≤ ds.length →
            (Op.eqFields (d + m) us.toArray vs.toArray fs).run P w = .ok (aggEq (cs.drop acc) (ds.drop acc)) w := by
          intro fs
          induction fs with
          | nil =>
            intro acc sh h h1 h2 _ _
            simp only [eqShF, Option.some.injEq] at h; subst h
            have e1 := hasSh_length h1
            have e2 := hasSh_length h2
            rw [List.eq_nil_of_length_eq_zero e1, List.eq_nil_of_length_eq_zero e2]
            simp [Op.eqFields, aggEq]
          | cons f fs ih =>
            intro acc sh h h1 h2 hl1 hl2
            simp only [eqShF] at h
            split at h
            · rename_i hf
              obtain ⟨hf1, hf2⟩ := hf
              split at h
              · rename_i s hs
                split at h
                · rename_i hsz
                  obtain ⟨sh', hsh', rfl⟩ := Option.map_eq_some_iff.1 h
                  obtain ⟨a1, a2⟩ := hasSh_append h1
                  obtain ⟨b1, b2⟩ := hasSh_append h2
                  have la := hasSh_length a1
                  have lb := hasSh_length b1
                  have lu := hu.length
                  have lv := hv.length
                  simp only [List.length_take, List.length_drop] at la lb
                  have hpu : (part f.type us.toArray f.offset).run P w = .ok (packT P f.type ((us.drop acc).take s.length)) w := by
                    rw [hf2]; exact run_part' (eqSh_some hs) hsz (fun e => eqSh_scalar hs e) (by omega)
                  have hpv : (part f.type vs.toArray f.offset).run P w = .ok (packT P f.type ((vs.drop acc).take s.length)) w := by
                    rw [hf2]; exact run_part' (eqSh_some hs) hsz (fun e => eqSh_scalar hs e) (by omega)
                  have heq := run_eqSh d m f.type s _ _ _ _ hs a1 b1 ((hu.drop acc).take s.length) ((hv.drop acc).take s.length)
                  have hsplit : aggEq (cs.drop acc) (ds.drop acc) = (aggEq ((cs.drop acc).take s.length) ((ds.drop acc).take s.length) && aggEq (cs.drop (acc + s.length)) (ds.drop (acc + s.length))) := by
                    conv => lhs; rw [← List.take_append_drop s.length (cs.drop acc), ← List.take_append_drop s.length (ds.drop acc)]
                    rw [aggEq_append _ _ _ _ (by simp only [List.length_take, List.length_drop]; omega), List.drop_drop, List.drop_drop]
                  have hrest := ih (acc + s.length) sh' hsh' (by rw [← List.drop_drop]; exact a2) (by rw [← List.drop_drop]; exact b2) (by omega) (by omega)
                  simp only [Op.eqFields, ne_eq, hf1, not_false_eq_true, if_true, Sem.run_bind, hpu, hpv, Result.andThen_ok, heq, Sem.run_ite]
                  rw [hsplit]
                  cases aggEq ((cs.drop acc).take s.length) ((ds.drop acc).take s.length) with
                  | true => simpa using hrest
                  | false => simp
                · cases h
              · cases h
            · cases h
        have := key fs.toList 0 sh h (by simpa using h1) (by simpa using h2) (by omega) (by omega)
        simpa using this
    · cases h
end
end Go.Ge
