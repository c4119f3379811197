/- What is asked of an operation of the program and the operation that stands for it, and what it gives: the quiet ones. -/
import Derived.Test.YtpdajkbfemcdlaaGeOps8
set_option linter.unusedSimpArgs false
set_option linter.unusedVariables false
namespace Go.Ge

def szT (P : Program) (t : TypeId) : Option Nat := (P.info? t).map (·.size)
def isStrT (P : Program) (t : TypeId) : Bool := match P.underlying t with | some .string => true | _ => false
def isBoolT (P : Program) (t : TypeId) : Bool := match P.underlying t with | some .bool => true | _ => false
def isByteT (P : Program) (t : TypeId) : Bool := match P.underlying t with | some (.int .u8) => true | _ => false
def isPtrT (P : Program) (t : TypeId) : Bool := match P.underlying t with | some (.pointer _) => true | _ => false
def sliceE (P : Program) (t : TypeId) : Option TypeId := match P.underlying t with | some (.slice e) => some e | _ => none
def structF (P : Program) (t : TypeId) : Option (Array Field) := match P.underlying t with | some (.struct fs) => some fs | _ => none
def arrayE (P : Program) (t : TypeId) : Option (Nat × TypeId) := match P.underlying t with | some (.array n e) => some (n, e) | _ => none
def intK (P : Program) (t : TypeId) : Option IntKind := match P.underlying t with | some (.int k) => some k | _ => none
theorem isStrT_ok {P : Program} {t : TypeId} (h : isStrT P t = true) : P.underlying t = some .string := by unfold isStrT at h; split at h <;> simp_all
theorem isBoolT_ok {P : Program} {t : TypeId} (h : isBoolT P t = true) : P.underlying t = some .bool := by unfold isBoolT at h; split at h <;> simp_all
theorem isByteT_ok {P : Program} {t : TypeId} (h : isByteT P t = true) : P.underlying t = some (.int .u8) := by unfold isByteT at h; split at h <;> simp_all
theorem isPtrT_ok {P : Program} {t : TypeId} (h : isPtrT P t = true) : ∃ e, P.underlying t = some (.pointer e) := by unfold isPtrT at h; split at h <;> simp_all
theorem sliceE_ok {P : Program} {t e : TypeId} (h : sliceE P t = some e) : P.underlying t = some (.slice e) := by unfold sliceE at h; split at h <;> simp_all
theorem structF_ok {P : Program} {t : TypeId} {fs : Array Field} (h : structF P t = some fs) : P.underlying t = some (.struct fs) := by unfold structF at h; split at h <;> simp_all
theorem arrayE_ok {P : Program} {t e : TypeId} {n : Nat} (h : arrayE P t = some (n, e)) : P.underlying t = some (.array n e) := by unfold arrayE at h; split at h <;> simp_all
theorem intK_ok {P : Program} {t : TypeId} {k : IntKind} (h : intK P t = some k) : P.underlying t = some (.int k) := by unfold intK at h; split at h <;> simp_all

def ptrArr (P : Program) (t : TypeId) : Option (Nat × TypeId) := match P.underlying t with | some (.pointer e) => arrayE P e | _ => none
def isZero : Operand → Bool
  | .const (.int _ 0) => true
  | _ => false
theorem isZero_ok {x : Operand} (h : isZero x = true) : ∃ k, x = .const (.int k 0) := by unfold isZero at h; split at h <;> simp_all
theorem ptrArr_ok {P : Program} {t e : TypeId} {n : Nat} (h : ptrArr P t = some (n, e)) : ∃ ar, P.underlying t = some (.pointer ar) ∧ P.underlying ar = some (.array n e) := by
  unfold ptrArr at h; split at h
  · exact ⟨_, by assumption, arrayE_ok h⟩
  · cases h
def isNilOp : Operand → Bool
  | .const (.pointer none) => true
  | _ => false
theorem isNilOp_ok {x : Operand} (h : isNilOp x = true) : x = .const (.pointer none) := by unfold isNilOp at h; split at h <;> simp_all
def denseX (k : Nat) : List (Nat × Operand) → Option (List Operand)
  | [] => some []
  | (i, x) :: r => if i = k then (denseX (k + 1) r).map (x :: ·) else none
theorem denseX_ok : ∀ {l : List (Nat × Operand)} {k : Nat} {xs : List Operand}, denseX k l = some xs → l = (xs.zipIdx k).map fun x => (x.2, x.1)
  | [], k, xs, h => by simp only [denseX, Option.some.injEq] at h; subst h; rfl
  | (i, x) :: r, k, xs, h => by
    simp only [denseX] at h
    split at h
    · rename_i hi
      obtain ⟨ys, h1, rfl⟩ := Option.map_eq_some_iff.1 h
      subst hi
      simp [List.zipIdx_cons, denseX_ok h1]
    · cases h
def fieldPlaces (P : Program) (fs : Array Field) : Option (List (Nat × Nat)) := fs.toList.mapM fun f => (P.info? f.type).map fun i => (f.offset, i.size)
def ckBuild (P : Program) (t : TypeId) (parts : List (Nat × Operand)) (zero : List AVal) (ps : List (Nat × Nat × AOpn)) : Bool :=
  match P.info? t with
  | some it => match it.zero with
    | some z => cvs z.cells.toList zero && (match structF P t, arrayE P t with
      | some fs, _ => (match fieldPlaces P fs with | some places => ckParts (places.toArray[·]?) parts ps | none => false)
      | none, some (_, e) => (match P.info? e with | some ie => ckParts (fun i => some (i * ie.size, ie.size)) parts ps | none => false)
      | none, none => false)
    | none => false
  | none => false

/-- The operation of the program, and the one that stands for it: the quiet ones. -/
def ckF (P : Program) (o : Op) (ao : AOp) : Bool :=
  match o, ao with
  | .move x, .move false y => opn x y
  | .assign x, .move false y => opn x y
  | .pick c x y, .pick c' x' y' => opn c c' && opn x x' && opn y y'
  | .build t parts, .build zero ps => ckBuild P t parts.toList zero ps
  | .buildSlice t len parts, .buildS _ sz ps => (match sliceE P t with
    | some e => (match P.info? e, denseX 0 parts.toList with
      | some it, some xs => it.zero.isSome && decide (it.size = sz) && decide (0 < sz) && decide (len = ps.length) && opns xs ps
      | _, _ => false)
    | none => false)
  | .load t x, .load _ ag sz y => opn x y && (P.underlying t).isSome && decide (aggT P t = ag) && decide (szT P t = some sz) && (ag || decide (sz = 1))
  | .nilCheck x, .nilck y => opn x y
  | .binOp op _ x y _, .bin op' x' y' => decide (op = op') && opn x x' && opn y y'
  | .binOp op t x y _, .beq neg x' y' => decide (op = if neg then .neq else .eql) && opn x x' && opn y y' && isBoolT P t
  | .binOp op t x y _, .pnil neg x' => decide (op = if neg then .neq else .eql) && isPtrT P t && ((isNilOp y && opn x x') || (isNilOp x && opn y x'))
  | .binOp op t x y _, .eqs neg sh x' y' => decide (op = if neg then .neq else .eql) && opn x x' && opn y y' && decide (eqSh P 20 t = some sh) && aggT P t && !P.eqGuardType P.depth t
  | .unOp op _ x, .un op' y => decide (op = op') && opn x y
  | .convert s d x, .conv k y => opn x y && (P.underlying s).isSome && decide (intK P d = some k)
  | .convert s d x, .b2s y => opn x y && (match sliceE P s with | some e => isByteT P e | none => false) && isStrT P d
  | .convert s d x, .s2b y => opn x y && isStrT P s && (match sliceE P d with | some e => isByteT P e | none => false)
  | .convert s d x, .same y => opn x y && isStrT P s && isStrT P d
  | .slice t x lo hi mx, .slice sz y lo' hi' mx' => opn x y && oopn lo lo' && oopn hi hi' && oopn mx mx' && decide (0 < sz) && (match sliceE P t with | some e => decide (szT P e = some sz) | none => false)
  | .slice t x lo hi none, .sslice y lo' hi' => opn x y && oopn lo lo' && oopn hi hi' && isStrT P t
  | .fieldAddr s x f, .faddr off y => opn x y && (match structF P s with
    | some fs => (match fs[f]? with | some fd => decide (fd.offset = off) && (match P.info? fd.type with | some i => decide (i.size ≠ 0) | none => false) | none => false)
    | none => false)
  | .field s x f, .field ag off sz y => opn x y && (match structF P s with
    | some fs => (match fs[f]? with
      | some fd => decide (fd.offset = off) && (P.underlying fd.type).isSome && decide (aggT P fd.type = ag) && decide (szT P fd.type = some sz) && (ag || decide (sz = 1))
      | none => false)
    | none => false)
  | .indexAddr t x i, .iaddr sz y j => opn x y && opn i j && decide (0 < sz) && (match sliceE P t with | some e => decide (szT P e = some sz) | none => false)
  | .indexAddr t x i, .aaddr m sz y j => opn x y && opn i j && (match arrayE P t with | some (m', e) => decide (m' = m) && decide (szT P e = some sz) | none => false)
  | .index t x i, .idx y j => opn x y && opn i j && isStrT P t
  | .index t x i, .aidx ag m sz y j => opn x y && opn i j && (match arrayE P t with
    | some (m', e) => decide (m' = m) && (P.underlying e).isSome && decide (aggT P e = ag) && decide (szT P e = some sz) && (ag || decide (sz = 1))
    | none => false)
  | .extract x i, .ext j y => opn x y && decide (i = j)
  | .makeSlice t l c, .mkslice sz bytes _ zero y => opn l y && opn c y && (match sliceE P t with
    | some e => (match P.info? e with
      | some it => (match it.zero with | some z => cv z zero && storable zero && flv zero && decide (z.cells.size = sz) && decide (it.size = sz) && decide (0 < sz) && decide (it.bytes = bytes) | none => false)
      | none => false)
    | none => false)
  | .call c, .len y => (match c.callee, c.args.toList, c.argTypes[0]? with | .builtin .len, [x], some t => opn x y && (sliceE P t).isSome | _, _, _ => false)
  | .call c, .slen y => (match c.callee, c.args.toList, c.argTypes[0]? with | .builtin .len, [x], some t => opn x y && isStrT P t | _, _, _ => false)
  | .call c, .alen m => (match c.callee, c.args.toList, c.argTypes[0]? with | .builtin .len, [_], some t => (match arrayE P t with | some (m', _) => decide (m' = m) | none => false) | _, _, _ => false)
  | .call c, .mn x ys => (match c.callee with | .builtin .min => opns c.args.toList (x :: ys) | _ => false)
  | .call c, .mx x ys => (match c.callee with | .builtin .max => opns c.args.toList (x :: ys) | _ => false)
  | .slice t x lo (some hi) (some mx), .empt y => opn x y && (match lo with | none => true | some z => isZero z) && isZero hi && isZero mx && (match sliceE P t with | some e => (P.info? e).isSome | none => false)
  | .slice t x lo hi none, .sliceA m sz y lo' hi' => opn x y && oopn lo lo' && oopn hi hi' && (match ptrArr P t with | some (m', e) => decide (m' = m) && decide (szT P e = some sz) | none => false)
  | .convert s d x, .b2sR y => opn x y && (match sliceE P s with | some e => isByteT P e | none => false) && isStrT P d
  | .call c, .capR y => (match c.callee, c.args.toList, c.argTypes[0]? with | .builtin .cap, [x], some t => opn x y && (sliceE P t).isSome | _, _, _ => false)
  | .makeFunc (.func f) first xs, .mkfq f' ys => first.isEmpty && decide (f = f') && opns xs.toList ys
  | _, _ => false

theorem szT_ok {P : Program} {t : TypeId} {k : Nat} (h : szT P t = some k) : ∃ it, P.info? t = some it ∧ it.size = k := Option.map_eq_some_iff.1 h

section
variable {P : Program} {n : Nat} {S : AState} {g : Gh} {a : Act} {w : World} {o : Oper}
set_option maxHeartbeats 1000000 in
theorem fev_ok (hR : Rel n S g a w) {op : Op} (ho : o.op = op) {ao : AOp} (hck : ckF P op ao = true) {f : FR} (hf : fev S.rd S.boxes S.heap ao = some f) (hc : f.c) (own : List Nat → Ow) :
    Ok1 P (execOp a.eval o) g w own f.v := by
  unfold ckF at hck
  split at hck <;> (try simp only [Bool.and_eq_true, Bool.or_eq_true, decide_eq_true_eq, Bool.not_eq_true', Bool.false_eq_true] at hck) <;> simp only [fev, Option.some.injEq] at hf <;> (try subst hf) <;> (try simp only at hc) <;> (try simp only)
  · exact ok_move hR (.inl ho) hck own
  · exact ok_move hR (.inr ho) hck own
  · rename_i c x y c' x' y'
    obtain ⟨⟨h1, h2⟩, h3⟩ := hck
    cases hv : S.rd c' <;> rw [hv] at hc <;> simp only [pickF] at hc ⊢ <;> try exact hc.elim
    exact ok_pick hR ho h1 h2 h3 hv own
  · rename_i t parts zero ps
    unfold ckBuild at hck
    split at hck
    · rename_i it hit
      split at hck
      · rename_i z hz
        simp only [Bool.and_eq_true] at hck
        obtain ⟨h1, h2⟩ := hck
        split at h2
        · rename_i fs _ hfs
          split at h2
          · rename_i places hpl
            exact ok_build hR ho (fun vs => by simp only [Program.built, hit, structF_ok hfs, hz]; unfold fieldPlaces at hpl; rw [hpl]) h1 h2 hc own
          · cases h2
        · rename_i m e _ hfs
          split at h2
          · rename_i ie hie
            exact ok_build hR ho (fun vs => by simp only [Program.built, hit, arrayE_ok hfs, hz, hie]) h1 h2 hc own
          · cases h2
        · cases h2
      · cases hck
    · cases hck
  · rename_i t len parts uq sz ps
    split at hck
    · rename_i e he
      split at hck
      · rename_i it xs hit hxs
        simp only [Bool.and_eq_true, decide_eq_true_eq] at hck
        obtain ⟨⟨⟨⟨h1, h2⟩, h3⟩, h4⟩, h5⟩ := hck
        obtain ⟨z, hz⟩ := isSome_iff' h1
        exact ok_buildS hR ho (sliceE_ok he) hit hz h2 h3 h4 xs (denseX_ok hxs) h5 hc own
      · cases hck
    · cases hck
  · obtain ⟨⟨⟨⟨h1, h2⟩, h3⟩, h4⟩, h5⟩ := hck
    exact ok_load hR ho h1 h2 h3 h4 (fun e => by rw [e] at h5; simpa using h5) hc.2 own
  · exact ok_nilck hR ho hck hc own
  · obtain ⟨⟨h1, h2⟩, h3⟩ := hck
    subst h1
    exact ok_bin hR ho h2 h3 hc own
  · rename_i op t x y ty neg x' y'
    obtain ⟨⟨⟨h1, h2⟩, h3⟩, h4⟩ := hck
    subst h1
    cases hv : S.rd x' <;> cases hv2 : S.rd y' <;> rw [hv, hv2] at hc <;> simp only [beqV] at hc ⊢ <;> try exact hc.elim
    exact ok_beq hR ho h2 h3 (isBoolT_ok h4) hv hv2 own
  · rename_i op t x y ty neg x'
    obtain ⟨⟨h1, h2⟩, h3⟩ := hck
    subst h1
    obtain ⟨e, he⟩ := isPtrT_ok h2
    rcases h3 with ⟨h3, h4⟩ | ⟨h3, h4⟩
    · exact ok_pnil hR ho h4 (.inl ⟨rfl, isNilOp_ok h3⟩) he hc own
    · exact ok_pnil hR ho h4 (.inr ⟨rfl, isNilOp_ok h3⟩) he hc own
  · rename_i op t x y ty neg sh x' y'
    obtain ⟨⟨⟨⟨⟨h1, h2⟩, h3⟩, h4⟩, h5⟩, h6⟩ := hck
    subst h1
    cases hv : S.rd x' <;> cases hv2 : S.rd y' <;> rw [hv, hv2] at hc <;> simp only [eqsV] at hc ⊢ <;> try exact hc.elim
    exact ok_eqs hR ho h2 h3 h4 h5 h6 hv hv2 hc.1 hc.2 own
  · obtain ⟨h1, h2⟩ := hck
    subst h1
    exact ok_un hR ho h2 hc own
  · rename_i s d x k y
    obtain ⟨⟨h1, h2⟩, h3⟩ := hck
    cases hv : S.rd y <;> rw [hv] at hc <;> simp only [convV] at hc ⊢ <;> try exact hc.elim
    exact ok_conv hR ho h1 h2 (intK_ok h3) hv own
  · obtain ⟨⟨h1, h2⟩, h3⟩ := hck
    split at h2
    · rename_i e he
      exact ok_b2s hR ho h1 (sliceE_ok he) (isByteT_ok h2) (isStrT_ok h3) hc own
    · cases h2
  · obtain ⟨⟨h1, h2⟩, h3⟩ := hck
    split at h3
    · rename_i e he
      exact ok_s2b hR ho h1 (isStrT_ok h2) (sliceE_ok he) (isByteT_ok h3) hc own
    · cases h3
  · rename_i s d x y
    obtain ⟨⟨h1, h2⟩, h3⟩ := hck
    cases hv : S.rd y <;> rw [hv] at hc <;> simp only [sameV] at hc ⊢ <;> try exact hc.elim
    exact ok_same hR ho h1 (isStrT_ok h2) (isStrT_ok h3) hv own
  · obtain ⟨⟨⟨⟨⟨h1, h2⟩, h3⟩, h4⟩, h5⟩, h6⟩ := hck
    split at h6
    · rename_i e he
      obtain ⟨it, hit, hsz⟩ := szT_ok (of_decide_eq_true h6)
      exact ok_slice hR ho h1 h2 h3 h4 (sliceE_ok he) hit hsz h5 hc own
    · cases h6
  · obtain ⟨⟨⟨h1, h2⟩, h3⟩, h4⟩ := hck
    exact ok_sslice hR ho h1 h2 h3 (isStrT_ok h4) hc own
  · obtain ⟨h1, h2⟩ := hck
    split at h2
    · rename_i fs hfs
      split at h2
      · rename_i fd hfd
        simp only [Bool.and_eq_true, decide_eq_true_eq] at h2
        obtain ⟨h3, h4⟩ := h2
        split at h4
        · rename_i i hi
          exact ok_faddr hR ho h1 (structF_ok hfs) hfd hi (of_decide_eq_true h4) h3 hc own
        · cases h4
      · cases h2
    · cases h2
  · obtain ⟨h1, h2⟩ := hck
    split at h2
    · rename_i fs hfs
      split at h2
      · rename_i fd hfd
        simp only [Bool.and_eq_true, decide_eq_true_eq, Bool.or_eq_true] at h2
        obtain ⟨⟨⟨⟨h3, h4⟩, h5⟩, h6⟩, h7⟩ := h2
        exact ok_field hR ho h1 (structF_ok hfs) hfd h4 h5 h6 (fun e => by rw [e] at h7; simpa using h7) h3 hc own
      · cases h2
    · cases h2
  · obtain ⟨⟨⟨h1, h2⟩, h3⟩, h4⟩ := hck
    split at h4
    · rename_i e he
      obtain ⟨it, hit, hsz⟩ := szT_ok (of_decide_eq_true h4)
      exact ok_iaddr hR ho h1 h2 (sliceE_ok he) hit hsz h3 hc own
    · cases h4
  · obtain ⟨⟨h1, h2⟩, h3⟩ := hck
    split at h3
    · rename_i m' e he
      simp only [Bool.and_eq_true, decide_eq_true_eq] at h3
      obtain ⟨rfl, h4⟩ := h3
      obtain ⟨it, hit, hsz⟩ := szT_ok h4
      exact ok_aaddr hR ho h1 h2 (arrayE_ok he) hit hsz hc own
    · cases h3
  · obtain ⟨⟨h1, h2⟩, h3⟩ := hck
    exact ok_idx hR ho h1 h2 (isStrT_ok h3) hc own
  · obtain ⟨⟨h1, h2⟩, h3⟩ := hck
    split at h3
    · rename_i m' e he
      simp only [Bool.and_eq_true, decide_eq_true_eq, Bool.or_eq_true] at h3
      obtain ⟨⟨⟨⟨rfl, h4⟩, h5⟩, h6⟩, h7⟩ := h3
      exact ok_aidx hR ho h1 h2 (arrayE_ok he) h4 h5 h6 (fun e => by rw [e] at h7; simpa using h7) hc own
    · cases h3
  · obtain ⟨h1, h2⟩ := hck
    subst h2
    exact ok_ext hR ho h1 hc own
  · obtain ⟨⟨h1, h2⟩, h3⟩ := hck
    split at h3
    · rename_i e he
      split at h3
      · rename_i it hit
        split at h3
        · rename_i z hz
          simp only [Bool.and_eq_true, decide_eq_true_eq] at h3
          obtain ⟨⟨⟨⟨⟨⟨q1, q2⟩, q3⟩, q4⟩, q5⟩, q6⟩, q7⟩ := h3
          exact ok_mkslice hR ho h1 h2 (sliceE_ok he) hit hz q5 q6 q7 q1 q2 q4 q3 hc own
        · cases h3
      · cases h3
    · cases h3
  · rename_i c y
    split at hck
    · rename_i x t hcal hargs hts
      simp only [Bool.and_eq_true] at hck
      obtain ⟨e, he⟩ := isSome_iff' hck.2
      exact ok_len hR ho hcal (by apply Array.ext'; simpa using hargs) hts hck.1 (sliceE_ok he) hc own
    · cases hck
  · rename_i c y
    split at hck
    · rename_i x t hcal hargs hts
      simp only [Bool.and_eq_true] at hck
      exact ok_slen hR ho hcal (by apply Array.ext'; simpa using hargs) hts hck.1 (isStrT_ok hck.2) hc own
    · cases hck
  · rename_i c m
    split at hck
    · rename_i x t hcal hargs hts
      split at hck
      · rename_i m' e he
        have := of_decide_eq_true hck; subst this
        exact ok_alen hR.heap.valid ho hcal (show c.args = #[x] by apply Array.ext'; simpa using hargs) hts (arrayE_ok he) own
      · cases hck
    · cases hck
  · rename_i c x ys
    split at hck
    · rename_i hcal
      exact ok_mn hR ho hcal hck hc own
    · cases hck
  · rename_i c x ys
    split at hck
    · rename_i hcal
      exact ok_mx hR ho hcal hck hc own
    · cases hck
  · rename_i t x lo hi mx y
    obtain ⟨⟨⟨⟨h1, h2⟩, h3⟩, h4⟩, h5⟩ := hck
    obtain ⟨kh, rfl⟩ := isZero_ok h3
    obtain ⟨km, rfl⟩ := isZero_ok h4
    split at h5
    · rename_i e he
      obtain ⟨it, hit⟩ := isSome_iff' h5
      exact ok_empt hR ho h1 (fun z hz => by subst hz; exact isZero_ok h2) (sliceE_ok he) hit hc own
    · cases h5
  · obtain ⟨⟨⟨h1, h2⟩, h3⟩, h4⟩ := hck
    split at h4
    · rename_i m' e he
      simp only [Bool.and_eq_true, decide_eq_true_eq] at h4
      obtain ⟨rfl, h5⟩ := h4
      obtain ⟨it, hit, hsz⟩ := szT_ok h5
      obtain ⟨ar, q1, q2⟩ := ptrArr_ok he
      exact ok_sliceA hR ho h1 h2 h3 q1 q2 hit hsz hc own
    · cases h4
  · obtain ⟨⟨h1, h2⟩, h3⟩ := hck
    split at h2
    · rename_i e he
      exact ok_b2sR hR ho h1 (sliceE_ok he) (isByteT_ok h2) (isStrT_ok h3) hc own
    · cases h2
  · rename_i c y
    split at hck
    · rename_i x t hcal hargs hts
      simp only [Bool.and_eq_true] at hck
      obtain ⟨e, he⟩ := isSome_iff' hck.2
      exact ok_capR hR ho hcal (by apply Array.ext'; simpa using hargs) hts hck.1 (sliceE_ok he) hc own
    · cases hck
  · rename_i f first xs f' ys
    obtain ⟨⟨h1, rfl⟩, h2⟩ := hck
    have : first = #[] := by simpa using h1
    subst this
    exact ok_mkfq hR ho h2 hc own
end
end Go.Ge
