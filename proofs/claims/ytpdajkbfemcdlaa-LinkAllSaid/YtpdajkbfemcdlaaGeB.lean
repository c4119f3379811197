import Derived.Test.YtpdajkbfemcdlaaGeA
import Derived.Deep.AppendSrc
import Derived.Deep.Upon
import Derived.WalkSpells
import Derived.Lib.SliceRun
import Derived.Shelf.Abstract
set_option linter.unusedSimpArgs false
set_option linter.unusedVariables false
namespace Go.Ge

def szT (P : Program) (t : TypeId) : Option Nat := (P.info? t).map (·.size)
def isStrT (P : Program) (t : TypeId) : Bool := match P.underlying t with | some .string => true | _ => false
def isBoolT (P : Program) (t : TypeId) : Bool := match P.underlying t with | some .bool => true | _ => false
def isByteT (P : Program) (t : TypeId) : Bool := match P.underlying t with | some (.int .u8) => true | _ => false
def isPtrT (P : Program) (t : TypeId) : Bool := match P.underlying t with | some (.pointer _) => true | _ => false
def sliceE (P : Program) (t : TypeId) : Option TypeId := match P.underlying t with | some (.slice e) => some e | _ => none
def structF (P : Program) (t : TypeId) : Option (Array Field) := match P.underlying t with | some (.struct fs) => some fs | _ => none
def arrayE (P : Program) (t : TypeId) : Option (Nat × TypeId) := match P.underlying t with | some (.array n e) => some (n, e) | _ => none
def intK (P : Program) (t : TypeId) : Option IntKind := match P.underlying t with | some (.int k) => some k | _ => none
theorem isStrT_ok {P : Program} {t : TypeId} (h : isStrT P t = true) : P.underlying t = some .string := by unfold isStrT at h; split at h <;> simp_all
theorem isBoolT_ok {P : Program} {t : TypeId} (h : isBoolT P t = true) : P.underlying t = some .bool := by unfold isBoolT at h; split at h <;> simp_all
theorem isByteT_ok {P : Program} {t : TypeId} (h : isByteT P t = true) : P.underlying t = some (.int .u8) := by unfold isByteT at h; split at h <;> simp_all
theorem isPtrT_ok {P : Program} {t : TypeId} (h : isPtrT P t = true) : ∃ e, P.underlying t = some (.pointer e) := by unfold isPtrT at h; split at h <;> simp_all
theorem sliceE_ok {P : Program} {t e : TypeId} (h : sliceE P t = some e) : P.underlying t = some (.slice e) := by unfold sliceE at h; split at h <;> simp_all
theorem structF_ok {P : Program} {t : TypeId} {fs : Array Field} (h : structF P t = some fs) : P.underlying t = some (.struct fs) := by unfold structF at h; split at h <;> simp_all
theorem arrayE_ok {P : Program} {t e : TypeId} {n : Nat} (h : arrayE P t = some (n, e)) : P.underlying t = some (.array n e) := by unfold arrayE at h; split at h <;> simp_all
theorem intK_ok {P : Program} {t : TypeId} {k : IntKind} (h : intK P t = some k) : P.underlying t = some (.int k) := by unfold intK at h; split at h <;> simp_all

def ptrArr (P : Program) (t : TypeId) : Option (Nat × TypeId) := match P.underlying t with | some (.pointer e) => arrayE P e | _ => none
def isZero : Operand → Bool
  | .const (.int _ 0) => true
  | _ => false
theorem isZero_ok {x : Operand} (h : isZero x = true) : ∃ k, x = .const (.int k 0) := by unfold isZero at h; split at h <;> simp_all
theorem ptrArr_ok {P : Program} {t e : TypeId} {n : Nat} (h : ptrArr P t = some (n, e)) : ∃ ar, P.underlying t = some (.pointer ar) ∧ P.underlying ar = some (.array n e) := by
  unfold ptrArr at h; split at h
  · exact ⟨_, by assumption, arrayE_ok h⟩
  · cases h
def isNilOp : Operand → Bool
  | .const (.pointer none) => true
  | _ => false
theorem isNilOp_ok {x : Operand} (h : isNilOp x = true) : x = .const (.pointer none) := by unfold isNilOp at h; split at h <;> simp_all
def denseX (k : Nat) : List (Nat × Operand) → Option (List Operand)
  | [] => some []
  | (i, x) :: r => if i = k then (denseX (k + 1) r).map (x :: ·) else none
theorem denseX_ok : ∀ {l : List (Nat × Operand)} {k : Nat} {xs : List Operand}, denseX k l = some xs → l = (xs.zipIdx k).map fun x => (x.2, x.1)
  | [], k, xs, h => by simp only[denseX,Option.some.injEq] at h; subst h; rfl
  | (i, x) :: r, k, xs, h => by
    simp only[denseX] at h
    split at h
    · rename_i hi
      obtain ⟨ys, h1, rfl⟩ := Option.map_eq_some_iff.1 h
      subst hi
      simp [List.zipIdx_cons, denseX_ok h1]
    · cases h
def fieldPlaces (P : Program) (fs : Array Field) : Option (List (Nat × Nat)) := fs.toList.mapM fun f => (P.info? f.type).map fun i => (f.offset, i.size)
def ckBuild (P : Program) (t : TypeId) (parts : List (Nat × Operand)) (zero : List AVal) (ps : List (Nat × Nat × AOpn)) : Bool :=
  match P.info? t with
  | some it => match it.zero with
    | some z => cvs z.cells.toList zero && (match structF P t, arrayE P t with
      | some fs, _ => (match fieldPlaces P fs with | some places => ckParts (places.toArray[·]?) parts ps | none => false)
      | none, some (_, e) => (match P.info? e with | some ie => ckParts (fun i => some (i * ie.size, ie.size)) parts ps | none => false)
      | none, none => false)
    | none => false
  | none => false

def ckF (P : Program) (o : Op) (ao : AOp) : Bool :=
  match o, ao with
  | .move x, .move false y => opn x y
  | .assign x, .move false y => opn x y
  | .pick c x y, .pick c' x' y' => opn c c' && opn x x' && opn y y'
  | .build t parts, .build zero ps => ckBuild P t parts.toList zero ps
  | .buildSlice t len parts, .buildS _ sz ps => (match sliceE P t with
    | some e => (match P.info? e, denseX 0 parts.toList with
      | some it, some xs => it.zero.isSome && decide (it.size = sz) && decide (0 < sz) && decide (len = ps.length) && opns xs ps
      | _, _ => false)
    | none => false)
  | .load t x, .load _ ag sz y => opn x y && (P.underlying t).isSome && decide (aggT P t = ag) && decide (szT P t = some sz) && (ag || decide (sz = 1))
  | .load t x, .loadX _ ag sz y => opn x y && (P.underlying t).isSome && decide (aggT P t = ag) && decide (szT P t = some sz) && (ag || decide (sz = 1))
  | .nilCheck x, .nilck y => opn x y
  | .binOp op _ x y _, .bin op' x' y' => decide (op = op') && opn x x' && opn y y'
  | .binOp op t x y _, .beq neg x' y' => decide (op = if neg then .neq else .eql) && opn x x' && opn y y' && isBoolT P t
  | .binOp op t x y _, .pnil neg x' => decide (op = if neg then .neq else .eql) && isPtrT P t && ((isNilOp y && opn x x') || (isNilOp x && opn y x'))
  | .binOp op t x y _, .eqs neg sh x' y' => decide (op = if neg then .neq else .eql) && opn x x' && opn y y' && (decide (eqSh P 20 t = some sh) || decide (arrK P t = some sh)) && aggT P t && !P.eqGuardType P.depth t
  | .unOp op _ x, .un op' y => decide (op = op') && opn x y
  | .convert s d x, .conv k y => opn x y && (P.underlying s).isSome && decide (intK P d = some k)
  | .convert s d x, .b2s y => opn x y && (match sliceE P s with | some e => isByteT P e | none => false) && isStrT P d
  | .convert s d x, .s2b y => opn x y && isStrT P s && (match sliceE P d with | some e => isByteT P e | none => false)
  | .convert s d x, .same y => opn x y && isStrT P s && isStrT P d
  | .slice t x lo hi mx, .slice sz y lo' hi' mx' => opn x y && oopn lo lo' && oopn hi hi' && oopn mx mx' && decide (0 < sz) && (match sliceE P t with | some e => decide (szT P e = some sz) | none => false)
  | .slice t x lo hi none, .sslice y lo' hi' => opn x y && oopn lo lo' && oopn hi hi' && isStrT P t
  | .fieldAddr s x f, .faddr off y => opn x y && (match structF P s with
    | some fs => (match fs[f]? with | some fd => decide (fd.offset = off) && (match P.info? fd.type with | some i => decide (i.size ≠ 0) | none => false) | none => false)
    | none => false)
  | .field s x f, .field ag off sz y => opn x y && (match structF P s with
    | some fs => (match fs[f]? with
      | some fd => decide (fd.offset = off) && (P.underlying fd.type).isSome && decide (aggT P fd.type = ag) && decide (szT P fd.type = some sz) && (ag || decide (sz = 1))
      | none => false)
    | none => false)
  | .indexAddr t x i, .iaddr sz y j => opn x y && opn i j && decide (0 < sz) && (match sliceE P t with | some e => decide (szT P e = some sz) | none => false)
  | .indexAddr t x i, .aaddr m sz y j => opn x y && opn i j && (match arrayE P t with | some (m', e) => decide (m' = m) && decide (szT P e = some sz) | none => false)
  | .index t x i, .idx y j => opn x y && opn i j && isStrT P t
  | .index t x i, .aidx ag m sz y j => opn x y && opn i j && (match arrayE P t with
    | some (m', e) => decide (m' = m) && (P.underlying e).isSome && decide (aggT P e = ag) && decide (szT P e = some sz) && (ag || decide (sz = 1))
    | none => false)
  | .extract x i, .ext j y => opn x y && decide (i = j)
  | .makeSlice t l c, .mkslice sz bytes _ zero y => opn l y && opn c y && (match sliceE P t with
    | some e => (match P.info? e with
      | some it => (match it.zero with | some z => cv z zero && storable zero && flv zero && decide (z.cells.size = sz) && decide (it.size = sz) && decide (0 < sz) && decide (it.bytes = bytes) | none => false)
      | none => false)
    | none => false)
  | .call c, .len y => (match c.callee, c.args.toList, c.argTypes[0]? with | .builtin .len, [x], some t => opn x y && (sliceE P t).isSome | _, _, _ => false)
  | .call c, .slen y => (match c.callee, c.args.toList, c.argTypes[0]? with | .builtin .len, [x], some t => opn x y && isStrT P t | _, _, _ => false)
  | .call c, .alen m => (match c.callee, c.args.toList, c.argTypes[0]? with | .builtin .len, [_], some t => (match arrayE P t with | some (m', _) => decide (m' = m) | none => false) | _, _, _ => false)
  | .call c, .mn x ys => (match c.callee with | .builtin .min => opns c.args.toList (x :: ys) | _ => false)
  | .call c, .mx x ys => (match c.callee with | .builtin .max => opns c.args.toList (x :: ys) | _ => false)
  | .slice t x lo (some hi) (some mx), .empt y => opn x y && (match lo with | none => true | some z => isZero z) && isZero hi && isZero mx && (match sliceE P t with | some e => (P.info? e).isSome | none => false)
  | .slice t x lo hi none, .sliceA m sz y lo' hi' => opn x y && oopn lo lo' && oopn hi hi' && (match ptrArr P t with | some (m', e) => decide (m' = m) && decide (szT P e = some sz) | none => false)
  | .convert s d x, .b2sR y => opn x y && (match sliceE P s with | some e => isByteT P e | none => false) && isStrT P d
  | .call c, .capR y => (match c.callee, c.args.toList, c.argTypes[0]? with | .builtin .cap, [x], some t => opn x y && (sliceE P t).isSome | _, _, _ => false)
  | .makeFunc (.func f) first xs, .mkfq f' ys => first.isEmpty && decide (f = f') && opns xs.toList ys
  | _, _ => false

theorem szT_ok {P : Program} {t : TypeId} {k : Nat} (h : szT P t = some k) : ∃ it, P.info? t = some it ∧ it.size = k := Option.map_eq_some_iff.1 h

section
variable {P : Program} {n : Nat} {S : AState} {g : Gh} {a : Act} {w : World} {o : Oper}
set_option maxHeartbeats 1000000 in
theorem fev_ok (hR : Rel n S g a w) {op : Op} (ho : o.op = op) {ao : AOp} (hck : ckF P op ao = true) {f : FR} (hf : fev S.rd S.boxes S.heap ao = some f) (hc : f.c) (own : List Nat → Ow) :
    Ok1 P (execOp a.eval o) g w own f.v := by
  unfold ckF at hck
  split at hck <;> (try simp only[Bool.and_eq_true,Bool.or_eq_true,decide_eq_true_eq,Bool.not_eq_true',Bool.false_eq_true] at hck) <;> simp only[fev,Option.some.injEq] at hf <;> (try subst hf) <;> (try simp only at hc) <;> (try simp only)
  · exact ok_move hR (.inl ho) hck own
  · exact ok_move hR (.inr ho) hck own
  · rename_i c x y c' x' y'
    obtain ⟨⟨h1, h2⟩, h3⟩ := hck
    cases hv : S.rd c' <;> rw [hv] at hc <;> simp only[pickF] at hc ⊢ <;> try exact hc.elim
    exact ok_pick hR ho h1 h2 h3 hv own
  · rename_i t parts zero ps
    unfold ckBuild at hck
    split at hck
    · rename_i it hit
      split at hck
      · rename_i z hz
        simp only[Bool.and_eq_true] at hck
        obtain ⟨h1, h2⟩ := hck
        split at h2
        · rename_i fs _ hfs
          split at h2
          · rename_i places hpl
            exact ok_build hR ho (fun vs => by simp only[Program.built,hit,structF_ok hfs,hz]; unfold fieldPlaces at hpl; rw [hpl]) h1 h2 hc own
          · cases h2
        · rename_i m e _ hfs
          split at h2
          · rename_i ie hie
            exact ok_build hR ho (fun vs => by simp only[Program.built,hit,arrayE_ok hfs,hz,hie]) h1 h2 hc own
          · cases h2
        · cases h2
      · cases hck
    · cases hck
  · rename_i t len parts uq sz ps
    split at hck
    · rename_i e he
      split at hck
      · rename_i it xs hit hxs
        simp only[Bool.and_eq_true,decide_eq_true_eq] at hck
        obtain ⟨⟨⟨⟨h1, h2⟩, h3⟩, h4⟩, h5⟩ := hck
        obtain ⟨z, hz⟩ := isSome_iff' h1
        exact ok_buildS hR ho (sliceE_ok he) hit hz h2 h3 h4 xs (denseX_ok hxs) h5 hc own
      · cases hck
    · cases hck
  · obtain ⟨⟨⟨⟨h1, h2⟩, h3⟩, h4⟩, h5⟩ := hck
    exact ok_load hR ho h1 h2 h3 h4 (fun e => by rw [e] at h5; simpa using h5) hc.2 own
  · obtain ⟨⟨⟨⟨h1, h2⟩, h3⟩, h4⟩, h5⟩ := hck
    exact ok_load hR ho h1 h2 h3 h4 (fun e => by rw [e] at h5; simpa using h5) hc.2 own
  · exact ok_nilck hR ho hck hc own
  · obtain ⟨⟨h1, h2⟩, h3⟩ := hck
    subst h1
    exact ok_bin hR ho h2 h3 hc own
  · rename_i op t x y ty neg x' y'
    obtain ⟨⟨⟨h1, h2⟩, h3⟩, h4⟩ := hck
    subst h1
    cases hv : S.rd x' <;> cases hv2 : S.rd y' <;> rw [hv, hv2] at hc <;> simp only[beqV] at hc ⊢ <;> try exact hc.elim
    exact ok_beq hR ho h2 h3 (isBoolT_ok h4) hv hv2 own
  · rename_i op t x y ty neg x'
    obtain ⟨⟨h1, h2⟩, h3⟩ := hck
    subst h1
    obtain ⟨e, he⟩ := isPtrT_ok h2
    rcases h3 with ⟨h3, h4⟩ | ⟨h3, h4⟩
    · exact ok_pnil hR ho h4 (.inl ⟨rfl, isNilOp_ok h3⟩) he hc own
    · exact ok_pnil hR ho h4 (.inr ⟨rfl, isNilOp_ok h3⟩) he hc own
  · rename_i op t x y ty neg sh x' y'
    obtain ⟨⟨⟨⟨⟨h1, h2⟩, h3⟩, h4⟩, h5⟩, h6⟩ := hck
    subst h1
    cases hv : S.rd x' <;> cases hv2 : S.rd y' <;> rw [hv, hv2] at hc <;> simp only[eqsV] at hc ⊢ <;> try exact hc.elim
    exact ok_eqs hR ho h2 h3 h4 h5 h6 hv hv2 hc.1 hc.2 own
  · obtain ⟨h1, h2⟩ := hck
    subst h1
    exact ok_un hR ho h2 hc own
  · rename_i s d x k y
    obtain ⟨⟨h1, h2⟩, h3⟩ := hck
    cases hv : S.rd y <;> rw [hv] at hc <;> simp only[convV] at hc ⊢ <;> try exact hc.elim
    exact ok_conv hR ho h1 h2 (intK_ok h3) hv own
  · obtain ⟨⟨h1, h2⟩, h3⟩ := hck
    split at h2
    · rename_i e he
      exact ok_b2s hR ho h1 (sliceE_ok he) (isByteT_ok h2) (isStrT_ok h3) hc own
    · cases h2
  · obtain ⟨⟨h1, h2⟩, h3⟩ := hck
    split at h3
    · rename_i e he
      exact ok_s2b hR ho h1 (isStrT_ok h2) (sliceE_ok he) (isByteT_ok h3) hc own
    · cases h3
  · rename_i s d x y
    obtain ⟨⟨h1, h2⟩, h3⟩ := hck
    cases hv : S.rd y <;> rw [hv] at hc <;> simp only[sameV] at hc ⊢ <;> try exact hc.elim
    exact ok_same hR ho h1 (isStrT_ok h2) (isStrT_ok h3) hv own
  · obtain ⟨⟨⟨⟨⟨h1, h2⟩, h3⟩, h4⟩, h5⟩, h6⟩ := hck
    split at h6
    · rename_i e he
      obtain ⟨it, hit, hsz⟩ := szT_ok (of_decide_eq_true h6)
      exact ok_slice hR ho h1 h2 h3 h4 (sliceE_ok he) hit hsz h5 hc own
    · cases h6
  · obtain ⟨⟨⟨h1, h2⟩, h3⟩, h4⟩ := hck
    exact ok_sslice hR ho h1 h2 h3 (isStrT_ok h4) hc own
  · obtain ⟨h1, h2⟩ := hck
    split at h2
    · rename_i fs hfs
      split at h2
      · rename_i fd hfd
        simp only[Bool.and_eq_true,decide_eq_true_eq] at h2
        obtain ⟨h3, h4⟩ := h2
        split at h4
        · rename_i i hi
          exact ok_faddr hR ho h1 (structF_ok hfs) hfd hi (of_decide_eq_true h4) h3 hc own
        · cases h4
      · cases h2
    · cases h2
  · obtain ⟨h1, h2⟩ := hck
    split at h2
    · rename_i fs hfs
      split at h2
      · rename_i fd hfd
        simp only[Bool.and_eq_true,decide_eq_true_eq,Bool.or_eq_true] at h2
        obtain ⟨⟨⟨⟨h3, h4⟩, h5⟩, h6⟩, h7⟩ := h2
        exact ok_field hR ho h1 (structF_ok hfs) hfd h4 h5 h6 (fun e => by rw [e] at h7; simpa using h7) h3 hc own
      · cases h2
    · cases h2
  · obtain ⟨⟨⟨h1, h2⟩, h3⟩, h4⟩ := hck
    split at h4
    · rename_i e he
      obtain ⟨it, hit, hsz⟩ := szT_ok (of_decide_eq_true h4)
      exact ok_iaddr hR ho h1 h2 (sliceE_ok he) hit hsz h3 hc own
    · cases h4
  · obtain ⟨⟨h1, h2⟩, h3⟩ := hck
    split at h3
    · rename_i m' e he
      simp only[Bool.and_eq_true,decide_eq_true_eq] at h3
      obtain ⟨rfl, h4⟩ := h3
      obtain ⟨it, hit, hsz⟩ := szT_ok h4
      exact ok_aaddr hR ho h1 h2 (arrayE_ok he) hit hsz hc own
    · cases h3
  · obtain ⟨⟨h1, h2⟩, h3⟩ := hck
    exact ok_idx hR ho h1 h2 (isStrT_ok h3) hc own
  · obtain ⟨⟨h1, h2⟩, h3⟩ := hck
    split at h3
    · rename_i m' e he
      simp only[Bool.and_eq_true,decide_eq_true_eq,Bool.or_eq_true] at h3
      obtain ⟨⟨⟨⟨rfl, h4⟩, h5⟩, h6⟩, h7⟩ := h3
      exact ok_aidx hR ho h1 h2 (arrayE_ok he) h4 h5 h6 (fun e => by rw [e] at h7; simpa using h7) hc own
    · cases h3
  · obtain ⟨h1, h2⟩ := hck
    subst h2
    exact ok_ext hR ho h1 hc own
  · obtain ⟨⟨h1, h2⟩, h3⟩ := hck
    split at h3
    · rename_i e he
      split at h3
      · rename_i it hit
        split at h3
        · rename_i z hz
          simp only[Bool.and_eq_true,decide_eq_true_eq] at h3
          obtain ⟨⟨⟨⟨⟨⟨q1, q2⟩, q3⟩, q4⟩, q5⟩, q6⟩, q7⟩ := h3
          exact ok_mkslice hR ho h1 h2 (sliceE_ok he) hit hz q5 q6 q7 q1 q2 q4 q3 hc own
        · cases h3
      · cases h3
    · cases h3
  · rename_i c y
    split at hck
    · rename_i x t hcal hargs hts
      simp only[Bool.and_eq_true] at hck
      obtain ⟨e, he⟩ := isSome_iff' hck.2
      exact ok_len hR ho hcal (by apply Array.ext'; simpa using hargs) hts hck.1 (sliceE_ok he) hc own
    · cases hck
  · rename_i c y
    split at hck
    · rename_i x t hcal hargs hts
      simp only[Bool.and_eq_true] at hck
      exact ok_slen hR ho hcal (by apply Array.ext'; simpa using hargs) hts hck.1 (isStrT_ok hck.2) hc own
    · cases hck
  · rename_i c m
    split at hck
    · rename_i x t hcal hargs hts
      split at hck
      · rename_i m' e he
        have := of_decide_eq_true hck; subst this
        exact ok_alen hR.heap.valid ho hcal (show c.args = #[x] by apply Array.ext'; simpa using hargs) hts (arrayE_ok he) own
      · cases hck
    · cases hck
  · rename_i c x ys
    split at hck
    · rename_i hcal
      exact ok_mn hR ho hcal hck hc own
    · cases hck
  · rename_i c x ys
    split at hck
    · rename_i hcal
      exact ok_mx hR ho hcal hck hc own
    · cases hck
  · rename_i t x lo hi mx y
    obtain ⟨⟨⟨⟨h1, h2⟩, h3⟩, h4⟩, h5⟩ := hck
    obtain ⟨kh, rfl⟩ := isZero_ok h3
    obtain ⟨km, rfl⟩ := isZero_ok h4
    split at h5
    · rename_i e he
      obtain ⟨it, hit⟩ := isSome_iff' h5
      exact ok_empt hR ho h1 (fun z hz => by subst hz; exact isZero_ok h2) (sliceE_ok he) hit hc own
    · cases h5
  · obtain ⟨⟨⟨h1, h2⟩, h3⟩, h4⟩ := hck
    split at h4
    · rename_i m' e he
      simp only[Bool.and_eq_true,decide_eq_true_eq] at h4
      obtain ⟨rfl, h5⟩ := h4
      obtain ⟨it, hit, hsz⟩ := szT_ok h5
      obtain ⟨ar, q1, q2⟩ := ptrArr_ok he
      exact ok_sliceA hR ho h1 h2 h3 q1 q2 hit hsz hc own
    · cases h4
  · obtain ⟨⟨h1, h2⟩, h3⟩ := hck
    split at h2
    · rename_i e he
      exact ok_b2sR hR ho h1 (sliceE_ok he) (isByteT_ok h2) (isStrT_ok h3) hc own
    · cases h2
  · rename_i c y
    split at hck
    · rename_i x t hcal hargs hts
      simp only[Bool.and_eq_true] at hck
      obtain ⟨e, he⟩ := isSome_iff' hck.2
      exact ok_capR hR ho hcal (by apply Array.ext'; simpa using hargs) hts hck.1 (sliceE_ok he) hc own
    · cases hck
  · rename_i f first xs f' ys
    obtain ⟨⟨h1, rfl⟩, h2⟩ := hck
    have : first = #[] := by simpa using h1
    subst this
    exact ok_mkfq hR ho h2 hc own
end
end Go.Ge
set_option linter.unusedSimpArgs false
set_option linter.unusedVariables false
namespace Go.Ge

def putArr (cur : Array Value) (o : Nat) (vs : List Value) : Array Value := (cur.toList.take o ++ vs ++ cur.toList.drop (o + vs.length)).toArray
theorem putArr_size {cur : Array Value} {o : Nat} {vs : List Value} (h : o + vs.length ≤ cur.size) : (putArr cur o vs).size = cur.size := by simp [putArr]; omega
theorem putArr_in {cur : Array Value} {o : Nat} {vs : List Value} (h : o + vs.length ≤ cur.size) {j : Nat} (hj : j < vs.length) : (putArr cur o vs)[o + j]? = vs[j]? := by
  simp only[putArr,List.getElem?_toArray]
  rw [List.append_assoc, List.getElem?_append_right (by simp; omega), List.getElem?_append_left (by simp; omega)]
  congr 1; simp; omega
theorem putArr_out {cur : Array Value} {o : Nat} {vs : List Value} (h : o + vs.length ≤ cur.size) {j : Nat} (hj : j < o ∨ o + vs.length ≤ j) : (putArr cur o vs)[j]? = cur[j]? := by
  simp only[putArr,List.getElem?_toArray]
  rcases hj with hj | hj
  · rw [List.append_assoc, List.getElem?_append_left (by simp; omega), List.getElem?_take_of_lt hj]; simp
  · rw [List.getElem?_append_right (by simp; omega), List.getElem?_drop]
    have e : o + vs.length + (j - (cur.toList.take o ++ vs).length) = j := by simp; omega
    rw [e]; simp
theorem setCell_block {w : World} {b o : Nat} {cur : Array Value} {e : TypeId} {fz : Nat × Nat} (h : w.heap[b]? = some (.cells cur e fz)) (v : Value) : (w.setCell ⟨b, o, none⟩ v).heap[b]? = some (.cells (cur.setIfInBounds o v) e fz) := by
  have hlt : b < w.heap.size := (Array.getElem?_eq_some_iff.1 h).1
  simp [World.setCell, Array.getElem?_modify, h]
theorem setCells_block : ∀ (vs : List Value) (o : Nat) (w : World) (cur : Array Value) {b : Nat} {e : TypeId} {fz : Nat × Nat}, w.heap[b]? = some (.cells cur e fz) → o + vs.length ≤ cur.size → (w.setCells b o vs).heap[b]? = some (.cells (putArr cur o vs) e fz)
  | [], o, w, cur, b, e, fz, h, _ => by simp [World.setCells, putArr, h]
  | v :: vs, o, w, cur, b, e, fz, h, hl => by
    simp only[List.length_cons] at hl
    have h1 := setCell_block (o := o) h v
    have := setCells_block vs (o + 1) (w.setCell ⟨b, o, none⟩ v) _ h1 (by simp; omega)
    simp only[World.setCells]
    rw [this]
    congr 2
    apply Array.ext_getElem?
    intro j
    rcases Nat.lt_or_ge j o with hj | hj
    · rw [putArr_out (by simp; omega) (.inl (by omega)), putArr_out (by simp; omega) (.inl hj)]
      rw [Array.getElem?_setIfInBounds_ne (by omega)]
    · rcases Nat.lt_or_ge j (o + 1) with hj2 | hj2
      · obtain rfl : j = o := by omega
        rw [putArr_out (by simp; omega) (.inl (by omega))]
        have := putArr_in (cur := cur) (o := j) (vs := v :: vs) (by simp; omega) (j := 0) (by simp)
        simp only[Nat.add_zero] at this
        rw [this]
        simp [show j < cur.size by omega]
      · rcases Nat.lt_or_ge j (o + 1 + vs.length) with hj3 | hj3
        · obtain ⟨k, rfl⟩ : ∃ k, j = o + 1 + k := ⟨j - (o + 1), by omega⟩
          rw [putArr_in (by simp; omega) (by omega)]
          have := putArr_in (cur := cur) (o := o) (vs := v :: vs) (by simp; omega) (j := k + 1) (by simp; omega)
          rw [show o + 1 + k = o + (k + 1) by omega, this]; simp
        · rw [putArr_out (by simp; omega) (.inr hj3), putArr_out (by simp; omega) (.inr (by simp; omega))]
          rw [Array.getElem?_setIfInBounds_ne (by omega)]
theorem setCells_size : ∀ (vs : List Value) (o : Nat) (w : World) (b : Nat), (w.setCells b o vs).heap.size = w.heap.size
  | [], _, _, _ => rfl
  | v :: vs, o, w, b => by simp [World.setCells, setCells_size vs]
theorem setCells_other : ∀ (vs : List Value) (o : Nat) (w : World) (b k : Nat), k ≠ b → (w.setCells b o vs).heap[k]? = w.heap[k]?
  | [], _, _, _, _, _ => rfl
  | v :: vs, o, w, b, k, h => by
    simp only[World.setCells]
    rw [setCells_other vs _ _ _ _ h, Go.RowKit.Below.heap_setCell _ _ _ _ h]
theorem setCells_rest : ∀ (vs : List Value) (o : Nat) (w : World) (b : Nat), (w.setCells b o vs).os = w.os ∧ (w.setCells b o vs).tape = w.tape ∧ (w.setCells b o vs).output = w.output
  | [], _, _, _ => ⟨rfl, rfl, rfl⟩
  | v :: vs, o, w, b => by
    simp only[World.setCells]
    obtain ⟨h1, h2, h3⟩ := setCells_rest vs (o + 1) (w.setCell ⟨b, o, none⟩ v) b
    exact ⟨h1, h2, h3⟩

theorem Evo.write {g : Gh} {w : World} {b o : Nat} {vs : List Value} {cur : Array Value} {e : TypeId} {fz : Nat × Nat} (hb : w.heap[b]? = some (.cells cur e fz)) (hle : o + vs.length ≤ cur.size) (hfr : g.fr b ≤ o) (hno : g.ow b ≠ .no) (hot : g.ow b ≠ .other)
    (q : Ow) (f : Nat) (hf : g.fr b ≤ f) : Evo g w (g.alloc b q f) (w.setCells b o vs) := by
  obtain ⟨r1, r2, r3⟩ := setCells_rest vs o w b
  refine ⟨r1, r2, r3, by rw [setCells_size]; exact Nat.le_refl _, fun k hk ho => ?_, fun k hk => ?_, Nat.le_refl _, fun _ _ => rfl⟩
  · have : k ≠ b := by
      rintro rfl
      rcases ho with ho | ho
      · exact hno ho
      · exact hot ho
    exact ⟨setCells_other _ _ _ _ _ this, by simp [Gh.alloc, this], by simp [Gh.alloc, this]⟩
  · by_cases h : k = b
    · subst h
      refine ⟨by simpa [Gh.alloc] using hf, fun j hj => ?_⟩
      rw [cell_of_block (setCells_block vs o w cur hb hle), cell_of_block hb, putArr_out hle (.inl (by omega))]
    · refine ⟨by simp [Gh.alloc, h], fun j _ => World.cell?_of_block (w := w) (setCells_other _ _ _ _ _ h)⟩
theorem Keep.write {g : Gh} {w : World} {b o : Nat} {vs : List Value} {q' : Ow} {q : Ow} {f : Nat} (hq : g.ow b ≠ q') : Keep g w (g.alloc b q f) (w.setCells b o vs) q' q' := by
  intro k hk
  have : k ≠ b := by rintro rfl; exact hq hk
  exact ⟨by simp [Gh.alloc, this, hk], setCells_other _ _ _ _ _ this, by simp [Gh.alloc, this]⟩

def Gh.ren (g : Gh) (ρ : Ow → Ow) : Gh := { g with ow := fun b => ρ (g.ow b) }
theorem Evo.ren {g : Gh} {w : World} {ρ : Ow → Ow} (h1 : ρ .no = .no) (h2 : ρ .other = .other) : Evo g w (g.ren ρ) w :=
  ⟨rfl, rfl, rfl, Nat.le_refl _, fun b _ ho => ⟨rfl, rfl, by rcases ho with ho | ho <;> simp [Gh.ren, ho, h1, h2]⟩, fun _ _ => ⟨Nat.le_refl _, fun _ _ => rfl⟩, Nat.le_refl _, fun _ _ => rfl⟩
theorem Keep.ren {g : Gh} {w : World} {ρ : Ow → Ow} {q q' : Ow} (h : ρ q = q') : Keep g w (g.ren ρ) w q q' := fun b hb => ⟨by simp [Gh.ren, hb, h], rfl, rfl⟩
theorem Stb.ren {g : Gh} {w : World} {ρ : Ow → Ow} : Stb g w (g.ren ρ) w := ⟨fun _ _ _ h => h, Nat.le_refl _, fun _ _ => rfl⟩

theorem RI_remc {g : Gh} {w : World} {o : Ow} {x : AVal} {v : Value} (h : RVc g w o x v) : RI g w (remc x) v := by
  have := RI_rdc h
  cases x <;> first | exact this | skip
theorem RVc.rem {g : Gh} {w : World} {o o' : Ow} {x : AVal} {v : Value} (h : RVc g w o x v) : RVc g w o' (remc x) v := by
  refine RVc.of_RI ?_ (RI_remc h)
  cases x <;> first | rfl | (rename_i o xs; cases o <;> rfl)
theorem RVs.rem {g : Gh} {w : World} {own own' : Nat → Ow} : ∀ {xs : List AVal} {i : Nat} {us : List Value}, RVs g w own i xs us → RVs g w own' i (xs.map remc) us
  | [], _, _, h => by simpa [RVs] using h
  | a :: ass, i, us, h => by
    simp only[RVs] at h
    obtain ⟨u, us', e, h1, h2⟩ := h
    simp only[List.map,RVs]
    exact ⟨u, us', e, h1.rem, RVs.rem h2⟩
theorem RV.rem {g : Gh} {w : World} {own own' : List Nat → Ow} {x : AVal} {v : Value} (h : RV g w own x v) : RV g w own' (remV x) v := by
  cases x with
  | agg cs =>
    simp only[RV,RV1] at h
    obtain ⟨us, e, h⟩ := h
    simp only[remV,RV,RV1]
    exact ⟨us, e, h.rem⟩
  | tup vs => simp [remV, RV, RV1, RVc, RI]
  | box s off => simpa [remV, remc, RV] using h
  | lst o xs =>
    have : RVc g w (own []) (.lst o xs) v := h
    have := this.rem (o' := own' [])
    cases o <;> exact this
  | _ => simpa [remV, remc, RV, RV1, RVc] using h
end Go.Ge
set_option linter.unusedSimpArgs false
set_option linter.unusedVariables false
namespace Go.Ge
section
variable {P : Program} {n : Nat} {S : AState} {g : Gh} {a : Act} {w : World} {o : Oper} {next : Act → World → Prop} {Q : Exit → Act → World → Prop}

theorem wp_value {u : Value} {w' : World} (h : (execOp a.eval o).run P w = .ok (.value u) w') (k : next (a.put o.dst u) w') : o.wp P a w next Q := by
  unfold Oper.wp; rw [h]; exact k
theorem wp_skip' {w' : World} (h : (execOp a.eval o).run P w = .ok .skip w') (k : next (a.put o.dst undef) w') : o.wp P a w next Q := by
  unfold Oper.wp; rw [h]; exact k
def Goes (n : Nat) (g : Gh) (w : World) (K : AState → Prop) (next : Act → World → Prop) : Prop :=
  ∀ S' g' a' w', K S' → Rel n S' g' a' w' → Evo g w g' w' → next a' w'
theorem wp_ok1 (hR : Rel n S g a w) (hd : ∀ k, o.dst = some k → k < n) {x : AVal} (h : ∀ own, Ok1 P (execOp a.eval o) g w own x) {K : AState → Prop} (hK : K (S.put o.dst x)) (hn : Goes n g w K next) : o.wp P a w next Q := by
  cases hdst : o.dst with
  | none =>
    obtain ⟨u, w', g', h1, h2, h3⟩ := h (fun p => .slot 0 p)
    refine wp_value h1 (hn (S.put o.dst x) g' _ w' hK ?_ h2.evo)
    exact (hR.fresh h2).put hd (by rw [hdst]; intro k hk; cases hk)
  | some d =>
    obtain ⟨u, w', g', h1, h2, h3⟩ := h (.slot d)
    refine wp_value h1 (hn (S.put o.dst x) g' _ w' hK ?_ h2.evo)
    exact (hR.fresh h2).put hd (by rw [hdst]; intro k hk; cases hk; exact h3)

structure Calm (ρ : Ow → Ow) : Prop where
  no : ρ .no = .no
  other : ρ .other = .other
  box : ∀ s, ρ (.box s) = .box s
  boxc : ∀ s p, ρ (.boxc s p) = .boxc s p
  obj : ∀ i, ρ (.obj i) = .obj i
  objc : ∀ i p, ρ (.objc i p) = .objc i p
theorem RHeap.ren {ρ : Ow → Ow} {h : List HObj} (hρ : Calm ρ) (hh : RHeap g w h) : RHeap (g.ren ρ) w h :=
  ⟨hh.nh, fun id o ho => RObj.mono Stb.ren (by rw [hh.nh]; exact (List.getElem?_eq_some_iff.1 ho).1) (Keep.ren (hρ.obj id)) (fun p => Keep.ren (hρ.objc id p)) (hh.obj id o ho),
    fun b hb => by simp [Gh.ren, hh.valid b hb, hρ.no]⟩
theorem RBox.ren {ρ : Ow → Ow} {s : Nat} {cs : List AVal} (hρ : Calm ρ) (h : RBox g w s cs) : RBox (g.ren ρ) w s cs :=
  RBox.mono Stb.ren rfl (Keep.ren (hρ.box s)) (fun p => Keep.ren (hρ.boxc s p)) h
def renSlot (t : Nat) (q : List Nat → Ow) : Ow → Ow
  | .slot t' p => if t' = t then q p else .slot t' p
  | o => o
theorem Calm.renSlot (t : Nat) (q : List Nat → Ow) : Calm (renSlot t q) := ⟨rfl, rfl, fun _ => rfl, fun _ _ => rfl, fun _ => rfl, fun _ _ => rfl⟩
theorem renSlot_self (t : Nat) (q : List Nat → Ow) (p : List Nat) : renSlot t q (.slot t p) = q p := by simp [renSlot]
theorem renSlot_other {t u : Nat} (h : u ≠ t) (q : List Nat → Ow) (p : List Nat) : renSlot t q (.slot u p) = .slot u p := by simp [renSlot, h]
theorem tmps_put {m : Nat} {a : Act} (hs : a.tmps.size = m) {k : Nat} (hk : k < m) (v : Value) (u : Nat) : (a.put (some k) v).tmps.getD u undef = if u = k then v else a.tmps.getD u undef := by
  simp only[Act.put]
  by_cases e : u = k
  · subst e; simp [Array.getD_eq_getD_getElem?, hs, hk]
  · rw [if_neg e]
    simp only[Array.getD_eq_getD_getElem?,Array.getElem?_setIfInBounds]
    rw [if_neg (by omega)]

theorem Rel.move (hR : Rel n S g a w) {t d : Nat} (hd : d < n) : ∃ g', Rel n ((S.set t (remV (S.env t))).set d (S.env t)) g' (a.put (some d) (a.tmps.getD t undef)) w ∧ Evo g w g' w := by
  refine ⟨g.ren (renSlot t (.slot d)), ⟨by simpa [Act.put] using hR.size, hR.defers, fun u => ?_, fun s cs hs => (hR.boxes s cs hs).ren (.renSlot ..), hR.heap.ren (.renSlot ..)⟩, Evo.ren rfl rfl⟩
  rw [tmps_put hR.size hd]
  simp only[AState.set]
  by_cases e : u = d
  · rw [if_pos e, if_pos e]; subst e
    exact RV.mono Stb.ren (fun p => Keep.ren (renSlot_self ..)) _ _ (fun _ _ _ => rfl) (hR.env t)
  · rw [if_neg e, if_neg e]
    by_cases e2 : u = t
    · rw [if_pos e2]; subst e2
      exact (RV.mono (own' := .slot d) Stb.ren (fun p => Keep.ren (renSlot_self ..)) _ _ (fun _ _ _ => rfl) (hR.env u)).rem
    · rw [if_neg e2]
      exact RV.mono Stb.ren (fun p => Keep.ren (renSlot_other e2 ..)) _ _ (fun _ _ _ => rfl) (hR.env u)
theorem Rel.take (hR : Rel n S g a w) (t : Nat) : Rel n (S.set t (remV (S.env t))) g a w :=
  ⟨hR.size, hR.defers, fun u => by
    simp only[AState.set]
    by_cases e : u = t
    · rw [if_pos e]; subst e; exact (hR.env u).rem
    · rw [if_neg e]; exact hR.env u, hR.boxes, hR.heap⟩
theorem eff_move (hR : Rel n S g a w) {x : Operand} {y : AOpn} (ho : o.op = .move x ∨ o.op = .assign x) (hx : opn x y = true) (hd : ∀ k, o.dst = some k → k < n) {K : AState → Prop}
    (h : match S.full y with | .tup _ => False | v => K ((S.takeT y).put o.dst v)) (hn : Goes n g w K next) : o.wp P a w next Q := by
  have hrun : (execOp a.eval o).run P w = .ok (.value (a.eval x)) w := by rcases ho with ho | ho <;> simp [execOp, ho]
  have hK : K ((S.takeT y).put o.dst (S.full y)) := by
    cases hf : S.full y <;> rw [hf] at h <;> first | exact h | exact h.elim
  refine wp_value hrun ?_
  cases y with
  | c v =>
    rcases RV.of_opn hR hx with ⟨t, h1, _⟩ | ⟨_, h2⟩
    · cases h1
    · exact hn _ g _ w hK (hR.put hd fun k _ => h2 _) (.refl g w)
  | t m =>
    have hxm : x = .tmp m := by unfold opn at hx; split at hx <;> simp_all
    subst hxm
    cases hdst : o.dst with
    | none => rw [hdst] at hK; exact hn _ g _ w hK (hR.take m) (.refl g w)
    | some d =>
      obtain ⟨g', r1, r2⟩ := hR.move (t := m) (hd d hdst)
      rw [hdst] at hK
      exact hn _ g' _ w hK r1 r2

theorem eff_moveX (hR : Rel n S g a w) {m : Nat} (ho : o.op = .move (.tmp m) ∨ o.op = .assign (.tmp m)) (hd : ∀ k, o.dst = some k → k < n) {K : AState → Prop}
    (h : K ((S.set m (remV (S.env m))).put o.dst (S.env m))) (hn : Goes n g w K next) : o.wp P a w next Q := by
  have hrun : (execOp a.eval o).run P w = .ok (.value (a.eval (.tmp m))) w := by rcases ho with ho | ho <;> simp [execOp, ho]
  refine wp_value hrun ?_
  cases hdst : o.dst with
  | none => rw [hdst] at h; exact hn _ g _ w h (hR.take m) (.refl g w)
  | some d =>
    obtain ⟨g', r1, r2⟩ := hR.move (t := m) (hd d hdst)
    rw [hdst] at h
    exact hn _ g' _ w h r1 r2

theorem RV.ibs {g g' : Gh} {own : List Nat → Ow} {x : AVal} {v : Value} (hg : g'.fr = g.fr) (ho : g'.ow = g.ow) (hio : g'.io = g.io) (hnh : g'.nh = g.nh) (hb : ∀ s off, x = .box s off → g'.ib s = g.ib s) (h : RV g w own x v) : RV g' w own x v :=
  RV.mono ⟨fun b o v ⟨h1, h2⟩ => ⟨by rw [hg]; exact h1, h2⟩, by rw [hnh]; exact Nat.le_refl _, fun id _ => by rw [hio]⟩ (fun p b hb => ⟨by rw [ho]; exact hb, rfl, by rw [hg]⟩) _ _ hb h
def Gh.newBox (g : Gh) (b s : Nat) : Gh := { g.alloc b (.box s) 0 with ib := fun t => if t = s then b else g.ib t }
theorem Rel.newBox (hR : Rel n S g a w) {s : Nat} (hs : s < n) {us : Array Value} {e : TypeId} {cs : List AVal} (hcs : RVs (g.newBox w.heap.size s) (w.alloc (.cells us e)) (fun i => .boxc s [i]) 0 cs us.toList) :
    Rel n (((S.drop s).setBox s (some cs)).set s (.box s 0)) (g.newBox w.heap.size s) (a.put (some s) (.pointer (some ⟨w.heap.size, 0, none⟩))) (w.alloc (.cells us e)) ∧ Evo g w (g.newBox w.heap.size s) (w.alloc (.cells us e)) := by
  have hf := Fresh.alloc (g := g) (w := w) hR.heap.valid (.cells us e) (.box s) 0
  have hR' := hR.fresh hf
  have hevo : Evo g w (g.newBox w.heap.size s) (w.alloc (.cells us e)) := ⟨hf.evo.os, hf.evo.tape, hf.evo.output, hf.evo.size, hf.evo.fixed, hf.evo.stab, hf.evo.nh, hf.evo.io⟩
  refine ⟨⟨by simpa [Act.put] using hR.size, hR.defers, fun u => ?_, fun q ds hq => ?_, ?_⟩, hevo⟩
  · rw [tmps_put hR.size hs]
    simp only[AState.set,AState.setBox,AState.drop]
    by_cases e : u = s
    · rw [if_pos e, if_pos e]
      simp [RV, Gh.newBox]
    · rw [if_neg e, if_neg e]
      have h := hR'.env u
      split
      · rename_i s' off hv
        rw [hv] at h
        by_cases e2 : s' = s
        · rw [if_pos e2]; simp [RV, RV1, RVc, RI]
        · rw [if_neg e2]
          simp only[RV] at h ⊢
          simp only[Gh.newBox,e2,if_false]; exact h
      · rename_i v hv hne
        exact RV.ibs (g := g.alloc w.heap.size (.box s) 0) rfl rfl rfl rfl (fun s' off hx => absurd hx (hne s' off)) h
  · simp only[AState.set,AState.setBox,AState.drop] at hq
    by_cases e2 : q = s
    · subst e2
      rw [if_pos rfl] at hq; cases hq
      refine ⟨us, e, (0, 0), ?_, (.inl rfl), by simp [Gh.newBox, Gh.alloc], by simp [Gh.newBox, Gh.alloc], hcs⟩
      simp only[Gh.newBox,if_true]; exact heap_alloc_self _ _
    · rw [if_neg e2] at hq
      obtain ⟨us', e', fz, h1, h2, h3, h4, h5⟩ := hR'.boxes q ds hq
      have hib : (g.newBox w.heap.size s).ib q = g.ib q := by simp [Gh.newBox, e2]
      refine ⟨us', e', fz, by rw [hib]; exact h1, h2, by rw [hib]; exact h3, by rw [hib]; exact h4, ?_⟩
      exact RVs.mono (g := g.alloc w.heap.size (.box s) 0) (g' := g.newBox w.heap.size s) ⟨fun _ _ _ h => h, Nat.le_refl _, fun _ _ => rfl⟩ _ _ _ (fun j b hb => ⟨hb, rfl, rfl⟩) h5
  · refine ⟨hR'.heap.nh, fun id o ho => ?_, hR'.heap.valid⟩
    exact RObj.mono (g := g.alloc w.heap.size (.box s) 0) (g' := g.newBox w.heap.size s) ⟨fun _ _ _ h => h, Nat.le_refl _, fun _ _ => rfl⟩ (by rw [hR'.heap.nh]; exact (List.getElem?_eq_some_iff.1 ho).1) (fun b hb => ⟨hb, rfl, rfl⟩) (fun p b hb => ⟨hb, rfl, rfl⟩) (hR'.heap.obj id o ho)
theorem eff_alloc (hR : Rel n S g a w) {t : TypeId} {zs : List AVal} {it : TypeInfo} {z : Value} {s : Nat} (ho : o.op = .alloc t) (hdst : o.dst = some s) (hs : s < n) (hit : P.info? t = some it) (hz : it.zero = some z)
    (hzs : cvs z.cells.toList zs = true) {K : AState → Prop} (h : K (((S.drop s).setBox s (some zs)).set s (.box s 0))) (hn : Goes n g w K next) : o.wp P a w next Q := by
  obtain ⟨r1, r2⟩ := hR.newBox hs (us := z.cells) (e := t) (cs := zs) (RVs.of_cvs hzs)
  refine wp_value (u := .pointer (some ⟨w.heap.size, 0, none⟩)) (w' := w.alloc (.cells z.cells t)) ?_ ?_
  · simp [execOp, ho, Instr.alloc, zeroValue, typeInfo, hit, hz, newVar, newRow]
  · rw [hdst]; exact hn _ _ _ _ h r1 r2
def pth (x : AVal) (i : Nat) : List Nat := match x with | .agg _ => [i] | _ => []
theorem RVc.one {q : Ow} {x : AVal} {v : Value} (h : RVc g w q x v) (hs : storC x = true) : v.oneCell' = true := by
  cases x <;> try (simp [storC] at hs; done)
  case lst o xs =>
    cases o <;> simp only[RVc,RI] at h <;> first | (obtain ⟨A, c, us, rfl, _⟩ := h; rfl) | (obtain ⟨A, us, rfl, _⟩ := h; rfl)
  all_goals exact RI.one (x := _) (by simpa [RVc] using h) hs
theorem RVs.ones {own : Nat → Ow} : ∀ {xs : List AVal} {i : Nat} {us : List Value}, RVs g w own i xs us → xs.all storC = true → ∀ c ∈ us, c.oneCell' = true
  | [], _, us, h, _ => by simp [RVs] at h; simp [h]
  | x :: xs, i, us, h, hs => by
    simp only[RVs] at h
    obtain ⟨u, us', rfl, h1, h2⟩ := h
    simp only[List.all_cons,Bool.and_eq_true] at hs
    intro c hc
    simp only[List.mem_cons] at hc
    rcases hc with rfl | hc
    · exact h1.one hs.1
    · exact RVs.ones h2 hs.2 c hc
theorem RV.cell {own : List Nat → Ow} {x : AVal} {v : Value} (h : RV g w own x v) (hs : storC x = true) : RVc g w (own []) x v := by
  cases x <;> first | exact h | simp [storC] at hs
theorem storable_cases {x : AVal} (hs : storable x = true) : (∃ cs, x = .agg cs ∧ cs.all storC = true) ∨ (storC x = true ∧ x.cells = [x] ∧ ∀ i, pth x i = []) := by
  cases x <;> first | exact .inl ⟨_, rfl, hs⟩ | exact .inr ⟨hs, rfl, fun _ => rfl⟩
theorem RV.cells {own : List Nat → Ow} {x : AVal} {v : Value} (h : RV g w own x v) (hs : storable x = true) :
    RVs g w (fun i => own (pth x i)) 0 x.cells v.cells.toList ∧ ∀ c ∈ v.cells.toList, c.oneCell' = true := by
  rcases storable_cases hs with ⟨cs, rfl, hcs⟩ | ⟨h0, h1, h2⟩
  · simp only[RV,RV1] at h
    obtain ⟨us, rfl, h⟩ := h
    exact ⟨h, h.ones hcs⟩
  · have hc := h.cell h0
    have ho := hc.one h0
    have hv : v.cells = #[v] := by cases v <;> first | rfl | simp [Value.oneCell'] at ho
    rw [hv, h1]
    refine ⟨?_, by simpa using ho⟩
    simp only[h2,RVs]
    exact ⟨v, [], rfl, hc, rfl⟩
def renStore (t : Nat) (x : AVal) (target : Nat → Ow) : Ow → Ow
  | .slot t' p => if t' = t then (match x, p with
    | .agg _, [i] => target i
    | .agg _, p => .slot t' p
    | _, [] => target 0
    | _, p => .slot t' p) else .slot t' p
  | o => o
theorem Calm.renStore (t : Nat) (x : AVal) (target : Nat → Ow) : Calm (renStore t x target) := ⟨rfl, rfl, fun _ => rfl, fun _ _ => rfl, fun _ => rfl, fun _ _ => rfl⟩
theorem renStore_pth {t : Nat} {x : AVal} {target : Nat → Ow} {i : Nat} (hi : i < x.cells.length) : renStore t x target (.slot t (pth x i)) = target i := by
  cases x <;> simp only[renStore,pth,if_true] <;> (simp [AVal.cells] at hi; subst hi; rfl)
theorem renStore_other {t u : Nat} (h : u ≠ t) {x : AVal} {target : Nat → Ow} {p : List Nat} : renStore t x target (.slot u p) = .slot u p := by simp [renStore, h]
theorem RVs.mono' {g g' : Gh} {w w' : World} (hs : Stb g w g' w') {own own' : Nat → Ow} {xs : List AVal} {i : Nat} {us : List Value} (hk : ∀ j, j < xs.length → Keep g w g' w' (own (i + j)) (own' (i + j))) (h : RVs g w own i xs us) : RVs g' w' own' i xs us := by
  refine RVs.of_get h.length fun j x u hx hu => ?_
  obtain ⟨u', h1, h2⟩ := h.get j x hx
  rw [h1] at hu; cases hu
  exact RVc.mono hs (hk j (List.getElem?_eq_some_iff.1 hx).1) _ _ h2

theorem flc_remc (x : AVal) : flc (remc x) = true := by
  cases x <;> first | rfl | (rename_i o xs; cases o <;> rfl)
theorem Rel.takeStore (hR : Rel n S g a w) (t : Nat) (target : Nat → Ow) (hs : storable (S.env t) = true) :
    Rel n (S.set t (remV (S.env t))) (g.ren (renStore t (S.env t) target)) a w ∧ Evo g w (g.ren (renStore t (S.env t) target)) w ∧
      RVs (g.ren (renStore t (S.env t) target)) w target 0 (S.env t).cells (a.tmps.getD t undef).cells.toList ∧ ∀ c ∈ (a.tmps.getD t undef).cells.toList, c.oneCell' = true := by
  obtain ⟨h1, h2⟩ := (hR.env t).cells hs
  refine ⟨⟨hR.size, hR.defers, fun u => ?_, fun s cs hq => (hR.boxes s cs hq).ren (.renStore ..), hR.heap.ren (.renStore ..)⟩, Evo.ren rfl rfl, RVs.mono' Stb.ren (fun j hj => Keep.ren (by simpa using renStore_pth hj)) h1, h2⟩
  simp only[AState.set]
  by_cases e : u = t
  · rw [if_pos e]; subst e
    have hr := (hR.env u).rem (own' := .slot u)
    -- what is left holds nothing
    have hfl : flv (remV (S.env u)) = true ∨ ∃ s off, remV (S.env u) = .box s off := by
      cases hx : S.env u <;> simp only[remV] <;> first
        | exact .inr ⟨_, _, rfl⟩
        | (left; rfl)
        | (left; rename_i o xs; cases o <;> rfl)
        | (left; simp only[flv,fl1,List.all_map,List.all_eq_true]; exact fun c _ => flc_remc c)
    rcases hfl with hfl | ⟨s, off, hb⟩
    · have h3 := RT_rdv hr
      have hid : rdv (remV (S.env u)) = remV (S.env u) := by
        have hc : ∀ c : AVal, rdc (remc c) = remc c := by intro c; cases c <;> first | rfl | (rename_i o xs; cases o <;> rfl)
        cases hx : S.env u <;> simp only[remV] <;> first
          | rfl
          | (rename_i o xs; cases o <;> rfl)
          | (simp only[rdv,rd1,List.map_map]; congr 1; apply List.map_congr_left; intro c _; exact hc c)
      rw [hid] at h3
      refine RV.of_RT hfl ?_
      unfold RT at h3 ⊢
      split at h3
      · exact h3
      · exact RI.mono Stb.ren _ _ h3
    · rw [hb] at hr ⊢; exact hr
  · rw [if_neg e]
    exact RV.mono Stb.ren (fun p => Keep.ren (renStore_other e)) _ _ (fun _ _ _ => rfl) (hR.env u)
theorem Rel.takeOpn (hR : Rel n S g a w) {x : Operand} {y : AOpn} (hx : opn x y = true) (target : Nat → Ow) (hs : storable (S.full y) = true) :
    ∃ g', Rel n (S.takeT y) g' a w ∧ Evo g w g' w ∧ RVs g' w target 0 (S.full y).cells (a.eval x).cells.toList ∧ (∀ c ∈ (a.eval x).cells.toList, c.oneCell' = true) ∧ g'.fr = g.fr ∧ g'.io = g.io ∧ g'.ib = g.ib ∧ g'.nh = g.nh ∧
      ∀ q, (∀ t p, q ≠ .slot t p) → ∀ b, g.ow b = q → g'.ow b = q := by
  cases y with
  | c v =>
    rcases RV.of_opn hR hx with ⟨t, h1, _⟩ | ⟨_, h2⟩
    · cases h1
    · obtain ⟨h3, h4⟩ := (h2 (fun p => .no)).cells hs
      have h5 : RVs g w target 0 (S.full (.c v)).cells (a.eval x).cells.toList := by
        obtain ⟨h6, _⟩ := (h2 (fun p => match p with | [i] => target i | _ => target 0)).cells hs
        refine RVs.of_get h6.length fun j x u hx hu => ?_
        obtain ⟨u', q1, q2⟩ := h6.get j x hx
        rw [q1] at hu; cases hu
        have hj := (List.getElem?_eq_some_iff.1 hx).1
        cases hf : S.full (.c v) <;> rw [hf] at q2 hj <;> simp only[pth,AVal.cells,List.length_singleton] at q2 hj ⊢ <;> first
          | simpa using q2
          | (obtain rfl : j = 0 := by omega
             simpa using q2)
      exact ⟨g, hR, .refl g w, h5, h4, rfl, rfl, rfl, rfl, fun _ _ _ h => h⟩
  | t m =>
    have hxm : x = .tmp m := by unfold opn at hx; split at hx <;> simp_all
    subst hxm
    obtain ⟨h1, h2, h3, h4⟩ := hR.takeStore m target hs
    refine ⟨_, h1, h2, h3, h4, rfl, rfl, rfl, rfl, fun q hq b hb => ?_⟩
    simp only[Gh.ren,hb]
    cases q <;> first | rfl | exact absurd rfl (hq _ _)
end
end Go.Ge
set_option linter.unusedSimpArgs false
set_option linter.unusedVariables false
namespace Go.Ge
section
variable {P : Program} {n : Nat} {S : AState} {g : Gh} {a : Act} {w : World} {o : Oper} {next : Act → World → Prop} {Q : Exit → Act → World → Prop}

theorem RVs.any {target : Nat → Ow} {x : AVal} {v : Value} (h : ∀ own, RV g w own x v) (hs : storable x = true) : RVs g w target 0 x.cells v.cells.toList ∧ ∀ c ∈ v.cells.toList, c.oneCell' = true := by
  obtain ⟨h6, h7⟩ := (h (fun p => match p with | [i] => target i | _ => target 0)).cells hs
  refine ⟨RVs.of_get h6.length fun j x' u hx hu => ?_, h7⟩
  obtain ⟨u', q1, q2⟩ := h6.get j x' hx
  rw [q1] at hu; cases hu
  have hj := (List.getElem?_eq_some_iff.1 hx).1
  rcases storable_cases hs with ⟨cs, rfl, _⟩ | ⟨_, h1, h2⟩
  · simpa [pth] using q2
  · rw [h1] at hj
    obtain rfl : j = 0 := by simpa using hj
    simpa [h2] using q2
theorem opn_all {x : Operand} {y : AOpn} (hR : Rel n S g a w) (hx : opn x y = true) (own : List Nat → Ow) : RV g w own (S.rd y) (a.eval x) := RV.of_RT (rd_fl S y) (RT.of_opn hR hx)

theorem newBox_keep (hv : ∀ b, w.heap.size ≤ b → g.ow b = .no) {s : Nat} {obj : Obj} {q : Ow} (hq : q ≠ .no) : Keep g w (g.newBox w.heap.size s) (w.alloc obj) q q := by
  intro b hb
  have : b ≠ w.heap.size := fun e => hq (by rw [← hb, hv b (by omega)])
  exact ⟨by simp [Gh.newBox, Gh.alloc, this, hb], heap_alloc w obj b this, by simp [Gh.newBox, Gh.alloc, this]⟩
theorem newBox_stb {s : Nat} {obj : Obj} (hv : ∀ b, w.heap.size ≤ b → g.ow b = .no) : Stb g w (g.newBox w.heap.size s) (w.alloc obj) := by
  have := (Fresh.alloc (g := g) (w := w) hv obj (.box s) 0).evo.stb
  exact ⟨this.st, this.nh, this.io⟩
theorem run_box {e : TypeId} {x : Operand} (ho : o.op = .box e x) : (execOp a.eval o).run P w = .ok (.value (.pointer (some ⟨w.heap.size, 0, none⟩))) (w.alloc (.cells (a.eval x).cells e)) := by
  simp [execOp, ho, Instr.box, newVar, newRow]
theorem eff_bxT (hR : Rel n S g a w) {e : TypeId} {x : Operand} {y : AOpn} {s : Nat} (ho : o.op = .box e x) (hx : opn x y = true) (hdst : o.dst = some s) (hs : s < n) (hst : storable (S.full y) = true) {K : AState → Prop}
    (h : K ((((S.takeT y).drop s).setBox s (some (S.full y).cells)).set s (.box s 0))) (hn : Goes n g w K next) : o.wp P a w next Q := by
  obtain ⟨g1, h1, h2, h3, h4, _⟩ := hR.takeOpn hx (fun i => .boxc s [i]) hst
  obtain ⟨r1, r2⟩ := h1.newBox hs (us := (a.eval x).cells) (e := e) (cs := (S.full y).cells) (RVs.mono (newBox_stb h1.heap.valid) _ _ _ (fun j => newBox_keep h1.heap.valid (by simp)) h3)
  refine wp_value (run_box ho) ?_
  rw [hdst]; exact hn _ _ _ _ h r1 (h2.trans r2)
theorem eff_bx (hR : Rel n S g a w) {e : TypeId} {x : Operand} {y : AOpn} {s : Nat} (ho : o.op = .box e x) (hx : opn x y = true) (hdst : o.dst = some s) (hs : s < n) (hst : storable (S.rd y) = true) {K : AState → Prop}
    (h : K (((S.drop s).setBox s (some (S.rd y).cells)).set s (.box s 0))) (hn : Goes n g w K next) : o.wp P a w next Q := by
  obtain ⟨h3, h4⟩ := RVs.any (target := fun i => .boxc s [i]) (opn_all hR hx) hst
  obtain ⟨r1, r2⟩ := hR.newBox hs (us := (a.eval x).cells) (e := e) (cs := (S.rd y).cells) (RVs.mono (newBox_stb hR.heap.valid) _ _ _ (fun j => newBox_keep hR.heap.valid (by simp)) h3)
  refine wp_value (run_box ho) ?_
  rw [hdst]; exact hn _ _ _ _ h r1 r2

theorem RVs.fillO {own : Nat → Ow} {cs new : List AVal} {us vs : List Value} {off : Nat} (h : RVs g w own 0 cs us) (hn : RVs g w (fun i => own (off + i)) 0 new vs) (hle : off + new.length ≤ cs.length) :
    RVs g w own 0 (fillV cs off new) (us.take off ++ vs ++ us.drop (off + vs.length)) := by
  have hl := h.length
  have hl2 := hn.length
  have hlen : (us.take off ++ vs ++ us.drop (off + vs.length)).length = (fillV cs off new).length := by simp [fillV]; omega
  refine RVs.of_get hlen fun j x u hx hu => ?_
  simp only[fillV] at hx
  rcases Nat.lt_or_ge j off with hj | hj
  · rw [List.append_assoc, List.getElem?_append_left (by simp; omega), List.getElem?_take_of_lt hj] at hx hu
    obtain ⟨u', h1, h2⟩ := h.get j x hx
    rw [h1] at hu; cases hu; exact h2
  · rcases Nat.lt_or_ge j (off + new.length) with hj2 | hj2
    · rw [List.append_assoc, List.getElem?_append_right (by simp; omega), List.getElem?_append_left (by simp; omega)] at hx hu
      have e1 : j - (cs.take off).length = j - off := by simp; omega
      have e2 : j - (us.take off).length = j - off := by simp; omega
      rw [e1] at hx; rw [e2] at hu
      obtain ⟨u', h1, h2⟩ := hn.get _ x hx
      rw [h1] at hu; cases hu
      have e3 : off + (0 + (j - off)) = 0 + j := by omega
      simp only[e3] at h2; exact h2
    · rw [List.getElem?_append_right (by simp; omega), List.getElem?_drop] at hx hu
      have e1 : off + new.length + (j - (cs.take off ++ new).length) = j := by simp; omega
      have e2 : off + vs.length + (j - (us.take off ++ vs).length) = j := by simp; omega
      rw [e1] at hx; rw [e2] at hu
      obtain ⟨u', h1, h2⟩ := h.get j x hx
      rw [h1] at hu; cases hu; exact h2
theorem Gh.alloc_self (g : Gh) (b : Nat) : g.alloc b (g.ow b) (g.fr b) = g := by
  cases g; simp only[Gh.alloc,Gh.mk.injEq,and_true]
  constructor <;> (funext c; by_cases h : c = b <;> simp [h])
theorem Rel.writeBox (hR : Rel n S g a w) {s off : Nat} {cs new : List AVal} {vs : List Value} (hs : S.boxes s = some cs) (hn : RVs g w (fun i => .boxc s [off + i]) 0 new vs) (hle : off + new.length ≤ cs.length) :
    Rel n (S.setBox s (some (fillV cs off new))) g a (w.setCells (g.ib s) off vs) ∧ Evo g w g (w.setCells (g.ib s) off vs) ∧
      (∀ j, j < vs.length → (w.cell? ⟨g.ib s, off + j, none⟩).isSome = true) ∧ ∀ j, j < vs.length → w.frozen? ⟨g.ib s, off + j, none⟩ = false := by
  obtain ⟨us, e, fz, h1, h2, h3, h4, h5⟩ := hR.boxes s cs hs
  have hl5 := h5.length
  have hln := hn.length
  have hle' : off + vs.length ≤ us.size := by simp at hl5; omega
  have hevo := Evo.write (g := g) (w := w) (vs := vs) h1 hle' (by omega) (by rw [h3]; simp) (by rw [h3]; simp) (g.ow (g.ib s)) (g.fr (g.ib s)) (Nat.le_refl _)
  rw [Gh.alloc_self] at hevo
  have hkeep : ∀ q, q ≠ .box s → Keep g w g (w.setCells (g.ib s) off vs) q q := by
    intro q hq
    have := Keep.write (g := g) (w := w) (b := g.ib s) (o := off) (vs := vs) (q' := q) (q := g.ow (g.ib s)) (f := g.fr (g.ib s)) (by rw [h3]; exact fun e => hq e.symm)
    rwa [Gh.alloc_self] at this
  refine ⟨⟨hR.size, hR.defers, fun t => RV.mono hevo.stb (fun p => hkeep _ (by simp)) _ _ (fun _ _ _ => rfl) (hR.env t), fun q ds hq => ?_, ⟨hR.heap.nh, fun id ob hob => ?_, fun b hb => ?_⟩⟩, hevo, fun j hj => ?_, fun j hj => ?_⟩
  · simp only[AState.setBox] at hq
    by_cases e2 : q = s
    · subst e2
      rw [if_pos rfl] at hq; cases hq
      refine ⟨putArr us off vs, e, fz, setCells_block vs off w us h1 hle', by rw [putArr_size hle']; exact h2, h3, h4, ?_⟩
      have := h5.fillO (off := off) hn hle
      simp only[putArr]
      exact RVs.mono hevo.stb _ _ _ (fun j => hkeep _ (by simp)) this
    · rw [if_neg e2] at hq
      exact RBox.mono hevo.stb rfl (hkeep _ (by simp; exact e2)) (fun p => hkeep _ (by simp)) (hR.boxes q ds hq)
  · exact RObj.mono hevo.stb (by rw [hR.heap.nh]; exact (List.getElem?_eq_some_iff.1 hob).1) (hkeep _ (by simp)) (fun p => hkeep _ (by simp)) (hR.heap.obj id ob hob)
  · rw [setCells_size] at hb; exact hR.heap.valid b hb
  · rw [cell_of_block h1]; simp; omega
  · simp only[World.frozen?,h1]
    have := h2.at (off + j) (by omega)
    simpa using this
theorem Rel.writeObj (hR : Rel n S g a w) {id off : Nat} {cs new : List AVal} {vs : List Value} (hs : S.heap[id]? = some (.cells cs)) (hn : RVs g w (fun i => .objc id [off + i]) 0 new vs) (hle : off + new.length ≤ cs.length) :
    Rel n { S with heap := S.heap.set id (.cells (fillV cs off new)) } g a (w.setCells (g.io id).1 ((g.io id).2 + off) vs) ∧ Evo g w g (w.setCells (g.io id).1 ((g.io id).2 + off) vs) ∧
      (∀ j, j < vs.length → (w.cell? ⟨(g.io id).1, (g.io id).2 + off + j, none⟩).isSome = true) ∧ ∀ j, j < vs.length → w.frozen? ⟨(g.io id).1, (g.io id).2 + off + j, none⟩ = false := by
  by_cases hne : cs = []
  · subst hne
    have hnew : new = [] := List.eq_nil_of_length_eq_zero (by simp at hle; simp [hle])
    subst hnew
    obtain rfl : vs = [] := by simpa [RVs] using hn
    have e1 : fillV [] off [] = ([] : List AVal) := by simp [fillV]
    have e2 : S.heap.set id (.cells []) = S.heap := by
      obtain ⟨h1, h2⟩ := List.getElem?_eq_some_iff.1 hs
      rw [← h2]; exact List.set_getElem_self h1
    rw [e1, e2]
    exact ⟨hR, .refl g w, by simp, by simp⟩
  obtain ⟨cur, e, fz, us, h1, h2, h3, h4, hz, h5, h6⟩ := hR.heap.obj id _ hs hne
  have hl5 := h6.length
  have hln := hn.length
  have hidlt : id < S.heap.length := (List.getElem?_eq_some_iff.1 hs).1
  have hle' : (g.io id).2 + off + vs.length ≤ cur.size := by omega
  have hevo := Evo.write (g := g) (w := w) (vs := vs) h1 hle' (by omega) (by rw [h3]; simp) (by rw [h3]; simp) (g.ow (g.io id).1) (g.fr (g.io id).1) (Nat.le_refl _)
  rw [Gh.alloc_self] at hevo
  have hkeep : ∀ q, q ≠ .obj id → Keep g w g (w.setCells (g.io id).1 ((g.io id).2 + off) vs) q q := by
    intro q hq
    have := Keep.write (g := g) (w := w) (b := (g.io id).1) (o := (g.io id).2 + off) (vs := vs) (q' := q) (q := g.ow (g.io id).1) (f := g.fr (g.io id).1) (by rw [h3]; exact fun e => hq e.symm)
    rwa [Gh.alloc_self] at this
  refine ⟨⟨hR.size, hR.defers, fun t => RV.mono hevo.stb (fun p => hkeep _ (by simp)) _ _ (fun _ _ _ => rfl) (hR.env t),
    fun q ds hq => RBox.mono hevo.stb rfl (hkeep _ (by simp)) (fun p => hkeep _ (by simp)) (hR.boxes q ds hq), ⟨by simpa using hR.heap.nh, fun id' ob hob => ?_, fun b hb => ?_⟩⟩, hevo, fun j hj => ?_, fun j hj => ?_⟩
  · by_cases e2 : id' = id
    · subst e2
      simp only[List.getElem?_set,if_true,if_pos hidlt] at hob
      cases hob
      have hm := h6.fillO (off := off) hn hle
      have hml := hm.length
      have hlf : (fillV cs off new).length = cs.length := by simp [fillV]; omega
      refine fun _ => ⟨putArr cur ((g.io id').2 + off) vs, e, fz, _, setCells_block vs _ w cur h1 hle', by rw [putArr_size hle']; exact h2, h3, h4, ?_, fun j u hj => ?_, RVs.mono hevo.stb _ _ _ (fun j => hkeep _ (by simp)) hm⟩
      · rw [putArr_size hle']; omega
      · rcases Nat.lt_or_ge j off with hj1 | hj1
        · rw [putArr_out hle' (.inl (by omega))]
          rw [List.append_assoc, List.getElem?_append_left (by simp; omega), List.getElem?_take_of_lt hj1] at hj
          exact h5 j u hj
        · rcases Nat.lt_or_ge j (off + vs.length) with hj2 | hj2
          · obtain ⟨k, rfl⟩ : ∃ k, j = off + k := ⟨j - off, by omega⟩
            rw [← Nat.add_assoc, putArr_in hle' (by omega)]
            rw [List.append_assoc, List.getElem?_append_right (by simp; omega), List.getElem?_append_left (by simp; omega)] at hj
            have e1 : off + k - (us.take off).length = k := by simp; omega
            rwa [e1] at hj
          · rw [putArr_out hle' (.inr (by omega))]
            rw [List.getElem?_append_right (by simp; omega), List.getElem?_drop] at hj
            have e1 : off + vs.length + (j - (us.take off ++ vs).length) = j := by simp; omega
            rw [e1] at hj
            exact h5 j u hj
    · rw [List.getElem?_set_ne (fun e => e2 e.symm)] at hob
      exact RObj.mono hevo.stb (by rw [hR.heap.nh]; exact (List.getElem?_eq_some_iff.1 hob).1) (hkeep _ (by simp; exact e2)) (fun p => hkeep _ (by simp)) (hR.heap.obj id' ob hob)
  · rw [setCells_size] at hb; exact hR.heap.valid b hb
  · rw [cell_of_block h1]; simp; omega
  · simp only[World.frozen?,h1]
    have := h2.at ((g.io id).2 + off + j) (by omega)
    simpa using this
end
end Go.Ge
set_option linter.unusedSimpArgs false
set_option linter.unusedVariables false
namespace Go.Ge
section
variable {P : Program} {n : Nat} {S : AState} {g : Gh} {a : Act} {w : World} {o : Oper} {next : Act → World → Prop} {Q : Exit → Act → World → Prop}

theorem run_storeAt' {ty : TypeId} {b o : Nat} {v : Value} (hi : (P.info? ty).map (·.size) = some v.cells.toList.length) (h1 : ∀ j, j < v.cells.toList.length → (w.cell? ⟨b, o + j, none⟩).isSome = true)
    (h2 : ∀ j, j < v.cells.toList.length → w.frozen? ⟨b, o + j, none⟩ = false) (h3 : ∀ c ∈ v.cells.toList, c.oneCell' = true) :
    (Instr.storeAt ty (.pointer (some ⟨b, o, none⟩)) v).run P w = .ok () (w.setCells b o v.cells.toList) := by
  have := run_storeCells_cells (P := P) b o v.cells.toList 0 w (by simpa using h1) (by simpa using h2) h3
  obtain ⟨i, hi1, hi2⟩ := Option.map_eq_some_iff.1 hi
  simp only[Nat.add_zero] at this
  simp only[Array.length_toList] at hi2
  simp [Instr.storeAt, Instr.sureAddr, storeVar, sizeOf, typeInfo, hi1, hi2, this]

theorem eff_store (hR : Rel n S g a w) {t : TypeId} {p x : Operand} {p' x' : AOpn} {sz : Nat} (ho : o.op = .store t p x) (hp : opn p p' = true) (hx : opn x x' = true) (hdst : o.dst = none) (hsz : szT P t = some sz)
    (hst : storable (S.full x') = true) {K : AState → Prop} (h : storeV (S.takeT x') (S.rd p') sz (S.full x').cells K) (hn : Goes n g w K next) : o.wp P a w next Q := by
  have hpv := RT.of_opn hR hp
  have hrun : ∀ b off, a.eval p = .pointer (some ⟨b, off, none⟩) → (a.eval x).cells.toList.length = sz → (∀ j, j < (a.eval x).cells.toList.length → (w.cell? ⟨b, off + j, none⟩).isSome = true) →
      (∀ j, j < (a.eval x).cells.toList.length → w.frozen? ⟨b, off + j, none⟩ = false) → (∀ c ∈ (a.eval x).cells.toList, c.oneCell' = true) →
      (execOp a.eval o).run P w = .ok .skip (w.setCells b off (a.eval x).cells.toList) := by
    intro b off e1 e2 e3 e4 e5
    have := run_storeAt' (P := P) (w := w) (ty := t) (b := b) (o := off) (v := a.eval x) (by rw [← szT, hsz, e2]) e3 e4 e5
    simp [execOp, ho, e1, this]
  unfold storeV at h
  split at h
  · rename_i s off hrd
    split at h
    · rename_i old hs
      obtain ⟨h1, h2, h3⟩ := h
      obtain ⟨g', q1, q2, q3, q4, qf, qi, qb, qn, _⟩ := hR.takeOpn hx (fun i => .boxc s [off + i]) hst
      obtain ⟨r1, r2, r3, r4⟩ := q1.writeBox hs q3 (by omega)
      rw [hrd] at hpv
      simp only[RT] at hpv
      rw [← qb] at hpv
      have hl := q3.length
      refine wp_skip' (hrun _ _ hpv (by omega) r3 r4 q4) ?_
      rw [hdst]
      exact hn _ _ _ _ h3 r1 (q2.trans r2)
    · exact h.elim
  · rename_i id off hrd
    split at h
    · rename_i old hs
      obtain ⟨h1, h2, h3⟩ := h
      obtain ⟨g', q1, q2, q3, q4, qf, qi, qb, qn, _⟩ := hR.takeOpn hx (fun i => .objc id [off + i]) hst
      obtain ⟨r1, r2, r3, r4⟩ := q1.writeObj hs q3 (by omega)
      rw [hrd] at hpv
      simp only[RT,RI] at hpv
      have hpv := hpv.2
      rw [← qi] at hpv
      have hl := q3.length
      refine wp_skip' (hrun _ _ hpv (by omega) r3 r4 q4) ?_
      rw [hdst]
      exact hn _ _ _ _ h3 r1 (q2.trans r2)
    · exact h.elim
  · exact h.elim

def ren1 (q q' : Ow) : Ow → Ow := fun o => if o = q then q' else o
theorem ren1_other {q q' p : Ow} (h : p ≠ q) : ren1 q q' p = p := by simp [ren1, h]
theorem RVc.of_stor {own : List Nat → Ow} {x : AVal} {v : Value} (h : RVc g w (own []) x v) (hs : storC x = true) : RV g w own x v := by
  cases x <;> first | exact h | (simp [storC] at hs)
theorem RVs.taken {q q' : Ow} {own : Nat → Ow} {cs : List AVal} {us : List Value} {off : Nat} (h : RVs g w own 0 cs us) (hq : ∀ j, j < cs.length → j ≠ off → own j ≠ q) :
    RVs (g.ren (ren1 q q')) w own 0 (cs.set off (remc (cs.getD off .junk))) us := by
  refine RVs.of_get (by rw [h.length]; simp) fun j x u hx hu => ?_
  have hj : j < cs.length := by have := (List.getElem?_eq_some_iff.1 hx).1; simpa using this
  obtain ⟨u', h1, h2⟩ := h.get j cs[j] (by simp [hj])
  rw [h1] at hu; cases hu
  by_cases e : j = off
  · subst e
    simp only[List.getElem?_set,if_true,if_pos hj,Option.some.injEq] at hx
    subst hx
    have e1 : cs.getD j .junk = cs[j] := by simp [List.getD_eq_getElem?_getD, hj]
    rw [e1]
    exact RVc.of_RI (flc_remc _) (RI.mono Stb.ren _ _ (RI_remc h2))
  · rw [List.getElem?_set_ne (fun e2 => e e2.symm)] at hx
    simp [hj] at hx; subst hx
    exact RVc.mono Stb.ren (Keep.ren (ren1_other (by simpa using hq j hj e))) _ _ h2
theorem run_load1 {t : TypeId} {x : Operand} {b off : Nat} {u : Value} (ho : o.op = .load t x) (hv : a.eval x = .pointer (some ⟨b, off, none⟩)) (hu : (P.underlying t).isSome = true) (ht : aggT P t = false) (hi : szT P t = some 1)
    (hc : w.cell? ⟨b, off, none⟩ = some u) : (execOp a.eval o).run P w = .ok (.value u) w := by
  have hrun := run_loadVar' (P := P) (w := w) (t := t) (us := [u]) (b := b) (off := off) hu (by rw [← szT, hi]; rfl) (fun j v hj => by
    cases j with
    | zero => simp at hj; subst hj; exact hc
    | succ j => simp at hj)
  rw [ht] at hrun
  simp only[Bool.false_eq_true,if_false,List.head?_cons] at hrun
  simp [execOp, ho, Instr.loadAt, hv, Instr.sureAddr, hrun]
theorem ren1_evo {q q' : Ow} (h1 : q ≠ .no) (h2 : q ≠ .other) : Evo g w (g.ren (ren1 q q')) w := Evo.ren (ren1_other (fun e => h1 e.symm)) (ren1_other (fun e => h2 e.symm))

theorem eff_loadT (hR : Rel n S g a w) {t : TypeId} {x : Operand} {x' : AOpn} {d : Nat} (ho : o.op = .load t x) (hx : opn x x' = true) (hdst : o.dst = some d) (hd : d < n) (hu : (P.underlying t).isSome = true) (ht : aggT P t = false) (hi : szT P t = some 1)
    {K : AState → Prop} (h : match S.rd x' with
      | .box s off => match S.boxes s with
        | some cs => off < cs.length ∧ storC (cs.getD off .junk) = true ∧ K ((S.setBox s (some (cs.set off (remc (cs.getD off .junk))))).put o.dst (cs.getD off .junk))
        | none => False
      | .hp id off => match S.heap[id]? with
        | some (.cells cs) => off < cs.length ∧ storC (cs.getD off .junk) = true ∧ K ({ S with heap := S.heap.set id (.cells (cs.set off (remc (cs.getD off .junk)))) }.put o.dst (cs.getD off .junk))
        | _ => False
      | _ => False) (hn : Goes n g w K next) : o.wp P a w next Q := by
  have hpv := RT.of_opn hR hx
  split at h
  · rename_i s off hrd
    split at h
    · rename_i cs hs
      obtain ⟨h1, h2, h3⟩ := h
      obtain ⟨us, e, fz, b1, b2, b3, b4, b5⟩ := hR.boxes s cs hs
      have e1 : cs.getD off .junk = cs[off] := by simp [List.getD_eq_getElem?_getD, h1]
      obtain ⟨u, hu1, hu2⟩ := b5.get off cs[off] (by simp [h1])
      rw [hrd] at hpv; simp only[RT] at hpv
      refine wp_value (run_load1 ho hpv hu ht hi (by rw [cell_of_block b1]; simpa using hu1)) ?_
      rw [hdst] at h3 ⊢
      refine hn _ (g.ren (ren1 (.boxc s [off]) (.slot d []))) _ _ h3 ?_ (ren1_evo (by simp) (by simp))
      have base : Rel n (S.setBox s (some (cs.set off (remc (cs.getD off .junk))))) (g.ren (ren1 (.boxc s [off]) (.slot d []))) a w := by
        refine ⟨hR.size, hR.defers, fun t => RV.mono Stb.ren (fun p => Keep.ren (ren1_other (by simp))) _ _ (fun _ _ _ => rfl) (hR.env t), fun q ds hq => ?_, ⟨hR.heap.nh, fun id ob hob => ?_, fun b hb => ?_⟩⟩
        · simp only[AState.setBox] at hq
          by_cases e2 : q = s
          · subst e2
            rw [if_pos rfl] at hq; cases hq
            exact ⟨us, e, fz, b1, b2, by simp [Gh.ren, b3, ren1], b4, b5.taken (fun j _ hj => by simp; exact hj)⟩
          · rw [if_neg e2] at hq
            exact RBox.mono Stb.ren rfl (Keep.ren (ren1_other (by simp))) (fun p => Keep.ren (ren1_other (by simp; intro e; exact absurd e e2))) (hR.boxes q ds hq)
        · exact RObj.mono Stb.ren (by rw [hR.heap.nh]; exact (List.getElem?_eq_some_iff.1 hob).1) (Keep.ren (ren1_other (by simp))) (fun p => Keep.ren (ren1_other (by simp))) (hR.heap.obj id ob hob)
        · simp [Gh.ren, hR.heap.valid b hb, ren1]
      refine base.put (by intro k hk; cases hk; exact hd) ?_
      · intro k hk; cases hk
        rw [e1] at h2 ⊢
        exact RVc.of_stor (RVc.mono Stb.ren (Keep.ren (by simp [ren1])) _ _ hu2) h2
    · exact h.elim
  · rename_i id off hrd
    split at h
    · rename_i cs hs
      obtain ⟨h1, h2, h3⟩ := h
      obtain ⟨cur, e, fz, us, b1, b2, b3, b4, bz, b5, b6⟩ := hR.heap.obj id _ hs (by rintro rfl; simp at h1)
      have hidlt : id < S.heap.length := (List.getElem?_eq_some_iff.1 hs).1
      have e1 : cs.getD off .junk = cs[off] := by simp [List.getD_eq_getElem?_getD, h1]
      obtain ⟨u, hu1, hu2⟩ := b6.get off cs[off] (by simp [h1])
      rw [hrd] at hpv; simp only[RT,RI] at hpv
      refine wp_value (run_load1 ho hpv.2 hu ht hi (by rw [cell_of_block b1]; exact b5 off u hu1)) ?_
      rw [hdst] at h3 ⊢
      refine hn _ (g.ren (ren1 (.objc id [off]) (.slot d []))) _ _ h3 ?_ (ren1_evo (by simp) (by simp))
      have base : Rel n { S with heap := S.heap.set id (.cells (cs.set off (remc (cs.getD off .junk)))) } (g.ren (ren1 (.objc id [off]) (.slot d []))) a w := by
        refine ⟨hR.size, hR.defers, fun t => RV.mono Stb.ren (fun p => Keep.ren (ren1_other (by simp))) _ _ (fun _ _ _ => rfl) (hR.env t), fun q ds hq => ?_, ⟨hR.heap.nh.trans (by simp), fun id' ob hob => ?_, fun b hb => ?_⟩⟩
        · exact RBox.mono Stb.ren rfl (Keep.ren (ren1_other (by simp))) (fun p => Keep.ren (ren1_other (by simp))) (hR.boxes q ds hq)
        · by_cases e2 : id' = id
          · subst e2
            simp only[List.getElem?_set,if_true,if_pos hidlt] at hob
            cases hob
            exact fun _ => ⟨cur, e, fz, us, b1, b2, by simp [Gh.ren, b3, ren1], b4, bz, b5, b6.taken (fun j _ hj => by simp; exact hj)⟩
          · rw [List.getElem?_set_ne (fun e => e2 e.symm)] at hob
            exact RObj.mono Stb.ren (by rw [hR.heap.nh]; exact (List.getElem?_eq_some_iff.1 hob).1) (Keep.ren (ren1_other (by simp))) (fun p => Keep.ren (ren1_other (by simp; intro e; exact absurd e e2))) (hR.heap.obj id' ob hob)
        · simp [Gh.ren, hR.heap.valid b hb, ren1]
      refine base.put (by intro k hk; cases hk; exact hd) ?_
      · intro k hk; cases hk
        rw [e1] at h2 ⊢
        exact RVc.of_stor (RVc.mono Stb.ren (Keep.ren (by simp [ren1])) _ _ hu2) h2
    · exact h.elim
  · exact h.elim

def isNilS : Operand → Bool
  | .const (.slice none _ _) => true
  | _ => false
def isNilM : Operand → Bool
  | .const (.map none) => true
  | _ => false
def mapKE (P : Program) (t : TypeId) : Bool := match P.underlying t with | some (.map _ _) => true | _ => false
theorem eqGuard_slice {op : BinOp} {t : TypeId} {x y : Operand} {A B : Option Addr} {i j k l : Nat} : (eqGuard op t x y (.slice A i j) (.slice B k l)).run P w = .ok () w := by
  unfold eqGuard; simp
theorem eqGuard_map {op : BinOp} {t : TypeId} {x y : Operand} {A B : Option Nat} : (eqGuard op t x y (.map A) (.map B)).run P w = .ok () w := by
  unfold eqGuard; simp
theorem run_isnilS {neg : Bool} {t e : TypeId} {x y z : Operand} {ty : TypeId} {A : Option Addr} {i j : Nat} (ho : o.op = .binOp (if neg then .neq else .eql) t y z ty) (hyz : (y = x ∧ isNilS z = true) ∨ (z = x ∧ isNilS y = true))
    (ht : P.underlying t = some (.slice e)) (hx : a.eval x = .slice A i j) : (execOp a.eval o).run P w = .ok (.value (.bool (A.isNone != neg))) w := by
  have key : ∀ z, isNilS z = true → ∃ k l, a.eval z = .slice none k l := by
    intro z hz
    unfold isNilS at hz; split at hz
    · exact ⟨_, _, rfl⟩
    · cases hz
  rcases hyz with ⟨rfl, hz⟩ | ⟨rfl, hz⟩ <;> obtain ⟨k, l, hk⟩ := key _ hz
  · cases neg <;> simp [execOp, ho, hx, hk, eqGuard_slice, Lib.run_eql_slice_nil _ _ _ _ _ _ _ _ ht, run_neq_slice_nil_any _ _ _ _ _ _ _ _ ht]
  · cases neg <;> simp [execOp, ho, hx, hk, eqGuard_slice, run_eql_nil_slice _ _ _ _ _ _ _ _ ht, run_neq_nil_slice _ _ _ _ _ _ _ _ ht]
theorem run_isnilM {neg : Bool} {t k e : TypeId} {x y z : Operand} {ty : TypeId} {A : Option Nat} (ho : o.op = .binOp (if neg then .neq else .eql) t y z ty) (hyz : (y = x ∧ isNilM z = true) ∨ (z = x ∧ isNilM y = true))
    (ht : P.underlying t = some (.map k e)) (hx : a.eval x = .map A) : (execOp a.eval o).run P w = .ok (.value (.bool (A.isNone != neg))) w := by
  have key : ∀ z, isNilM z = true → a.eval z = .map none := by
    intro z hz
    unfold isNilM at hz; split at hz
    · rfl
    · cases hz
  rcases hyz with ⟨rfl, hz⟩ | ⟨rfl, hz⟩ <;> have hk := key _ hz
  · cases neg <;> simp [execOp, ho, hx, hk, eqGuard_map, run_eql_map_nil _ _ _ _ _ ht, run_neq_map_nil _ _ _ _ _ ht]
  · cases neg <;> simp [execOp, ho, hx, hk, eqGuard_map, run_eql_nil_map _ _ _ _ _ ht, run_neq_nil_map _ _ _ _ _ ht]
theorem ok_bool {b : Bool} (hv : ∀ b, w.heap.size ≤ b → g.ow b = .no) (h : (execOp a.eval o).run P w = .ok (.value (.bool b)) w) (own : List Nat → Ow) : Ok1 P (execOp a.eval o) g w own (.bool b) :=
  Ok1.same hv h (by simp [RT, RI]) rfl
theorem eff_isnilS (hR : Rel n S g a w) {neg : Bool} {t e : TypeId} {x y z : Operand} {x' : AOpn} {ty : TypeId} (ho : o.op = .binOp (if neg then .neq else .eql) t y z ty) (hx : opn x x' = true)
    (ht : P.underlying t = some (.slice e)) (hyz : (y = x ∧ isNilS z = true) ∨ (z = x ∧ isNilS y = true)) (hd : ∀ k, o.dst = some k → k < n)
    {K : AState → Prop} (h : isnilV false (S.rd x') (fun b => K (S.put o.dst (.bool (b != neg))))) (hn : Goes n g w K next) : o.wp P a w next Q := by
  have hpv := RT.of_opn hR hx
  have hS : ∀ A i j, a.eval x = .slice A i j → K (S.put o.dst (.bool (A.isNone != neg))) → o.wp P a w next Q :=
    fun A i j e hk => wp_ok1 hR hd (ok_bool hR.heap.valid (run_isnilS ho hyz ht e)) hk hn
  revert hpv h
  generalize S.rd x' = p
  intro h hpv
  unfold isnilV at h
  split at h
  · simp only[RT,RI] at hpv
    obtain ⟨A, c, us, e, hl, hus, hc, rfl, rfl⟩ := hpv
    exact hS _ _ _ e (by simpa using h.2)
  · simp only[RT,RI] at hpv
    obtain ⟨A, c, us, e, hl, hus, hc, _⟩ := hpv
    refine hS _ _ _ e (h.2 _ fun hx => ?_)
    obtain ⟨sz, _, hc2⟩ := hc
    obtain ⟨b, off, rfl, _⟩ := hc2 (by intro e; subst e; apply hx; have := hus.length; simpa using this.symm)
    rfl
  · simp only[RT,RI] at hpv
    obtain ⟨A, e, _, hA⟩ := hpv
    refine hS _ _ _ e (h.2 _ fun hx => ?_)
    obtain ⟨_, rfl⟩ := hA hx
    rfl
  · cases h.1
  · cases h.1
  · exact h.elim
theorem eff_isnilM (hR : Rel n S g a w) {neg : Bool} {t k e : TypeId} {x y z : Operand} {x' : AOpn} {ty : TypeId} (ho : o.op = .binOp (if neg then .neq else .eql) t y z ty) (hx : opn x x' = true)
    (ht : P.underlying t = some (.map k e)) (hyz : (y = x ∧ isNilM z = true) ∨ (z = x ∧ isNilM y = true)) (hd : ∀ k, o.dst = some k → k < n)
    {K : AState → Prop} (h : isnilV true (S.rd x') (fun b => K (S.put o.dst (.bool (b != neg))))) (hn : Goes n g w K next) : o.wp P a w next Q := by
  have hpv := RT.of_opn hR hx
  have hM : ∀ A, a.eval x = .map A → K (S.put o.dst (.bool (A.isNone != neg))) → o.wp P a w next Q :=
    fun A e hk => wp_ok1 hR hd (ok_bool hR.heap.valid (run_isnilM ho hyz ht e)) hk hn
  revert hpv h
  generalize S.rd x' = p
  intro h hpv
  unfold isnilV at h
  split at h
  · cases h.1
  · cases h.1
  · cases h.1
  · simp only[RT,RI] at hpv
    exact hM _ hpv (by simpa using h.2)
  · simp only[RT,RI] at hpv
    exact hM _ hpv.2 (by simpa using h.2)
  · exact h.elim
end
end Go.Ge
set_option linter.unusedSimpArgs false
set_option linter.unusedVariables false
namespace Go.Ge
section
variable {P : Program} {n : Nat} {S : AState} {g : Gh} {a : Act} {w : World} {o : Oper} {next : Act → World → Prop} {Q : Exit → Act → World → Prop}

theorem Rel.split (hR : Rel n S g a w) {t d : Nat} (hd : d < n) {ρ : Ow → Ow} (hρ : Calm ρ) (hρo : ∀ u p, u ≠ t → ρ (.slot u p) = .slot u p) {left taken : AVal} {u : Value}
    (hl : RV (g.ren ρ) w (.slot t) left (a.tmps.getD t undef)) (ht : RV (g.ren ρ) w (.slot d) taken u) :
    Rel n ((S.set t left).set d taken) (g.ren ρ) (a.put (some d) u) w := by
  refine ⟨by simpa [Act.put] using hR.size, hR.defers, fun v => ?_, fun s cs hs => (hR.boxes s cs hs).ren hρ, hR.heap.ren hρ⟩
  rw [tmps_put hR.size hd]
  simp only[AState.set]
  by_cases e : v = d
  · rw [if_pos e, if_pos e]; subst e; exact ht
  · rw [if_neg e, if_neg e]
    by_cases e2 : v = t
    · rw [if_pos e2]; subst e2; exact hl
    · rw [if_neg e2]
      exact RV.mono Stb.ren (fun p => Keep.ren (hρo v p e2)) _ _ (fun _ _ _ => rfl) (hR.env v)

theorem Cont.sub {A : Option Addr} {us : List Value} {sz : Nat} (h : Cont g w A us) (hsz : ∀ u ∈ us, u.cells.size = sz) (l : Nat) (A' : Option Addr) (hA : ∀ b off, A = some ⟨b, off, none⟩ → us.drop l ≠ [] → A' = some ⟨b, off + l * sz, none⟩) : Cont g w A' (us.drop l) := by
  have := h.slice l us.length sz hsz A' (fun b off e hne => hA b off e (by
    intro e2; apply hne; simp [e2]))
  rwa [List.take_of_length_le (by simp)] at this

def slT (t d : Nat) : Ow → Ow := ren1 (.slot t []) (.slot d [])
theorem Calm.slT (t d : Nat) : Calm (slT t d) := ⟨rfl, rfl, fun _ => rfl, fun _ _ => rfl, fun _ => rfl, fun _ _ => rfl⟩
theorem slT_self (t d : Nat) : slT t d (.slot t []) = .slot d [] := by simp [slT, ren1]
theorem slT_other (t d u : Nat) (p : List Nat) (h : u ≠ t) : slT t d (.slot u p) = .slot u p := by simp [slT, ren1, h]
theorem slT_no {t d : Nat} : Evo g w (g.ren (slT t d)) w := ren1_evo (by simp) (by simp)

theorem eff_sliceT (hR : Rel n S g a w) {ty e : TypeId} {t d sz : Nat} {lo : Option Operand} {lo' : Option AOpn} {it : TypeInfo} (ho : o.op = .slice ty (.tmp t) lo none none) (h1 : oopn lo lo' = true) (hdst : o.dst = some d) (hd : d < n)
    (ht : P.underlying ty = some (.slice e)) (hit : P.info? e = some it) (hsz : it.size = sz) {K : AState → Prop}
    (h : match S.env t, loV S.rd lo' with
      | .lst (.app sz') xs, some l => sz' = sz ∧ 0 ≤ l ∧ l ≤ xs.length ∧ K ((S.set t (.lst .sh xs)).put o.dst (.lst (.app sz) (xs.drop l.toNat)))
      | _, _ => False) (hn : Goes n g w K next) : o.wp P a w next Q := by
  split at h
  · rename_i sz' xs l henv hlo
    obtain ⟨rfl, c0, c1, hk⟩ := h
    have hv := hR.env t
    rw [henv] at hv
    simp only[RV,RV1,RVc] at hv
    obtain ⟨A, cap, us, ee, hlc, hus, hw, hcont, hsp⟩ := hv
    have hlen := hus.length
    have hb := bounds_ok (P := P) hR h1 (hi := none) (hi' := none) rfl true us.length cap (l := l) (h := us.length) hlo (by simp [hiV]) c0 (by omega) (by omega)
    have hsof : (sizeOf e).run P w = .ok sz' w := by simp [sizeOf, typeInfo, hit, hsz]
    have hrun : (execOp a.eval o).run P w = .ok (.value (.slice (if cap = l.toNat then A else A.map (·.add (l.toNat * sz'))) (us.length - l.toNat) (cap - l.toNat))) w := by
      have e1 : a.eval (.tmp t) = .slice A us.length cap := ee
      simp only[Int.toNat_natCast,Option.map_none] at hb
      simp [execOp, ho, Instr.sliceAt, Instr.slice, run_underlying ht, e1, hb, hsof]
    refine wp_value hrun ?_
    rw [hdst] at hk ⊢
    refine hn _ (g.ren (slT t d)) _ _ hk ?_ slT_no
    have hus' := RIs.mono (Stb.ren (ρ := slT t d)) _ _ hus
    refine hR.split hd (.slT t d) (slT_other t d) ?_ ?_
    · rw [ee]
      simp only[RV,RV1,RVc,RI]
      exact ⟨A, cap, us, rfl, hlc, hus', hcont.mono Stb.ren, trivial⟩
    · simp only[RV,RV1,RVc]
      have hk : (us.drop l.toNat).length = us.length - l.toNat := by simp
      refine ⟨_, cap - l.toNat, us.drop l.toNat, by rw [hk], by rw [hk]; omega, hus'.drop _, fun u hu => hw u (List.mem_of_mem_drop hu), ?_, ?_⟩
      · refine (hcont.mono Stb.ren).sub hw l.toNat _ ?_
        rintro b off rfl hne
        have : cap ≠ l.toNat := by
          intro e
          apply hne
          apply List.eq_nil_of_length_eq_zero
          rw [hk]; omega
        rw [if_neg this]
        simp [Addr.add_lit]
      · rcases hsp with hsp | ⟨b, off, cur, e', fz, q1, q2, q3, q4, q5, q6⟩
        · left; rw [hk]; omega
        · by_cases e : cap = l.toNat
          · left; rw [hk]; omega
          · right
            rw [if_neg e]
            have hml : (us.length - l.toNat) * sz' + l.toNat * sz' = us.length * sz' := by rw [← Nat.add_mul]; congr 1; omega
            have hmc : (cap - l.toNat) * sz' + l.toNat * sz' = cap * sz' := by rw [← Nat.add_mul]; congr 1; omega
            refine ⟨b, off + l.toNat * sz', cur, e', fz, by simp [q1, Addr.add_lit], by simp [Gh.ren, q2, slT_self], ?_, q4, by omega, q6⟩
            show g.fr b ≤ _
            rw [hk]; omega
  · exact h.elim

def exT (t i d : Nat) : Ow → Ow
  | .slot t' (i' :: p) => if t' = t ∧ i' = i then .slot d p else .slot t' (i' :: p)
  | o => o
theorem Calm.exT (t i d : Nat) : Calm (exT t i d) := ⟨rfl, rfl, fun _ => rfl, fun _ _ => rfl, fun _ => rfl, fun _ _ => rfl⟩
theorem exT_other (t i d u : Nat) (p : List Nat) (h : u ≠ t) : exT t i d (.slot u p) = .slot u p := by cases p <;> simp [exT, h]
theorem RVt.set {own own' : List Nat → Ow} {g' : Gh} : ∀ {vs : List AVal} {us : List Value} {k i : Nat}, RVt g w own k vs us → Stb g w g' w → (∀ j p, j ≠ k + i → Keep g w g' w (own (j :: p)) (own' (j :: p))) → i < vs.length →
    RVt g' w own' k (vs.set i .junk) us ∧ ∃ u, us[i]? = some u ∧ RV1 g w (fun p => own ((k + i) :: p)) (vs.getD i .junk) u
  | [], _, _, _, _, _, _, h => by simp at h
  | v :: vs, us, k, i, h, hs, hk, hi => by
    simp only[RVt] at h
    obtain ⟨u, us', rfl, h1, h2⟩ := h
    cases i with
    | zero =>
      refine ⟨?_, u, by simp, by simpa using h1⟩
      simp only[List.set_cons_zero,RVt]
      refine ⟨u, us', rfl, by simp [RV1, RVc, RI], ?_⟩
      have mono : ∀ (xs : List AVal) (i : Nat) (us : List Value), k < i → RVt g w own i xs us → RVt g' w own' i xs us := by
        intro xs
        induction xs with
        | nil => intro i us _ h; simpa [RVt] using h
        | cons x xs ih =>
          intro i us hlt h
          simp only[RVt] at h ⊢
          obtain ⟨u, us', e, h1, h2⟩ := h
          exact ⟨u, us', e, RV1.mono hs (fun p => hk i p (by omega)) x u h1, ih (i + 1) us' (by omega) h2⟩
      exact mono vs (k + 1) us' (by omega) h2
    | succ i =>
      obtain ⟨r1, u', r2, r3⟩ := RVt.set (i := i) h2 hs (fun j p hj => hk j p (by omega)) (by simpa using hi)
      refine ⟨?_, u', by simpa using r2, ?_⟩
      · simp only[List.set_cons_succ,RVt]
        exact ⟨u, us', rfl, RV1.mono hs (fun p => hk k p (by omega)) v u h1, r1⟩
      · have e : k + 1 + i = k + (i + 1) := by omega
        rw [e] at r3
        simpa using r3
theorem eff_extT (hR : Rel n S g a w) {t d i : Nat} (ho : o.op = .extract (.tmp t) i) (hdst : o.dst = some d) (hd : d < n) {K : AState → Prop}
    (h : match S.env t with
      | .tup vs => i < vs.length ∧ plainV (vs.getD i .junk) = true ∧ K ((S.set t (.tup (vs.set i .junk))).put o.dst (vs.getD i .junk))
      | _ => False) (hn : Goes n g w K next) : o.wp P a w next Q := by
  split at h
  · rename_i vs henv
    obtain ⟨h1, h2, hk⟩ := h
    have hv := hR.env t
    rw [henv] at hv
    simp only[RV] at hv
    obtain ⟨us, ee, hus⟩ := hv
    obtain ⟨r1, u, r2, r3⟩ := RVt.set (g' := g.ren (exT t i d)) (own' := .slot t) (i := i) hus Stb.ren (fun j p hj => Keep.ren (by
      have : j ≠ i := by omega
      simp [exT, this])) h1
    have hrun : (execOp a.eval o).run P w = .ok (.value u) w := by
      have e1 : a.eval (.tmp t) = .tuple us := ee
      have : us[i]? = some u := by simpa using r2
      simp [execOp, ho, e1, Instr.extract, this]
    refine wp_value hrun ?_
    rw [hdst] at hk ⊢
    refine hn _ (g.ren (exT t i d)) _ _ hk ?_ (Evo.ren rfl rfl)
    refine hR.split hd (.exT t i d) (exT_other t i d) ?_ ?_
    · rw [ee]
      simp only[RV]
      exact ⟨us, rfl, r1⟩
    · have r4 := RV1.mono (own' := .slot d) (Stb.ren (ρ := exT t i d)) (fun p => Keep.ren (by simp [exT])) _ _ r3
      unfold RV
      split
      · rename_i e; rw [e] at h2; cases h2
      · rename_i e; rw [e] at h2; cases h2
      · exact r4
  · exact h.elim

theorem freeze_block {b o : Nat} {cur : Array Value} {e : TypeId} {fz : Nat × Nat} (h : w.heap[b]? = some (.cells cur e fz)) (hu : Unfr cur.size fz) : ∃ fz', (w.freeze ⟨b, cur.size, none⟩ 1).heap[b]? = some (.cells cur e fz') ∧ Unfr cur.size fz' := by
  have hlt : b < w.heap.size := (Array.getElem?_eq_some_iff.1 h).1
  obtain ⟨lo, hi⟩ := fz
  refine ⟨if lo == hi then (cur.size, cur.size + 1) else (min lo cur.size, max hi (cur.size + 1)), ?_, ?_⟩
  · simp [World.freeze, Array.getElem?_modify, h]
  · rcases hu with hu | hu
    · simp only at hu; subst hu; simp [Unfr]
    · simp only at hu
      by_cases e2 : lo = hi
      · subst e2; simp [Unfr]
      · have : (lo == hi) = false := by simpa using e2
        rw [this]; simp only[Bool.false_eq_true,if_false,Unfr]; right; omega
theorem freeze_other {b k n' o : Nat} (hk : k ≠ b) : (w.freeze ⟨b, o, none⟩ n').heap[k]? = w.heap[k]? := by
  unfold World.freeze
  split
  · rfl
  · simp only[Array.getElem?_modify]
    rw [if_neg (fun e => hk e.symm)]
theorem freeze_size {b n' o : Nat} : (w.freeze ⟨b, o, none⟩ n').heap.size = w.heap.size := by
  unfold World.freeze; split <;> simp
theorem freeze_rest {b n' o : Nat} : (w.freeze ⟨b, o, none⟩ n').os = w.os ∧ (w.freeze ⟨b, o, none⟩ n').tape = w.tape ∧ (w.freeze ⟨b, o, none⟩ n').output = w.output := by
  unfold World.freeze; split <;> exact ⟨rfl, rfl, rfl⟩
theorem eff_str8 (hR : Rel n S g a w) {ty e : TypeId} {t d : Nat} (ho : o.op = .convert ty ty (.tmp t)) (hdst : o.dst = some d) (hd : d < n) (ht : P.underlying ty = some (.slice e)) (he : P.underlying e = some (.int .u8)) {K : AState → Prop}
    (h : match S.env t with
      | .lst (.uniq 1 c) xs => xs ≠ [] ∧ K ((S.set t .junk).put o.dst (.lst (.uniq 1 c) xs))
      | _ => False) (hn : Goes n g w K next) : o.wp P a w next Q := by
  split at h
  · rename_i cap xs henv
    obtain ⟨hne, hk⟩ := h
    have hv := hR.env t
    rw [henv] at hv
    simp only[RV,RV1,RVc] at hv
    obtain ⟨A, us, ee, hlc, hus, hw, hu⟩ := hv
    have hlen := hus.length
    have hpos : 0 < xs.length := List.length_pos_iff.2 hne
    obtain ⟨b, off, cur, e', fz, q1, q2, q3, q4, q5, q6, q7⟩ := hu.resolve_left (by omega)
    subst q1
    obtain ⟨fz', f1, f2⟩ := freeze_block (o := off) q4 q6
    have hrun : (execOp a.eval o).run P w = .ok (.value (.slice (some ⟨b, off, none⟩) us.length cap)) (w.freeze ⟨b, cur.size, none⟩ 1) := by
      have e1 : a.eval (.tmp t) = .slice (some ⟨b, off, none⟩) us.length cap := ee
      simp [execOp, ho, e1, convert, run_underlying ht, run_underlying he, markStringish, World.shape?, q4]
    refine wp_value hrun ?_
    rw [hdst] at hk ⊢
    have hb : ∀ k, g.ow k ≠ .slot t [] → k ≠ b := by rintro k hk2 rfl; exact hk2 q2
    obtain ⟨z1, z2, z3⟩ := freeze_rest (w := w) (b := b) (n' := 1) (o := cur.size)
    have hcell : ∀ k o', (w.freeze ⟨b, cur.size, none⟩ 1).cell? ⟨k, o', none⟩ = w.cell? ⟨k, o', none⟩ := by
      intro k o'
      by_cases e2 : k = b
      · subst e2; rw [cell_of_block f1, cell_of_block q4]
      · exact World.cell?_of_block (w := w) (freeze_other e2)
    have hevo : Evo g w (g.ren (slT t d)) (w.freeze ⟨b, cur.size, none⟩ 1) := by
      refine ⟨z1, z2, z3, by rw [freeze_size]; exact Nat.le_refl _, fun k hk2 ho2 => ?_, fun k _ => ⟨Nat.le_refl _, fun o' _ => hcell k o'⟩, Nat.le_refl _, fun _ _ => rfl⟩
      have := hb k (by rcases ho2 with ho2 | ho2 <;> rw [ho2] <;> simp)
      exact ⟨freeze_other this, rfl, by rcases ho2 with ho2 | ho2 <;> simp [Gh.ren, ho2, slT, ren1]⟩
    have hkeep : ∀ q, q ≠ .slot t [] → Keep g w (g.ren (slT t d)) (w.freeze ⟨b, cur.size, none⟩ 1) q q := by
      intro q hq k hk2
      have := hb k (by rw [hk2]; exact hq)
      exact ⟨by simp [Gh.ren, hk2, slT, ren1, hq], freeze_other this, rfl⟩
    refine hn _ (g.ren (slT t d)) _ _ hk ?_ hevo
    refine ⟨by simpa [Act.put] using hR.size, hR.defers, fun v => ?_, fun s cs hs => RBox.mono hevo.stb rfl (hkeep _ (by simp)) (fun p => hkeep _ (by simp)) (hR.boxes s cs hs),
      ⟨hR.heap.nh, fun id ob hob => RObj.mono hevo.stb (by rw [hR.heap.nh]; exact (List.getElem?_eq_some_iff.1 hob).1) (hkeep _ (by simp)) (fun p => hkeep _ (by simp)) (hR.heap.obj id ob hob), fun k hk2 => by
        rw [freeze_size] at hk2
        simp [Gh.ren, hR.heap.valid k hk2, slT, ren1]⟩⟩
    rw [tmps_put hR.size hd]
    simp only[AState.set,AState.put]
    by_cases e1 : v = d
    · rw [if_pos e1, if_pos e1]
      subst e1
      simp only[RV,RV1,RVc]
      exact ⟨_, us, rfl, hlc, RIs.mono hevo.stb _ _ hus, hw, .inr ⟨b, off, cur, e', fz', rfl, by simp [Gh.ren, q2, slT, ren1], q3, f1, q5, f2, q7⟩⟩
    · rw [if_neg e1, if_neg e1]
      by_cases e2 : v = t
      · rw [if_pos e2]; simp [RV, RV1, RVc, RI]
      · rw [if_neg e2]
        exact RV.mono hevo.stb (fun p => hkeep _ (by simp; intro e3; exact absurd e3 e2)) _ _ (fun _ _ _ => rfl) (hR.env v)
  · exact h.elim
end
end Go.Ge
set_option linter.unusedSimpArgs false
set_option linter.unusedVariables false
namespace Go.Ge
section
variable {P : Program} {n : Nat} {S : AState} {g : Gh} {a : Act} {w : World} {o : Oper} {next : Act → World → Prop} {Q : Exit → Act → World → Prop}

def flat (us : List Value) : List Value := us.flatMap fun u => u.cells.toList
theorem flat_length {sz : Nat} : ∀ {us : List Value}, (∀ u ∈ us, u.cells.size = sz) → (flat us).length = us.length * sz
  | [], _ => by simp [flat]
  | u :: us, h => by
    have := flat_length (us := us) fun v hv => h v (by simp [hv])
    have h1 := h u (by simp)
    simp only[flat,List.flatMap_cons,List.length_append,Array.length_toList,List.length_cons] at this ⊢
    rw [this, h1, Nat.add_mul, Nat.one_mul]; omega
theorem flat_append (us vs : List Value) : flat (us ++ vs) = flat us ++ flat vs := by simp [flat]
theorem flat_get {sz : Nat} : ∀ {us : List Value}, (∀ u ∈ us, u.cells.size = sz) → ∀ {i j : Nat} {u x : Value}, us[i]? = some u → u.cells[j]? = some x → (flat us)[i * sz + j]? = some x
  | [], _, i, j, u, x, hi, _ => by simp at hi
  | v :: us, h, i, j, u, x, hi, hj => by
    have h1 := h v (by simp)
    simp only[flat,List.flatMap_cons]
    cases i with
    | zero =>
      simp at hi; subst hi
      have hlt := (Array.getElem?_eq_some_iff.1 hj).1
      rw [List.getElem?_append_left (by simp; omega)]
      simpa using hj
    | succ i =>
      rw [List.getElem?_append_right (by simp [Nat.add_mul]; omega)]
      have e : (i + 1) * sz + j - v.cells.toList.length = i * sz + j := by simp [Nat.add_mul]; omega
      rw [e]
      exact flat_get (us := us) (fun v hv => h v (by simp [hv])) (by simpa using hi) hj
theorem flat_at {sz : Nat} : ∀ {us : List Value}, (∀ u ∈ us, u.cells.size = sz) → ∀ {k : Nat} {x : Value}, (flat us)[k]? = some x → ∃ i j u, us[i]? = some u ∧ u.cells[j]? = some x ∧ k = i * sz + j
  | [], _, k, x, hk => by simp [flat] at hk
  | v :: us, h, k, x, hk => by
    have h1 := h v (by simp)
    simp only[flat,List.flatMap_cons] at hk
    rcases Nat.lt_or_ge k v.cells.toList.length with hlt | hge
    · rw [List.getElem?_append_left hlt] at hk
      exact ⟨0, k, v, by simp, by simpa using hk, by simp⟩
    · rw [List.getElem?_append_right hge] at hk
      obtain ⟨i, j, u, q1, q2, q3⟩ := flat_at (us := us) (fun v hv => h v (by simp [hv])) hk
      refine ⟨i + 1, j, u, by simpa using q1, q2, ?_⟩
      simp at q3 hge
      rw [Nat.add_mul]; omega
theorem Cont.cells {A : Option Addr} {us : List Value} {sz : Nat} (h : Cont g w A us) (hw : ∀ u ∈ us, u.cells.size = sz) {b off : Nat} (hA : A = some ⟨b, off, none⟩) {k : Nat} {x : Value} (hk : (flat us)[k]? = some x) :
    w.cell? ⟨b, off + k, none⟩ = some x ∧ x.oneCell' = true ∧ off + k < g.fr b := by
  obtain ⟨i, j, u, h1, h2, rfl⟩ := flat_at hw hk
  obtain ⟨sz', h3, h4⟩ := h
  have hm := List.mem_of_getElem? h1
  have : sz' = sz := by rw [← h3 u hm, hw u hm]
  subst this
  obtain ⟨b', off', e, h5⟩ := h4 (by intro e; subst e; simp at h1)
  rw [hA] at e; cases e
  obtain ⟨q1, q2, q3⟩ := h5 i u j x h1 h2
  rw [← Nat.add_assoc]
  exact ⟨q2, q3, q1⟩
theorem Cont.addr {A : Option Addr} {us : List Value} (h : Cont g w A us) (hne : us ≠ []) : ∃ b off, A = some ⟨b, off, none⟩ := by
  obtain ⟨sz, _, h2⟩ := h
  obtain ⟨b, off, e, _⟩ := h2 hne
  exact ⟨b, off, e⟩
theorem run_first {A : Option Addr} {us : List Value} {sz len cap : Nat} (h : Cont g w A us) (hw : ∀ u ∈ us, u.cells.size = sz) (hlen : len = us.length) {w' : World} (hc : ∀ ad, w'.cell? ad = w.cell? ad) :
    (Builtin.firstCells sz len (.slice A len cap)).run P w' = .ok (flat us).toArray w' := by
  subst hlen
  by_cases hne : us = []
  · subst hne
    cases A with
    | none => exact run_firstCells_none w' sz _ _ _
    | some ad => exact run_firstCells_some w' sz _ ad _ cap [] (by simp) (by simp)
  · obtain ⟨b, off, rfl⟩ := h.addr hne
    refine run_firstCells_some w' sz _ _ _ cap (flat us) (flat_length hw) fun j v hj => ?_
    rw [hc, Addr.add_lit]
    exact (h.cells hw rfl hj).1

theorem src_ok {v : AVal} {u : Value} {ys : List AVal} {sz : Nat} {tx : TypeId} (h : RT g w v u) (hs : srcV v = some ys) (hw : ∀ y ∈ ys, y.width = sz) (hpos : 0 < sz) (hk : (sliceE P tx).isSome = true ∨ isStrT P tx = true) :
    ∃ us, RIs g w ys us ∧ (∀ u ∈ us, u.cells.size = sz) ∧ (∀ x ∈ flat us, x.oneCell' = true) ∧ Src P sz tx u us.length (flat us) w := by
  have hk' : (∃ e', P.underlying tx = some (.slice e')) ∨ P.underlying tx = some .string := by
    rcases hk with hk | hk
    · obtain ⟨e, he⟩ := isSome_iff' hk; exact .inl ⟨e, sliceE_ok he⟩
    · exact .inr (isStrT_ok hk)
  unfold srcV at hs
  split at hs
  · rename_i ow ys'
    cases hs
    simp only[RT,RI] at h
    obtain ⟨A, c, us, rfl, hl, hus, hc, _⟩ := h
    have hws := widths hus hw hpos
    have hone : ∀ x ∈ flat us, x.oneCell' = true := by
      intro x hx
      obtain ⟨k, hk⟩ := List.getElem?_of_mem hx
      obtain ⟨i, j, u, q1, _⟩ := flat_at hws hk
      obtain ⟨b, off, e⟩ := hc.addr (by intro e; subst e; simp at q1)
      exact (hc.cells hws e hk).2.1
    exact ⟨us, hus, hws, hone, hk', fun _ => rfl, run_first hc hws rfl (fun _ => rfl), run_first hc hws rfl (fun _ => by simp), flat_length hws, hone⟩
  · rename_i s
    cases hs
    have hu : u = .string s := by simpa [RT, RI] using h
    subst hu
    have hf : flat (byteCells s) = byteCells s := by
      simp only[flat,byteCells,List.flatMap_map]
      generalize s.data.toList = l
      induction l with
      | nil => rfl
      | cons b l ih => simp only[List.flatMap_cons,List.map_cons,ih]; rfl
    have hri : RIs g w (bytesV s) (byteCells s) := RIs.of_get (by simp [bytesV, byteCells]) fun i x u hx hu => by
      simp only[bytesV,byteCells,List.getElem?_map] at hx hu
      cases hb : s.data.toList[i]? with
      | none => rw [hb] at hx; simp at hx
      | some b => rw [hb] at hx hu; simp at hx hu; subst hx hu; simp [RI]
    have hone : ∀ x ∈ byteCells s, x.oneCell' = true := fun x hx => by
      obtain ⟨b, _, rfl⟩ := List.mem_map.1 hx; rfl
    refine ⟨byteCells s, hri, widths hri hw hpos, by rw [hf]; exact hone, ?_⟩
    rw [hf, byteCells_length]
    by_cases h0 : s.size = 0
    · have hnil : byteCells s = [] := List.eq_nil_of_length_eq_zero (by rw [byteCells_length]; exact h0)
      have hr : ∀ w' : World, (Builtin.firstCells sz s.size (.string s)).run P w' = .ok (byteCells s).toArray w' := by
        intro w'
        rw [hnil, h0]
        simp [Builtin.firstCells]
      exact ⟨hk', fun _ => rfl, hr w, hr w.drew, by simp [hnil, h0], hone⟩
    · have hsz : sz = 1 := by
        have hb := hw (.int .u8 (s.data.toList[0]'(by simpa using Nat.pos_of_ne_zero h0)).toNat) (by
          simp only[bytesV,List.mem_map]
          exact ⟨_, List.getElem_mem _, rfl⟩)
        simpa [AVal.width] using hb.symm
      subst hsz
      exact ⟨hk', fun _ => rfl, firstCells_string s w, firstCells_string s w.drew, by rw [byteCells_length]; omega, hone⟩
  · cases hs

def okO (o : Own) (sz : Nat) (xs : List AVal) : Prop := match o with | .nil => xs = [] | .app sz' => sz' = sz | .uniq sz' _ => sz' = sz | .sh => False
theorem RVc.grab {q : Ow} {ow : Own} {sz : Nat} {xs : List AVal} {v : Value} (h : RVc g w q (.lst ow xs) v) (ho : okO ow sz xs) (hq : q ≠ .no) (hq2 : q ≠ .other) :
    ∃ g', Evo g w g' w ∧ (∀ p, p ≠ q → Keep g w g' w p p) ∧ g'.ow = g.ow ∧ g'.ib = g.ib ∧ g'.io = g.io ∧ g'.nh = g.nh ∧ RVc g' w q (.lst (.app sz) xs) v := by
  have same : RVc g w q (.lst (.app sz) xs) v → ∃ g', Evo g w g' w ∧ (∀ p, p ≠ q → Keep g w g' w p p) ∧ g'.ow = g.ow ∧ g'.ib = g.ib ∧ g'.io = g.io ∧ g'.nh = g.nh ∧ RVc g' w q (.lst (.app sz) xs) v :=
    fun h => ⟨g, .refl g w, fun _ _ b hb => ⟨hb, rfl, rfl⟩, rfl, rfl, rfl, rfl, h⟩
  cases ow with
  | sh => exact ho.elim
  | nil =>
    have ho : xs = [] := ho
    subst ho
    simp only[RVc,RI] at h
    obtain ⟨A, c, us, e, hl, hus, hc, rfl, rfl⟩ := h
    refine same ?_
    simp only[RVc]
    have : us = [] := by simpa [RIs] using hus
    subst this
    exact ⟨_, _, [], e, hl, hus, by simp, hc, .inl rfl⟩
  | app sz' =>
    have ho : sz' = sz := ho
    subst ho; exact same h
  | uniq sz' c =>
    have ho : sz' = sz := ho
    subst ho
    simp only[RVc] at h
    obtain ⟨A, us, e, hl, hus, hws, h⟩ := h
    by_cases h0 : us = []
    · subst h0
      have hx : xs = [] := by have := hus.length; simpa using this.symm
      subst hx
      rcases h with h | ⟨b, off, cur, e', fz, h1, h2, h3, h4, h5, h6, h7⟩
      · refine same ?_
        simp only[RVc]
        exact ⟨A, c, [], e, hl, hus, hws, ⟨sz', by simp, by simp⟩, .inl (by simp [h])⟩
      · refine same ?_
        simp only[RVc]
        exact ⟨A, c, [], e, hl, hus, hws, ⟨sz', by simp, by simp⟩, .inr ⟨b, off, cur, e', fz, h1, h2, by simpa using h3, h4, h5, h6⟩⟩
    · have hc0 : c ≠ 0 := by
        have := List.length_pos_iff.2 h0; omega
      obtain ⟨b, off, cur, e', fz, h1, h2, h3, h4, h5, h6, h7⟩ := h.resolve_left hc0
      have hf : g.fr b ≤ off + us.length * sz' := by omega
      have hb : ∀ k, g.ow k ≠ q → k ≠ b := by rintro k hk rfl; exact hk h2
      have hstab : ∀ k, g.fr k ≤ (g.alloc b (g.ow b) (off + us.length * sz')).fr k := by
        intro k
        by_cases e : k = b
        · subst e; simpa [Gh.alloc] using hf
        · simp [Gh.alloc, e]
      have hevo : Evo g w (g.alloc b (g.ow b) (off + us.length * sz')) w := by
        refine ⟨rfl, rfl, rfl, Nat.le_refl _, fun k _ hk => ?_, fun k _ => ⟨hstab k, fun _ _ => rfl⟩, Nat.le_refl _, fun _ _ => rfl⟩
        have := hb k (hk.elim (fun e => by rw [e]; exact hq.symm) (fun e => by rw [e]; exact hq2.symm))
        exact ⟨rfl, by simp [Gh.alloc, this], by simp [Gh.alloc, this]⟩
      have how : (g.alloc b (g.ow b) (off + us.length * sz')).ow = g.ow := by
        funext k; by_cases e : k = b <;> simp [Gh.alloc, e]
      refine ⟨_, hevo, fun p hp k hk => ?_, how, rfl, rfl, rfl, ?_⟩
      · have := hb k (by rw [hk]; exact hp)
        exact ⟨by rw [how]; exact hk, rfl, by simp [Gh.alloc, this]⟩
      · simp only[RVc]
        refine ⟨A, c, us, e, hl, RIs.mono hevo.stb _ _ hus, hws, ⟨sz', hws, fun _ => ⟨b, off, h1, fun i u j x hi hj => ?_⟩⟩, .inr ⟨b, off, cur, e', fz, h1, by rw [how]; exact h2, by simp [Gh.alloc], h4, h5, h6⟩⟩
        obtain ⟨q1, q2⟩ := h7 i u j x hi hj
        refine ⟨?_, by rw [cell_of_block h4]; exact q1, q2⟩
        have hi' : i < us.length := (List.getElem?_eq_some_iff.1 hi).1
        have hj' : j < sz' := by rw [← hws u (List.mem_of_getElem? hi)]; exact (Array.getElem?_eq_some_iff.1 hj).1
        have : (i + 1) * sz' ≤ us.length * sz' := Nat.mul_le_mul_right _ hi'
        rw [Nat.add_mul] at this
        simp [Gh.alloc]; omega
theorem Rel.forget (hR : Rel n S g a w) (d : Nat) : Rel n (S.set d .junk) g a w :=
  ⟨hR.size, hR.defers, fun u => by
    simp only[AState.set]
    by_cases e : u = d
    · rw [if_pos e]; simp [RV, RV1, RVc, RI]
    · rw [if_neg e]; exact hR.env u, hR.boxes, hR.heap⟩
theorem set_set (S : AState) (d : Nat) (x y : AVal) : (S.set d x).put (some d) y = S.put (some d) y := by
  simp only[AState.set,AState.put]
  congr 1
  funext t; split <;> rfl
theorem Rel.grab (hR : Rel n S g a w) {x : Operand} {y : AOpn} (hx : opn x y = true) {ow : Own} {xs : List AVal} (hf : S.full y = .lst ow xs) {sz : Nat} (ho : okO ow sz xs) (d : Nat) :
    ∃ g', Rel n ((S.takeT y).set d .junk) g' a w ∧ Evo g w g' w ∧ RVc g' w (.slot d []) (.lst (.app sz) xs) (a.eval x) ∧ g'.ow = (fun b => g'.ow b) := by
  cases y with
  | c v =>
    rcases RV.of_opn hR hx with ⟨t, h1, _⟩ | ⟨_, h2⟩
    · cases h1
    · have h3 : RVc g w (.slot d []) (.lst ow xs) (a.eval x) := by
        have := h2 (.slot d); rw [hf] at this; exact this
      obtain ⟨g', q1, q2, q3, q4, q5, q6, q7⟩ := h3.grab ho (by simp) (by simp)
      refine ⟨g', ?_, q1, q7, rfl⟩
      have hR2 := hR.forget d
      refine ⟨hR2.size, hR2.defers, fun u => ?_, fun s cs hs => RBox.mono q1.stb (by rw [q4]) (q2 _ (by simp)) (fun p => q2 _ (by simp)) (hR2.boxes s cs hs),
        ⟨by rw [q6]; exact hR2.heap.nh, fun id ob hob => RObj.mono q1.stb (by rw [hR2.heap.nh]; exact (List.getElem?_eq_some_iff.1 hob).1) (q2 _ (by simp)) (fun p => q2 _ (by simp)) (hR2.heap.obj id ob hob), fun b hb => by rw [q3]; exact hR2.heap.valid b hb⟩⟩
      by_cases e : u = d
      · subst e; simp [AState.takeT, AState.set, RV, RV1, RVc, RI]
      · exact RV.mono q1.stb (fun p => q2 _ (by simp; intro e2; exact absurd e2 e)) _ _ (fun _ _ _ => by rw [q4]) (hR2.env u)
  | t m =>
    have hxm : x = .tmp m := by unfold opn at hx; split at hx <;> simp_all
    subst hxm
    have h3 : RVc g w (.slot m []) (.lst ow xs) (a.eval (.tmp m)) := by
      have := hR.env m
      have e : S.env m = .lst ow xs := hf
      rw [e] at this; exact this
    obtain ⟨g1, q1, q2, q3, q4, q5, q6, q7⟩ := h3.grab ho (by simp) (by simp)
    refine ⟨g1.ren (slT m d), ?_, q1.trans slT_no, RVc.mono Stb.ren (Keep.ren (slT_self m d)) _ _ q7, rfl⟩
    have hR2 := (hR.take m).forget d
    have hstb := q1.stb
    have hR3 : Rel n ((S.set m (remV (S.env m))).set d .junk) g1 a w ∨ True := .inr trivial
    have hkeep : ∀ p, p ≠ .slot m [] → Keep g w (g1.ren (slT m d)) w p p := by
      intro p hp b hb
      obtain ⟨k1, k2, k3⟩ := q2 p hp b hb
      exact ⟨by simp [Gh.ren, k1, slT, ren1, hp], k2, k3⟩
    have hstb2 : Stb g w (g1.ren (slT m d)) w := ⟨fun b o v h => hstb.st b o v h, hstb.nh, hstb.io⟩
    refine ⟨hR2.size, hR2.defers, fun u => ?_, fun s cs hs => RBox.mono hstb2 (by show g1.ib s = _; rw [q4]) (hkeep _ (by simp)) (fun p => hkeep _ (by simp)) (hR2.boxes s cs hs),
      ⟨by show g1.nh = _; rw [q6]; exact hR2.heap.nh, fun id ob hob => RObj.mono hstb2 (by rw [hR2.heap.nh]; exact (List.getElem?_eq_some_iff.1 hob).1) (hkeep _ (by simp)) (fun p => hkeep _ (by simp)) (hR2.heap.obj id ob hob),
       fun b hb => by simp [Gh.ren, q3, hR2.heap.valid b hb, slT, ren1]⟩⟩
    by_cases e : u = d
    · subst e; simp [AState.takeT, AState.set, RV, RV1, RVc, RI]
    · by_cases e2 : u = m
      · subst e2
        have hr := hR.env u
        have e3 : S.env u = .lst ow xs := hf
        have hr2 : RVc g w (.slot u []) (.lst ow xs) (a.tmps.getD u undef) := by rw [e3] at hr; exact hr
        have hri := RI.mono hstb2 _ _ (RI_remc hr2)
        simp only[AState.takeT,AState.set,if_neg e,if_true,e3]
        have hfl := flc_remc (.lst ow xs)
        cases ow <;> exact RVc.of_RI (o := .no) hfl hri
      · exact RV.mono hstb2 (fun p => hkeep _ (by simp; intro e3; exact absurd e3 e2)) _ _ (fun _ _ _ => by show g1.ib _ = _; rw [q4]) (hR2.env u)

theorem Rel.toApp (hR : Rel n S g a w) {d : Nat} {sz c : Nat} {xs : List AVal} (h : S.env d = .lst (.uniq sz c) xs) : ∃ g', Rel n (S.set d (.lst (.app sz) xs)) g' a w ∧ Evo g w g' w := by
  have h3 : RVc g w (.slot d []) (.lst (.uniq sz c) xs) (a.tmps.getD d undef) := by
    have := hR.env d
    rw [h] at this; exact this
  obtain ⟨g1, q1, q2, q3, q4, q5, q6, q7⟩ := h3.grab (ow := .uniq sz c) (sz := sz) rfl (by simp) (by simp)
  refine ⟨g1, ⟨hR.size, hR.defers, fun u => ?_, fun s cs hs => RBox.mono q1.stb (by rw [q4]) (q2 _ (by simp)) (fun p => q2 _ (by simp)) (hR.boxes s cs hs),
    ⟨by rw [q6]; exact hR.heap.nh, fun id ob hob => RObj.mono q1.stb (by rw [hR.heap.nh]; exact (List.getElem?_eq_some_iff.1 hob).1) (q2 _ (by simp)) (fun p => q2 _ (by simp)) (hR.heap.obj id ob hob), fun b hb => by rw [q3]; exact hR.heap.valid b hb⟩⟩, q1⟩
  by_cases e : u = d
  · subst e
    simp only[AState.set,if_true]
    exact q7
  · simp only[AState.set,if_neg e]
    exact RV.mono q1.stb (fun p => q2 _ (by simp; intro e2; exact absurd e2 e)) _ _ (fun _ _ _ => by rw [q4]) (hR.env u)
theorem eff_str8' (hR : Rel n S g a w) {ty e : TypeId} {t d : Nat} (ho : o.op = .convert ty ty (.tmp t)) (hdst : o.dst = some d) (hd : d < n) (ht : P.underlying ty = some (.slice e)) (he : P.underlying e = some (.int .u8)) {K : AState → Prop}
    (h : match S.env t with
      | .lst (.uniq 1 _) xs => xs ≠ [] ∧ K ((S.set t .junk).put o.dst (.lst (.app 1) xs))
      | _ => False) (hn : Goes n g w K next) : o.wp P a w next Q := by
  split at h
  · rename_i cap xs henv
    obtain ⟨hne, hk⟩ := h
    refine eff_str8 hR ho hdst hd ht he (K := fun S1 => S1 = (S.set t .junk).put o.dst (.lst (.uniq 1 cap) xs)) ?_ ?_
    · rw [henv]; exact ⟨hne, rfl⟩
    · rintro S1 g1 a1 w1 rfl hR1 hE1
      rw [hdst] at hR1 hk
      obtain ⟨g2, hR2, hE2⟩ := hR1.toApp (d := d) (sz := 1) (c := cap) (xs := xs) (by simp [AState.put])
      have e1 : ((S.set t .junk).put (some d) (.lst (.uniq 1 cap) xs)).set d (.lst (.app 1) xs) = (S.set t .junk).put (some d) (.lst (.app 1) xs) := by
        simp only[AState.set,AState.put]
        congr 1
        funext u; split <;> rfl
      rw [e1] at hR2
      exact hn _ g2 _ _ hk hR2 (hE1.trans hE2)
  · exact h.elim

theorem run_append_empty {t tx ty e : TypeId} {i : TypeInfo} (ht : P.underlying t = some (.slice e)) (hi : P.info? e = some i) {base : Option Addr} {sLen sCap : Nat} {x : Value} {n : Nat} {news : List Value} (hs : Src P i.size tx x n news w) (hn : n = 0) (hle : sLen ≤ sCap) :
    (Builtin.append_ #[t, tx] ty #[.slice base sLen sCap, x]).run P w = .ok (.slice base sLen sCap) w := by
  subst hn
  have hnews : news = [] := List.eq_nil_of_length_eq_zero (by rw [hs.newsLen]; simp)
  subst hnews
  have h1 := hs.cells
  rcases hs.kind with ⟨e', hk⟩ | hk <;> cases base <;> simp [Builtin.append_, run_underlying ht, run_underlying hk, sizeOf, typeInfo, hi, hs.len, hle, h1, storeCells]

theorem eff_append (hR : Rel n S g a w) {c : Call} {x y : Operand} {x' y' : AOpn} {ts tx e : TypeId} {it : TypeInfo} {z : Value} {sz bytes d : Nat} (ho : o.op = .call c) (hcal : c.callee = .builtin .append) (hargs : c.args = #[x, y]) (hts : c.argTypes = #[ts, tx])
    (hx : opn x x' = true) (hy : opn y y' = true) (ht : P.underlying ts = some (.slice e)) (hk : (sliceE P tx).isSome = true ∨ isStrT P tx = true) (hit : P.info? e = some it) (hz : it.zero = some z) (hsz : it.size = sz) (hpos : 0 < sz) (hby : it.bytes = bytes) (hzs : z.cells.size = sz)
    (hdst : o.dst = some d) (hd : d < n) {K : AState → Prop}
    (h : match S.full x', srcV (S.rd y') with
      | .lst o xs, some ys => (match o with | .nil => xs = [] | .app sz' => sz' = sz | .uniq sz' _ => sz' = sz | .sh => False) ∧
          (∀ v ∈ ys, v.width = sz) ∧ (xs.length + ys.length) * bytes ≤ 140737488355328 ∧ xs.length + ys.length ≤ 140737488355328 ∧
          K ((S.takeT x').put d (.lst (.app sz) (xs ++ ys)))
      | _, _ => False) (hn : Goes n g w K next) : o.wp P a w next Q := by
  split at h
  · rename_i ow xs ys hf hsv
    obtain ⟨h1, h2, h3, h4, hk'⟩ := h
    obtain ⟨g1, hR1, evo1, hv, _⟩ := hR.grab hx hf (sz := sz) h1 d
    simp only[RVc] at hv
    obtain ⟨A, cap, us, ee, hlc, hus, hws, hcont, hsp⟩ := hv
    obtain ⟨us2, hus2, hws2, hone2, hsrc⟩ := src_ok (RT.of_opn hR hy) hsv h2 hpos hk
    have hus2' : RIs g1 w ys us2 := RIs.mono evo1.stb _ _ hus2
    have hl1 := hus.length
    have hl2 := hus2.length
    have happ : RIs g1 w (xs ++ ys) (us ++ us2) := hus.append hus2'
    have hwa : ∀ u ∈ us ++ us2, u.cells.size = sz := fun u hu => by
      rcases List.mem_append.1 hu with hu | hu
      · exact hws u hu
      · exact hws2 u hu
    have hrun : ∀ v w', (Builtin.append_ #[ts, tx] o.type #[a.eval x, a.eval y]).run P w = .ok v w' → (execOp a.eval o).run P w = .ok (.value v) w' := by
      intro v w' hr
      simp [execOp, ho, resolve, hcal, hargs, invoke, builtin, hts, hr]
    rw [ee] at hrun
    subst hsz
    have hold : ∀ x ∈ flat us, x.oneCell' = true := by
      intro x hx
      obtain ⟨k, hk⟩ := List.getElem?_of_mem hx
      obtain ⟨i, j, u, q1, _⟩ := flat_at hws hk
      obtain ⟨b, off, e⟩ := hcont.addr (by intro e; subst e; simp at q1)
      exact (hcont.cells hws e hk).2.1
    rcases Nat.eq_zero_or_pos us2.length with h0 | h0
    · have hr := run_append_empty (ty := o.type) (sLen := us.length) (sCap := cap) (base := A) ht hit hsrc h0 hlc
      refine wp_value (hrun _ _ hr) ?_
      rw [hdst]
      have hys : ys = [] := List.eq_nil_of_length_eq_zero (by omega)
      subst hys
      rw [List.append_nil] at hk'
      have := hR1.put (d := some d) (x := .lst (.app it.size) xs) (v := .slice A us.length cap) (by intro k hk; cases hk; exact hd) (by
        intro k hk; cases hk
        simp only[RV,RV1,RVc]
        exact ⟨A, cap, us, rfl, hlc, hus, hws, hcont, hsp⟩)
      rw [set_set] at this
      exact hn _ _ _ _ hk' this evo1
    · have hfl2 := flat_length hws2
      by_cases hroom : us.length + us2.length ≤ cap
      · obtain ⟨b, off, cur, e', fz, s1, s2, s3, s4, s5, s6⟩ := hsp.resolve_left (by omega)
        subst s1
        have hmul : us.length * it.size + us2.length * it.size ≤ cap * it.size := by rw [← Nat.add_mul]; exact Nat.mul_le_mul_right _ hroom
        have hle : off + us.length * it.size + (flat us2).length ≤ cur.size := by omega
        have hr := run_append_room_src (P := P) w ts tx o.type e it ht hit b off us.length cap (a.eval y) us2.length (flat us2) hsrc hroom
          (fun j hj => by rw [cell_of_block s4]; simp; omega)
          (fun j hj => by
            simp only[World.frozen?,s4]
            have := s6.at (off + us.length * it.size + j) (by omega)
            simpa using this)
        refine wp_value (hrun _ _ hr) ?_
        rw [hdst]
        have evo2 := Evo.write (g := g1) (w := w) (vs := flat us2) s4 hle s3 (by rw [s2]; simp) (by rw [s2]; simp) (.slot d []) (off + (us.length + us2.length) * it.size) (by rw [Nat.add_mul]; omega)
        have keep2 : ∀ q, q ≠ .slot d [] → Keep g1 w (g1.alloc b (.slot d []) (off + (us.length + us2.length) * it.size)) (w.setCells b (off + us.length * it.size) (flat us2)) q q := by
          intro q hq
          exact Keep.write (by rw [s2]; exact fun e => hq e.symm)
        have hblk := setCells_block (flat us2) _ w cur s4 hle
        have hblt : b < w.heap.size := (Array.getElem?_eq_some_iff.1 s4).1
        have base : Rel n ((S.takeT x').set d .junk) (g1.alloc b (.slot d []) (off + (us.length + us2.length) * it.size)) a (w.setCells b (off + us.length * it.size) (flat us2)) := by
          refine ⟨hR1.size, hR1.defers, fun u => ?_, fun s cs hs => RBox.mono evo2.stb rfl (keep2 _ (by simp)) (fun p => keep2 _ (by simp)) (hR1.boxes s cs hs),
            ⟨hR1.heap.nh, fun id ob hob => RObj.mono evo2.stb (by rw [hR1.heap.nh]; exact (List.getElem?_eq_some_iff.1 hob).1) (keep2 _ (by simp)) (fun p => keep2 _ (by simp)) (hR1.heap.obj id ob hob), fun b' hb' => ?_⟩⟩
          · by_cases e2 : u = d
            · subst e2; simp [AState.set, RV, RV1, RVc, RI]
            · exact RV.mono evo2.stb (fun p => keep2 _ (by simp; intro e3; exact absurd e3 e2)) _ _ (fun _ _ _ => rfl) (hR1.env u)
          · rw [setCells_size] at hb'
            have : b' ≠ b := by omega
            simp [Gh.alloc, this, hR1.heap.valid b' hb']
        have := base.put (d := some d) (x := .lst (.app it.size) (xs ++ ys)) (v := .slice (some ⟨b, off, none⟩) (us.length + us2.length) cap) (by intro k hk; cases hk; exact hd) (by
          intro k hk; cases hk
          simp only[RV,RV1,RVc]
          refine ⟨_, cap, us ++ us2, by rw [List.length_append], by rw [List.length_append]; exact hroom, RIs.mono evo2.stb _ _ happ, hwa, ⟨it.size, hwa, fun _ => ⟨b, off, rfl, fun i u j x hi hj => ?_⟩⟩,
            .inr ⟨b, off, _, e', fz, rfl, by simp [Gh.alloc], by simp [Gh.alloc], hblk, by rw [putArr_size hle]; exact s5, by rw [putArr_size hle]; exact s6⟩⟩
          have hfa := flat_get hwa hi hj
          rw [flat_append] at hfa
          have hlen := (List.getElem?_eq_some_iff.1 hfa).1
          rw [List.length_append, flat_length hws, hfl2] at hlen
          refine ⟨by simp only[Gh.alloc,if_true]; rw [Nat.add_mul]; omega, ?_, ?_⟩
          · rw [cell_of_block hblk]
            rcases Nat.lt_or_ge (i * it.size + j) (us.length * it.size) with hlt | hge
            · rw [putArr_out hle (.inl (by omega))]
              rw [List.getElem?_append_left (by rw [flat_length hws]; exact hlt)] at hfa
              have := (hcont.cells hws rfl hfa).1
              rwa [cell_of_block s4, ← Nat.add_assoc] at this
            · rw [List.getElem?_append_right (by rw [flat_length hws]; exact hge), flat_length hws] at hfa
              have e3 : off + i * it.size + j = off + us.length * it.size + (i * it.size + j - us.length * it.size) := by omega
              rw [e3, putArr_in hle (by omega)]
              exact hfa
          · have hm := List.mem_of_getElem? hfa
            rcases List.mem_append.1 hm with hm | hm
            · exact hold x hm
            · exact hone2 x hm)
        rw [set_set] at this
        exact hn _ _ _ _ hk' this (evo1.trans evo2)
      · have hg : cap < us.length + us2.length := by omega
        have hr := run_append_grow_src (P := P) w ts tx o.type e it z ht hit hz A us.length cap (flat us) (run_first hcont hws rfl (fun _ => by simp)) (a.eval y) us2.length (flat us2) hsrc hg (by omega) (growslice_fits hg (by rw [hby, hl1, hl2]; exact h3))
        refine wp_value (hrun _ _ hr) ?_
        rw [hdst]
        have hge := grownCap_ge w (us.length + us2.length) cap e
        generalize hG : grownCap w (us.length + us2.length) cap e = G at hge ⊢
        have hzc : (Builtin.zeroCells z.cells (G - (us.length + us2.length))).size = (G - (us.length + us2.length)) * it.size := by simp [Builtin.zeroCells, hzs]
        have hfa := flat_length hwa
        rw [flat_append] at hfa
        have hsize : ((flat us ++ flat us2).toArray ++ Builtin.zeroCells z.cells (G - (us.length + us2.length))).size = G * it.size := by
          rw [Array.size_append, hzc, List.size_toArray, hfa, List.length_append, ← Nat.add_mul]
          congr 1; omega
        obtain ⟨f1, f2⟩ := new_row (g := g1) (w := w) (w' := w.drew.alloc (.cells ((flat us ++ flat us2).toArray ++ Builtin.zeroCells z.cells (G - (us.length + us2.length))) e)) hR1.heap.valid
          ⟨rfl, rfl, rfl, by simp, fun b hb => heap_alloc w.drew _ b (by show b ≠ w.heap.size; omega)⟩ (by simp) (heap_alloc_self w.drew _) (.inl rfl) (xs := xs ++ ys) (us := us ++ us2) (sz := it.size) (cap := G) happ hwa (by rw [List.length_append]; exact hge) (by rw [hsize]; exact Nat.le_refl _)
          (fun i u j x hi hj => by
            have hfg := flat_get hwa hi hj
            rw [flat_append] at hfg
            have hlt := (List.getElem?_eq_some_iff.1 hfg).1
            refine ⟨by rw [Array.getElem?_append_left (by simpa using hlt)]; simpa using hfg, ?_⟩
            rcases List.mem_append.1 (List.mem_of_getElem? hfg) with hm | hm
            · exact hold x hm
            · exact hone2 x hm) false (.slot d)
        rw [List.length_append] at f1 f2
        have := (hR1.fresh f1).put (d := some d) (x := .lst (.app it.size) (xs ++ ys)) (v := .slice (some ⟨w.heap.size, 0, none⟩) (us.length + us2.length) G) (by intro k hk; cases hk; exact hd) (by
          intro k hk; cases hk; exact f2)
        rw [set_set] at this
        exact hn _ _ _ _ hk' this (evo1.trans f1.evo)
  · exact h.elim
end
end Go.Ge
set_option linter.unusedSimpArgs false
set_option linter.unusedVariables false
namespace Go.Ge
open Go.Proofs (Enters enters_of)
section
variable {P : Program} {n : Nat} {S : AState} {g : Gh} {a : Act} {w : World} {o : Oper} {next : Act → World → Prop} {Q : Exit → Act → World → Prop}

def proO (s id : Nat) : Ow → Ow
  | .box q => if q = s then .obj id else .box q
  | .boxc q p => if q = s then .objc id p else .boxc q p
  | o => o
def Gh.prom (g : Gh) (s : Nat) : Gh := { fr := g.fr, ow := fun b => proO s g.nh (g.ow b), io := fun id => if id = g.nh then (g.ib s, 0) else g.io id, ib := g.ib, nh := g.nh + 1 }
theorem Stb.prom {s : Nat} : Stb g w (g.prom s) w := ⟨fun _ _ _ h => h, Nat.le_succ _, fun id h => by simp [Gh.prom, Nat.ne_of_lt h]⟩
theorem Keep.prom {s : Nat} {q q' : Ow} (h : proO s g.nh q = q') : Keep g w (g.prom s) w q q' := fun b hb => ⟨by simp [Gh.prom, hb, h], rfl, rfl⟩
theorem Evo.prom {s : Nat} : Evo g w (g.prom s) w :=
  ⟨rfl, rfl, rfl, Nat.le_refl _, fun b _ h => ⟨rfl, rfl, by rcases h with h | h <;> simp [Gh.prom, h, proO]⟩, fun _ _ => ⟨Nat.le_refl _, fun _ _ => rfl⟩, Nat.le_succ _, Stb.prom.io (w := w)⟩
theorem Rel.promote (hR : Rel n S g a w) (s : Nat) : ∃ g', Rel n (S.promote s) g' a w ∧ Evo g w g' w := by
  unfold AState.promote
  split
  · rename_i cs hs
    refine ⟨g.prom s, ⟨hR.size, hR.defers, fun t => ?_, fun q ds hq => ?_, ⟨?_, fun id ob hob => ?_, fun b hb => by simp [Gh.prom, hR.heap.valid b hb, proO]⟩⟩, Evo.prom⟩
    · have h := hR.env t
      simp only
      split
      · rename_i s' off hv
        rw [hv] at h
        simp only[RV] at h
        by_cases e : s' = s
        · rw [if_pos e]; subst e
          simp only[RV,RV1,RVc,RI]
          rw [← hR.heap.nh]
          exact ⟨by simp [Gh.prom], by rw [h]; simp [Gh.prom]⟩
        · rw [if_neg e]; simpa [RV, Gh.prom] using h
      · rename_i v hv hne
        exact RV.mono Stb.prom (fun p => Keep.prom rfl) _ _ (fun _ _ _ => rfl) h
    · simp only at hq
      by_cases e : q = s
      · rw [if_pos e] at hq; cases hq
      · rw [if_neg e] at hq
        exact RBox.mono Stb.prom rfl (Keep.prom (by simp [proO, e])) (fun p => Keep.prom (by simp [proO, e])) (hR.boxes q ds hq)
    · simp [Gh.prom, hR.heap.nh]
    · rcases Nat.lt_or_ge id S.heap.length with hlt | hge
      · rw [List.getElem?_append_left hlt] at hob
        exact RObj.mono Stb.prom (by rw [hR.heap.nh]; exact hlt) (Keep.prom rfl) (fun p => Keep.prom rfl) (hR.heap.obj id ob hob)
      · rw [List.getElem?_append_right hge] at hob
        have hid : id = S.heap.length := by
          have := (List.getElem?_eq_some_iff.1 hob).1
          simp at this; omega
        subst hid
        simp at hob; subst hob
        obtain ⟨us, e, fz, h1, h2, h3, h4, h5⟩ := hR.boxes s cs hs
        simp only[RObj]
        have hio : (g.prom s).io S.heap.length = (g.ib s, 0) := by simp [Gh.prom, hR.heap.nh]
        rw [hio]
        refine fun _ => ⟨us, e, fz, us.toList, h1, h2, by simp [Gh.prom, h3, proO, hR.heap.nh], by simp [Gh.prom, h4], by simp, fun j u hj => by simpa using hj, ?_⟩
        exact RVs.mono Stb.prom _ _ _ (fun j => Keep.prom (by simp [proO, hR.heap.nh])) h5
  · exact ⟨g, hR, .refl g w⟩
theorem Rel.promAll : ∀ (args : List AOpn) {S : AState} {g : Gh}, Rel n S g a w → ∃ g', Rel n (S.promAll args) g' a w ∧ Evo g w g' w
  | [], S, g, hR => ⟨g, hR, .refl g w⟩
  | .c _ :: rest, S, g, hR => by simpa [AState.promAll] using Rel.promAll rest hR
  | .t m :: rest, S, g, hR => by
    simp only[AState.promAll]
    split
    · rename_i s off hv
      obtain ⟨g1, r1, r2⟩ := hR.promote s
      obtain ⟨g2, r3, r4⟩ := Rel.promAll rest r1
      exact ⟨g2, r3, r2.trans r4⟩
    · exact Rel.promAll rest hR

theorem RIs.of_opns (hR : Rel n S g a w) : ∀ {xs : List Operand} {ys : List AOpn}, opns xs ys = true → (∀ y ∈ ys, noBox (S.rd y) = true) → RIs g w (ys.map S.rd) (xs.map a.eval)
  | [], [], _, _ => by simp [RIs]
  | x :: xs, y :: ys, h, hb => by
    simp only[opns,Bool.and_eq_true] at h
    simp only[List.map,RIs]
    exact ⟨_, _, rfl, RI.of_RT (hb y (by simp)) (RT.of_opn hR h.1), RIs.of_opns hR h.2 fun z hz => hb z (by simp [hz])⟩
  | [], _ :: _, h, _ => by simp [opns] at h
  | _ :: _, [], h, _ => by simp [opns] at h

theorem eff_mkf (hR : Rel n S g a w) {f : FuncId} {xs : Array Operand} {ys : List AOpn} (ho : o.op = .makeFunc (.func f) #[] xs) (hx : opns xs.toList ys = true) (hd : ∀ k, o.dst = some k → k < n) {K : AState → Prop}
    (h : (∀ x ∈ ys, storable ((S.promAll ys).rd x) = true ∧ ((S.promAll ys).rd x).width = 1) ∧ K ((S.promAll ys).put o.dst (.func f (ys.map (S.promAll ys).rd)))) (hn : Goes n g w K next) : o.wp P a w next Q := by
  obtain ⟨g1, hR1, evo⟩ := hR.promAll ys
  obtain ⟨h1, h2⟩ := h
  have hri := RIs.of_opns hR1 hx (fun y hy => by
    have := (h1 y hy).1
    cases hq : (S.promAll ys).rd y <;> first | rfl | (rw [hq] at this; simp [storable, storC] at this))
  have hrun : (execOp a.eval o).run P w = .ok (.value (.func (.func f) #[] (xs.map a.eval))) w := by simp [execOp, ho, Instr.makeFunc]
  refine wp_value hrun ?_
  refine hn _ g1 _ _ h2 (hR1.put hd fun k _ => ?_) evo
  simp only[RV,RV1,RVc,RI]
  exact ⟨_, rfl, by simpa using hri⟩

def ACalls (P : Program) (f : FuncId) (vs : List AVal) (h : List HObj) (Q : AVal → List HObj → Prop) : Prop :=
  Enters P f ∧ ∀ (g : Gh) (w : World) (us : Array Value), RIs g w vs us.toList → (∀ v ∈ vs, flv v = true) → RHeap g w h → Calls P f us w fun e w' =>
    ∃ v, e = .returned v ∧ ∃ r h' g', Q r h' ∧ noBox r = true ∧ RV g' w' .ret r v ∧ RHeap g' w' h' ∧ Evo g w g' w'
theorem ACalls.mono {f : FuncId} {vs : List AVal} {h : List HObj} {R R' : AVal → List HObj → Prop} (hc : ACalls P f vs h R) (hm : ∀ r h', R r h' → R' r h') : ACalls P f vs h R' :=
  ⟨hc.1, fun g w us h1 h2 h3 cs => by
    obtain ⟨e, w', fr, ⟨v, e1, r, h', g', q1, q2⟩, q3⟩ := hc.2 g w us h1 h2 h3 cs
    exact ⟨e, w', fr, ⟨v, e1, r, h', g', hm _ _ q1, q2⟩, q3⟩⟩

def hideO : Ow → Ow
  | .slot .. | .box _ | .boxc .. | .ret _ => .other
  | o => o
def mineO : Ow → Bool
  | .slot .. | .box _ | .boxc .. | .ret _ => true
  | _ => false
def Gh.hide (g : Gh) : Gh := { g with ow := fun b => hideO (g.ow b) }
def backO (d : Nat) (old new : Ow) : Ow := if mineO old then old else match new with
  | .ret p => .slot d p
  | .obj i => .obj i
  | .objc i p => .objc i p
  | .other => .other
  | _ => .no
def Gh.back (g g' : Gh) (d : Nat) : Gh := { fr := g'.fr, ow := fun b => backO d (g.ow b) (g'.ow b), io := g'.io, ib := g.ib, nh := g'.nh }
theorem RHeap.hide {h : List HObj} (hh : RHeap g w h) : RHeap g.hide w h :=
  ⟨hh.nh, fun id ob hob => RObj.mono (g := g) (g' := g.hide) ⟨fun _ _ _ h => h, Nat.le_refl _, fun _ _ => rfl⟩ (by rw [hh.nh]; exact (List.getElem?_eq_some_iff.1 hob).1) (fun b hb => ⟨by simp [Gh.hide, hb, hideO], rfl, rfl⟩) (fun p b hb => ⟨by simp [Gh.hide, hb, hideO], rfl, rfl⟩) (hh.obj id ob hob),
    fun b hb => by simp [Gh.hide, hh.valid b hb, hideO]⟩
section back
variable {g' : Gh} {w' : World} {d : Nat}
theorem hide_other {b : Nat} (h : mineO (g.ow b) = true) : g.hide.ow b = .other := by
  simp only[Gh.hide]; cases hq : g.ow b <;> rw [hq] at h <;> simp_all [mineO, hideO]
theorem mine_keep (hv : ∀ b, w.heap.size ≤ b → g.ow b = .no) (he : Evo g.hide w g' w') {q : Ow} (hq : mineO q = true) : Keep g w (g.back g' d) w' q q := by
  intro b hb
  have hlt : b < w.heap.size := by
    rcases Nat.lt_or_ge b w.heap.size with h | h
    · exact h
    · rw [hv b h] at hb; subst hb; cases hq
  obtain ⟨k1, k2, k3⟩ := he.fixed b hlt (.inr (hide_other (by rw [hb]; exact hq)))
  exact ⟨by simp [Gh.back, backO, hb, hq], k1, k2⟩
theorem mine_not (hv : ∀ b, w.heap.size ≤ b → g.ow b = .no) (he : Evo g.hide w g' w') {b : Nat} (h : g'.ow b ≠ .other) : mineO (g.ow b) = false := by
  cases hm : mineO (g.ow b) with
  | false => rfl
  | true =>
    exfalso
    have hlt : b < w.heap.size := by
      rcases Nat.lt_or_ge b w.heap.size with h' | h'
      · exact h'
      · rw [hv b h'] at hm; cases hm
    obtain ⟨_, _, k3⟩ := he.fixed b hlt (.inr (hide_other hm))
    exact h (by rw [k3, hide_other hm])
theorem back_keep (hv : ∀ b, w.heap.size ≤ b → g.ow b = .no) (he : Evo g.hide w g' w') {q q' : Ow} (hq : q ≠ .other) (h : backO d .no q = q') : Keep g' w' (g.back g' d) w' q q' := by
  intro b hb
  have := mine_not hv he (b := b) (by rw [hb]; exact hq)
  refine ⟨?_, rfl, rfl⟩
  simp only[Gh.back,backO,this,hb]
  simpa [backO, mineO] using h
theorem evo_back (hv : ∀ b, w.heap.size ≤ b → g.ow b = .no) (he : Evo g.hide w g' w') : Evo g w (g.back g' d) w' := by
  refine ⟨he.os, he.tape, he.output, he.size, fun b hb ho => ?_, he.stab, he.nh, he.io⟩
  have hh : g.hide.ow b = g.ow b := by rcases ho with ho | ho <;> simp [Gh.hide, ho, hideO]
  obtain ⟨k1, k2, k3⟩ := he.fixed b hb (by rw [hh]; exact ho)
  refine ⟨k1, k2, ?_⟩
  rw [hh] at k3
  rcases ho with ho | ho <;> simp [Gh.back, k3, ho, backO, mineO]
theorem Rel.back (hR : Rel n S g a w) (he : Evo g.hide w g' w') {h' : List HObj} (hh : RHeap g' w' h') : Rel n { S with heap := h' } (g.back g' d) a w' := by
  have hv := hR.heap.valid
  have hevo := evo_back (d := d) hv he
  refine ⟨hR.size, hR.defers, fun t => RV.mono hevo.stb (fun p => mine_keep hv he rfl) _ _ (fun _ _ _ => rfl) (hR.env t), fun s cs hs => RBox.mono hevo.stb rfl (mine_keep hv he rfl) (fun p => mine_keep hv he rfl) (hR.boxes s cs hs), ⟨hh.nh, fun id ob hob => ?_, fun b hb => ?_⟩⟩
  · exact RObj.mono (g := g') (g' := g.back g' d) ⟨fun _ _ _ h => h, Nat.le_refl _, fun _ _ => rfl⟩ (by rw [hh.nh]; exact (List.getElem?_eq_some_iff.1 hob).1) (back_keep hv he (by simp) rfl) (fun p => back_keep hv he (by simp) rfl) (hh.obj id ob hob)
  · have := hh.valid b hb
    have hm := mine_not hv he (b := b) (by rw [this]; simp)
    simp [Gh.back, this, backO, hm]
end back
theorem callsTo (hR : Rel n S g a w) {f : FuncId} {us : Array Value} {vs : List AVal} (hus : RIs g w vs us.toList) (hfl : ∀ v ∈ vs, flv v = true) {K : AState → Prop} (hd : ∀ k, o.dst = some k → k < n)
    (hc : ACalls P f vs S.heap fun r h => noBox r = true → K ({ S with heap := h }.put o.dst r)) (hrun : (execOp a.eval o).run P w = .ok (.enter f us) w) {g0 : Gh} (he0 : Evo g0 w g w) (hn : Goes n g0 w K next) : o.wp P a w next Q := by
  unfold Oper.wp; rw [hrun]
  intro cs
  obtain ⟨e, w', fr, ⟨v, rfl, r, h', g', hK, hnb, hrv, hh, he⟩, hs⟩ := hc.2 g.hide w us (RIs.mono (g := g) (g' := g.hide) ⟨fun _ _ _ h => h, Nat.le_refl _, fun _ _ => rfl⟩ _ _ hus) hfl hR.heap.hide cs
  refine ⟨_, w', fr, ?_, hs⟩
  have hK := hK hnb
  have hv := hR.heap.valid
  have key : ∀ d, RV (g.back g' d) w' (.slot d) r v := fun d =>
    RV.mono (g := g') (g' := g.back g' d) ⟨fun _ _ _ h => h, Nat.le_refl _, fun _ _ => rfl⟩ (fun p => back_keep hv he (by simp) rfl) _ _ (fun s off e => by rw [e] at hnb; cases hnb) hrv
  cases hdst : o.dst with
  | none =>
    rw [hdst] at hK
    exact hn _ (g.back g' 0) _ w' hK (hR.back he hh) (he0.trans (evo_back hv he))
  | some d =>
    rw [hdst] at hK
    refine hn _ (g.back g' d) _ w' hK ((hR.back he hh).put (d := some d) (by intro k hk; cases hk; exact hd d hdst) ?_) (he0.trans (evo_back hv he))
    intro k hk; cases hk; exact key d
theorem Rel.prom? (pr : Bool) (args : List AOpn) (hR : Rel n S g a w) : ∃ g', Rel n (if pr then S.promAll args else S) g' a w ∧ Evo g w g' w := by
  cases pr with
  | true => exact hR.promAll args
  | false => exact ⟨g, hR, .refl g w⟩
theorem eff_call (pr : Bool) (hR : Rel n S g a w) {c : Call} {f : FuncId} {ys : List AOpn} (ho : o.op = .call c) (hcal : c.callee = .value (.func f)) (hx : opns c.args.toList ys = true) (hd : ∀ k, o.dst = some k → k < n) {K : AState → Prop}
    (h : (∀ x ∈ ys, noBox ((if pr then S.promAll ys else S).rd x) = true) ∧ ACalls P f (ys.map (if pr then S.promAll ys else S).rd) (if pr then S.promAll ys else S).heap (fun r h => noBox r = true → K ({ (if pr then S.promAll ys else S) with heap := h }.put o.dst r))) (hn : Goes n g w K next) : o.wp P a w next Q := by
  obtain ⟨g1, hR1, evo⟩ := hR.prom? pr ys
  obtain ⟨h1, h2⟩ := h
  have hri := RIs.of_opns hR1 hx h1
  refine callsTo hR1 (us := c.args.map a.eval) (by simpa using hri) ?_ hd h2 ?_ evo hn
  · intro v hv
    obtain ⟨y, _, rfl⟩ := List.mem_map.1 hv
    exact rd_fl _ y
  · have := h2.1 (c.args.map a.eval) w
    simp [execOp, ho, resolve, hcal, Act.eval, Deferred.ofValue, invoke, this]
theorem eff_callv (pr : Bool) (hR : Rel n S g a w) {c : Call} {x : Operand} {x' : AOpn} {ys : List AOpn} (ho : o.op = .call c) (hcal : c.callee = .value x) (hx' : opn x x' = true) (hx : opns c.args.toList ys = true) (hd : ∀ k, o.dst = some k → k < n) {K : AState → Prop}
    (h : match (if pr then S.promAll ys else S).rd x' with
      | .func g caps => (∀ x ∈ ys, noBox ((if pr then S.promAll ys else S).rd x) = true) ∧ ACalls P g (ys.map (if pr then S.promAll ys else S).rd ++ caps.map rdc) (if pr then S.promAll ys else S).heap (fun r h => noBox r = true → K ({ (if pr then S.promAll ys else S) with heap := h }.put o.dst r))
      | _ => False) (hn : Goes n g w K next) : o.wp P a w next Q := by
  obtain ⟨g1, hR1, evo⟩ := hR.prom? pr ys
  have hv := RT.of_opn hR1 hx'
  split at h
  · rename_i f caps hf
    obtain ⟨h1, h2⟩ := h
    rw [hf] at hv
    simp only[RT,RI] at hv
    obtain ⟨us, e, hus⟩ := hv
    have hri := RIs.of_opns hR1 hx h1
    refine callsTo hR1 (us := c.args.map a.eval ++ us) (by simpa using hri.append hus.rdc) ?_ hd h2 ?_ evo hn
    · intro v hv
      rcases List.mem_append.1 hv with hv | hv
      · obtain ⟨y, _, rfl⟩ := List.mem_map.1 hv
        exact rd_fl _ y
      · obtain ⟨y, _, rfl⟩ := List.mem_map.1 hv
        exact flv_rdc y
    · have := h2.1 (c.args.map a.eval ++ us) w
      simp [execOp, ho, resolve, hcal, e, Deferred.ofValue, invoke, this]
  · exact h.elim
end
end Go.Ge
