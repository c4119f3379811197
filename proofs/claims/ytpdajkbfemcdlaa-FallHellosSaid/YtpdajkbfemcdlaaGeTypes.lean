/- The program's data, as plain data. -/
import Derived.Test.YtpdajkbfemcdlaaGeLib
import Derived.Test.YtpdajkbfemcdlaaGeBridge
set_option linter.unusedSimpArgs false
set_option linter.unusedVariables false
namespace Go.Ge
/-- A list that may be read; the nil slice is empty. -/
def Rdn {α : Type} (o : Own) (l : List α) : Prop := Rdo o ∧ (o = .nil → l = [])
structure Cell where
  X : Int
  Y : Int
  deriving DecidableEq, Inhabited
structure Fault where
  Tick : Int
  Kind : Int
  N : Int
  deriving DecidableEq, Inhabited
structure Msg where
  Kind : Int
  From : Int
  To : Int
  Seq : Int
  Clock : Int
  Cells : List Cell
  deriving DecidableEq, Inhabited
structure Mem where
  Goal : Int
  Ticks : Int
  Asked : List Cell
  Has : List Cell
  Falls : Int
  deriving DecidableEq, Inhabited
structure Event where
  Kind : Int
  N : Int
  Cells : List Cell
  deriving DecidableEq, Inhabited
def cellA (c : Cell) : AVal := .agg [.int .i64 c.X, .int .i64 c.Y]
def cellsA (l : List Cell) : List AVal := l.map cellA
def faultA (f : Fault) : AVal := .agg [.int .i64 f.Tick, .int .i64 f.Kind, .int .i64 f.N]
def faultsA (l : List Fault) : List AVal := l.map faultA
/-- A message, its cells held by o. -/
def msgC (o : Own) (m : Msg) : List AVal := [.int .i64 m.Kind, .int .i64 m.From, .int .i64 m.To, .int .i64 m.Seq, .int .u32 m.Clock, .lst o (cellsA m.Cells)]
def msgA (o : Own) (m : Msg) : AVal := .agg (msgC o m)
def memC (o p : Own) (m : Mem) : List AVal := [.int .i64 m.Goal, .int .i64 m.Ticks, .lst o (cellsA m.Asked), .lst p (cellsA m.Has), .int .i64 m.Falls]
def memA (o p : Own) (m : Mem) : AVal := .agg (memC o p m)
def eventC (o : Own) (e : Event) : List AVal := [.int .i64 e.Kind, .int .i64 e.N, .lst o (cellsA e.Cells)]
def eventA (o : Own) (e : Event) : AVal := .agg (eventC o e)
/-- A list of messages, the cells of each held as they may be. -/
def MsgsA (l : List Msg) (xs : List AVal) : Prop := xs.length = l.length ∧ ∀ (i : Nat) (m : Msg), l[i]? = some m → ∃ o, Rdn o m.Cells ∧ xs[i]? = some (msgA o m)
def inI64 (n : Int) : Prop := -9223372036854775808 ≤ n ∧ n < 9223372036854775808
def inU32 (n : Int) : Prop := 0 ≤ n ∧ n < 4294967296
def inU8 (n : Int) : Prop := 0 ≤ n ∧ n < 256
def Cell.wf (c : Cell) : Prop := inI64 c.X ∧ inI64 c.Y
def Fault.wf (f : Fault) : Prop := inI64 f.Tick ∧ inI64 f.Kind ∧ inI64 f.N
structure Msg.wf (m : Msg) : Prop where
  kind : inI64 m.Kind
  fr : inI64 m.From
  to : inI64 m.To
  seq : inI64 m.Seq
  clock : inU32 m.Clock
  cells : ∀ c ∈ m.Cells, c.wf
  len : m.Cells.length * 16 ≤ reachBytes

structure Mem.wf (m : Mem) : Prop where
  goal : inI64 m.Goal
  ticks : inI64 m.Ticks
  falls : inI64 m.Falls
  asked : ∀ c ∈ m.Asked, c.wf
  has : ∀ c ∈ m.Has, c.wf
  len1 : m.Asked.length * 16 ≤ reachBytes
  len2 : m.Has.length * 16 ≤ reachBytes
structure Event.wf (e : Event) : Prop where
  kind : inI64 e.Kind
  n : inI64 e.N
  cells : ∀ c ∈ e.Cells, c.wf
  len : e.Cells.length * 16 ≤ reachBytes
@[go_sem] theorem cellsA_length {l : List Cell} : (cellsA l).length = l.length := by simp [cellsA]
@[go_sem] theorem faultsA_length {l : List Fault} : (faultsA l).length = l.length := by simp [faultsA]
theorem at_cells {l : List Cell} {i : Nat} (h : i < l.length) : at_ (cellsA l) (i : Int) = cellA l[i] := by
  rw [cellsA, at_map _ _ h]; simp [List.getD_eq_getElem?_getD, h]
theorem at_faults {l : List Fault} {i : Nat} (h : i < l.length) : at_ (faultsA l) (i : Int) = faultA l[i] := by
  rw [faultsA, at_map _ _ h]; simp [List.getD_eq_getElem?_getD, h]
@[go_sem] theorem noBox_cellA {c : Cell} : noBox (cellA c) = true := rfl
@[go_sem] theorem noBox_faultA {c : Fault} : noBox (faultA c) = true := rfl
/-! ### What a law's data are -/
theorem wf_i64 {n : Int} (h : (Lit.int .i64 n).wf = true) : inI64 n := by
  simp [Lit.wf, IntKind.min, IntKind.max, IntKind.signed, IntKind.bits] at h; unfold inI64; omega
theorem wf_u32 {n : Int} (h : (Lit.int .u32 n).wf = true) : inU32 n := by
  simp [Lit.wf, IntKind.min, IntKind.max, IntKind.signed, IntKind.bits] at h; unfold inU32; omega
theorem wf_u8 {n : Int} (h : (Lit.int .u8 n).wf = true) : inU8 n := by
  simp [Lit.wf, IntKind.min, IntKind.max, IntKind.signed, IntKind.bits] at h; unfold inU8; omega
def Rdi (o : Own) (n : Nat) : Prop := Rdo o
/-- A list of a law, read by what its elements are. -/
theorem has_list {α : Type} {by_ : Nat} {ag : Bool} {es : List Ty} {x : AVal} {f : α → AVal} {p : α → Prop} (hel : ∀ cs, HasL es cs → ∃ a, packV ag cs = f a ∧ p a) (h : HasC (.slice by_ ag es) x) :
    ∃ (o : Own) (l : List α), x = .lst o (l.map f) ∧ Rdn o l ∧ (∀ a ∈ l, p a) ∧ l.length * by_ ≤ reachBytes := by
  simp only [HasC] at h
  obtain ⟨o, xs, rfl, ho, _, hb, hx⟩ := h
  have key : ∀ xs : List AVal, (∀ y ∈ xs, ∃ cs, y = packV ag cs ∧ HasL es cs) → ∃ l : List α, xs = l.map f ∧ ∀ a ∈ l, p a := by
    intro xs
    induction xs with
    | nil => intro _; exact ⟨[], rfl, by simp⟩
    | cons y ys ih =>
      intro h
      obtain ⟨cs, rfl, hc⟩ := h y (by simp)
      obtain ⟨a, e, hp⟩ := hel cs hc
      obtain ⟨l, rfl, hl⟩ := ih fun z hz => h z (by simp [hz])
      exact ⟨a :: l, by simp [e], by simpa using ⟨hp, hl⟩⟩
  obtain ⟨l, rfl, hl⟩ := key xs hx
  refine ⟨o, l, rfl, ?_, hl, by simpa using hb⟩
  rcases ho with rfl | ⟨rfl, h0⟩
  · exact ⟨.sh, fun h => by cases h⟩
  · exact ⟨.nil, fun _ => by simpa using h0⟩
theorem has1 {t : Ty} {ts : List Ty} {xs : List AVal} (h : HasL (t :: ts) xs) : ∃ y ys, xs = y :: ys ∧ HasC t y ∧ HasL ts ys := by simpa only [HasL] using h
theorem has0 {xs : List AVal} (h : HasL [] xs) : xs = [] := by simpa only [HasL] using h
theorem has_i64 {y : AVal} (h : HasC (.int .i64) y) : ∃ n, y = .int .i64 n ∧ inI64 n := by
  simp only [HasC] at h; obtain ⟨n, e, w⟩ := h; exact ⟨n, e, wf_i64 w⟩
theorem has_u32 {y : AVal} (h : HasC (.int .u32) y) : ∃ n, y = .int .u32 n ∧ inU32 n := by
  simp only [HasC] at h; obtain ⟨n, e, w⟩ := h; exact ⟨n, e, wf_u32 w⟩
theorem has_u8 {y : AVal} (h : HasC (.int .u8) y) : ∃ n, y = .int .u8 n ∧ inU8 n := by
  simp only [HasC] at h; obtain ⟨n, e, w⟩ := h; exact ⟨n, e, wf_u8 w⟩
theorem has_bool {y : AVal} (h : HasC .bool y) : ∃ b, y = .bool b := by simpa only [HasC] using h
abbrev tyCell : List Ty := [.int .i64, .int .i64]
abbrev tyFault : List Ty := [.int .i64, .int .i64, .int .i64]
abbrev tyCells : Ty := .slice 16 true tyCell
abbrev tyMsg : List Ty := [.int .i64, .int .i64, .int .i64, .int .i64, .int .u32, tyCells]
theorem has_cell (cs : List AVal) (h : HasL tyCell cs) : ∃ c : Cell, packV true cs = cellA c ∧ c.wf := by
  obtain ⟨x, xs, rfl, h1, h⟩ := has1 h
  obtain ⟨y, ys, rfl, h2, h⟩ := has1 h
  obtain rfl := has0 h
  obtain ⟨a, rfl, ha⟩ := has_i64 h1
  obtain ⟨b, rfl, hb⟩ := has_i64 h2
  exact ⟨⟨a, b⟩, rfl, ha, hb⟩
theorem has_fault (cs : List AVal) (h : HasL tyFault cs) : ∃ c : Fault, packV true cs = faultA c ∧ c.wf := by
  obtain ⟨x, xs, rfl, h1, h⟩ := has1 h
  obtain ⟨y, ys, rfl, h2, h⟩ := has1 h
  obtain ⟨z, zs, rfl, h3, h⟩ := has1 h
  obtain rfl := has0 h
  obtain ⟨a, rfl, ha⟩ := has_i64 h1
  obtain ⟨b, rfl, hb⟩ := has_i64 h2
  obtain ⟨c, rfl, hc⟩ := has_i64 h3
  exact ⟨⟨a, b, c⟩, rfl, ha, hb, hc⟩
theorem has_cells {y : AVal} (h : HasC tyCells y) : ∃ o l, y = .lst o (cellsA l) ∧ Rdn o l ∧ (∀ c ∈ l, c.wf) ∧ l.length * 16 ≤ reachBytes := has_list has_cell h
theorem has_faults {y : AVal} (h : HasC (.slice 24 true tyFault) y) : ∃ o l, y = .lst o (faultsA l) ∧ Rdn o l ∧ (∀ c ∈ l, c.wf) ∧ l.length * 24 ≤ reachBytes := has_list has_fault h
theorem has_msg (cs : List AVal) (h : HasL tyMsg cs) : ∃ o m, cs = msgC o m ∧ Rdn o m.Cells ∧ m.wf := by
  obtain ⟨x1, xs, rfl, h1, h⟩ := has1 h
  obtain ⟨x2, xs, rfl, h2, h⟩ := has1 h
  obtain ⟨x3, xs, rfl, h3, h⟩ := has1 h
  obtain ⟨x4, xs, rfl, h4, h⟩ := has1 h
  obtain ⟨x5, xs, rfl, h5, h⟩ := has1 h
  obtain ⟨x6, xs, rfl, h6, h⟩ := has1 h
  obtain rfl := has0 h
  obtain ⟨a, rfl, ha⟩ := has_i64 h1
  obtain ⟨b, rfl, hb⟩ := has_i64 h2
  obtain ⟨c, rfl, hc⟩ := has_i64 h3
  obtain ⟨d, rfl, hd⟩ := has_i64 h4
  obtain ⟨e, rfl, he⟩ := has_u32 h5
  obtain ⟨o, l, rfl, ho, hl, hn⟩ := has_cells h6
  exact ⟨o, ⟨a, b, c, d, e, l⟩, rfl, ho, ⟨ha, hb, hc, hd, he, hl, hn⟩⟩
abbrev tyMem : List Ty := [.int .i64, .int .i64, tyCells, tyCells, .int .i64]
abbrev tyEvent : List Ty := [.int .i64, .int .i64, tyCells]
theorem has_mem (cs : List AVal) (h : HasL tyMem cs) : ∃ o p m, cs = memC o p m ∧ Rdn o m.Asked ∧ Rdn p m.Has ∧ m.wf := by
  obtain ⟨x1, xs, rfl, h1, h⟩ := has1 h
  obtain ⟨x2, xs, rfl, h2, h⟩ := has1 h
  obtain ⟨x3, xs, rfl, h3, h⟩ := has1 h
  obtain ⟨x4, xs, rfl, h4, h⟩ := has1 h
  obtain ⟨x5, xs, rfl, h5, h⟩ := has1 h
  obtain rfl := has0 h
  obtain ⟨a, rfl, ha⟩ := has_i64 h1
  obtain ⟨b, rfl, hb⟩ := has_i64 h2
  obtain ⟨o, l, rfl, ho, hl, hn⟩ := has_cells h3
  obtain ⟨p, k, rfl, hp, hk, hm⟩ := has_cells h4
  obtain ⟨c, rfl, hc⟩ := has_i64 h5
  exact ⟨o, p, ⟨a, b, l, k, c⟩, rfl, ho, hp, ⟨ha, hb, hc, hl, hk, hn, hm⟩⟩
theorem has_event (cs : List AVal) (h : HasL tyEvent cs) : ∃ o e, cs = eventC o e ∧ Rdn o e.Cells ∧ e.wf := by
  obtain ⟨x1, xs, rfl, h1, h⟩ := has1 h
  obtain ⟨x2, xs, rfl, h2, h⟩ := has1 h
  obtain ⟨x3, xs, rfl, h3, h⟩ := has1 h
  obtain rfl := has0 h
  obtain ⟨a, rfl, ha⟩ := has_i64 h1
  obtain ⟨b, rfl, hb⟩ := has_i64 h2
  obtain ⟨o, l, rfl, ho, hl, hn⟩ := has_cells h3
  exact ⟨o, ⟨a, b, l⟩, rfl, ho, ⟨ha, hb, hl, hn⟩⟩
theorem has_bytes {y : AVal} (h : HasC (.slice 1 false [.int .u8]) y) : ∃ o l, y = .lst o (ints .u8 l) ∧ Rdn o l ∧ (∀ c ∈ l, inU8 c) ∧ l.length ≤ reachBytes := by
  obtain ⟨o, l, e, h1, h2, h3⟩ := has_list (f := AVal.int .u8) (p := inU8) (fun cs hcs => by
    obtain ⟨x, xs, rfl, h1, h⟩ := has1 hcs
    obtain rfl := has0 h
    obtain ⟨a, rfl, ha⟩ := has_u8 h1
    exact ⟨a, rfl, ha⟩) h
  exact ⟨o, l, e, h1, h2, by omega⟩
theorem has_ints {y : AVal} (h : HasC (.slice 8 false [.int .i64]) y) : ∃ o l, y = .lst o (ints .i64 l) ∧ Rdn o l ∧ (∀ c ∈ l, inI64 c) ∧ l.length * 8 ≤ reachBytes := by
  obtain ⟨o, l, e, h1, h2, h3⟩ := has_list (f := AVal.int .i64) (p := inI64) (fun cs hcs => by
    obtain ⟨x, xs, rfl, h1, h⟩ := has1 hcs
    obtain rfl := has0 h
    obtain ⟨a, rfl, ha⟩ := has_i64 h1
    exact ⟨a, rfl, ha⟩) h
  exact ⟨o, l, e, h1, h2, h3⟩
theorem has_u32s {y : AVal} (h : HasC (.slice 4 false [.int .u32]) y) : ∃ o l, y = .lst o (ints .u32 l) ∧ Rdn o l ∧ (∀ c ∈ l, inU32 c) ∧ l.length * 4 ≤ reachBytes := by
  obtain ⟨o, l, e, h1, h2, h3⟩ := has_list (f := AVal.int .u32) (p := inU32) (fun cs hcs => by
    obtain ⟨x, xs, rfl, h1, h⟩ := has1 hcs
    obtain rfl := has0 h
    obtain ⟨a, rfl, ha⟩ := has_u32 h1
    exact ⟨a, rfl, ha⟩) h
  exact ⟨o, l, e, h1, h2, h3⟩
theorem hasA1 {ag : Bool} {t : List Ty} {ts : List (Bool × List Ty)} {xs : List AVal} (h : HasA ((ag, t) :: ts) xs) : ∃ cs ys, xs = packV ag cs :: ys ∧ HasL t cs ∧ HasA ts ys := by simpa only [HasA] using h
theorem hasA0 {xs : List AVal} (h : HasA [] xs) : xs = [] := by simpa only [HasA] using h
/-- One scalar argument. -/
theorem pack1 {t : Ty} {cs : List AVal} (h : HasL [t] cs) : ∃ y, packV false cs = y ∧ HasC t y := by
  obtain ⟨y, ys, rfl, h1, h⟩ := has1 h
  exact ⟨y, rfl, h1⟩
theorem arg_i64 {cs : List AVal} (h : HasL [.int .i64] cs) : ∃ n, packV false cs = .int .i64 n ∧ inI64 n := by
  obtain ⟨y, e, hy⟩ := pack1 h; rw [e]; exact has_i64 hy
theorem arg_u32 {cs : List AVal} (h : HasL [.int .u32] cs) : ∃ n, packV false cs = .int .u32 n ∧ inU32 n := by
  obtain ⟨y, e, hy⟩ := pack1 h; rw [e]; exact has_u32 hy
theorem arg_u8 {cs : List AVal} (h : HasL [.int .u8] cs) : ∃ n, packV false cs = .int .u8 n ∧ inU8 n := by
  obtain ⟨y, e, hy⟩ := pack1 h; rw [e]; exact has_u8 hy
theorem arg_bytes {cs : List AVal} (h : HasL [.slice 1 false [.int .u8]] cs) : ∃ o l, packV false cs = .lst o (ints .u8 l) ∧ Rdn o l ∧ (∀ c ∈ l, inU8 c) ∧ l.length ≤ reachBytes := by
  obtain ⟨y, e, hy⟩ := pack1 h; rw [e]; exact has_bytes hy
theorem arg_ints {cs : List AVal} (h : HasL [.slice 8 false [.int .i64]] cs) : ∃ o l, packV false cs = .lst o (ints .i64 l) ∧ Rdn o l ∧ (∀ c ∈ l, inI64 c) ∧ l.length * 8 ≤ reachBytes := by
  obtain ⟨y, e, hy⟩ := pack1 h; rw [e]; exact has_ints hy
theorem arg_u32s {cs : List AVal} (h : HasL [.slice 4 false [.int .u32]] cs) : ∃ o l, packV false cs = .lst o (ints .u32 l) ∧ Rdn o l ∧ (∀ c ∈ l, inU32 c) ∧ l.length * 4 ≤ reachBytes := by
  obtain ⟨y, e, hy⟩ := pack1 h; rw [e]; exact has_u32s hy
theorem arg_faults {cs : List AVal} (h : HasL [.slice 24 true tyFault] cs) : ∃ o l, packV false cs = .lst o (faultsA l) ∧ Rdn o l ∧ (∀ c ∈ l, c.wf) ∧ l.length * 24 ≤ reachBytes := by
  obtain ⟨y, e, hy⟩ := pack1 h; rw [e]; exact has_faults hy
theorem arg_msg {cs : List AVal} (h : HasL tyMsg cs) : ∃ o m, packV true cs = msgA o m ∧ Rdn o m.Cells ∧ m.wf := by
  obtain ⟨o, m, rfl, h1, h2⟩ := has_msg cs h; exact ⟨o, m, rfl, h1, h2⟩
theorem arg_mem {cs : List AVal} (h : HasL tyMem cs) : ∃ o p m, packV true cs = memA o p m ∧ Rdn o m.Asked ∧ Rdn p m.Has ∧ m.wf := by
  obtain ⟨o, p, m, rfl, h1, h2, h3⟩ := has_mem cs h; exact ⟨o, p, m, rfl, h1, h2, h3⟩
theorem arg_event {cs : List AVal} (h : HasL tyEvent cs) : ∃ o e, packV true cs = eventA o e ∧ Rdn o e.Cells ∧ e.wf := by
  obtain ⟨o, e, rfl, h1, h2⟩ := has_event cs h; exact ⟨o, e, rfl, h1, h2⟩
theorem bulk_map {α : Type} {f : α → AVal} {k : Nat} (hf : ∀ a, k ≤ bulkV (f a)) : ∀ l : List α, l.length * k ≤ bulkVs (l.map f)
  | [] => by simp
  | x :: l => by
    have h1 := hf x
    have h2 := bulk_map hf l
    simp only [List.length_cons, List.map_cons, bulkVs, Nat.add_mul]; omega
theorem bulk_ints {k : IntKind} (l : List Int) : l.length ≤ bulkVs (ints k l) := by
  have := bulk_map (f := AVal.int k) (k := 1) (fun a => by simp [bulkV]) l
  simpa [ints] using this
theorem bulk_cells (l : List Cell) : l.length * 2 ≤ bulkVs (cellsA l) := bulk_map (f := cellA) (fun a => by simp [cellA, bulkV, bulkVs]) l
theorem bulk_faults (l : List Fault) : l.length * 3 ≤ bulkVs (faultsA l) := bulk_map (f := faultA) (fun a => by simp [faultA, bulkV, bulkVs]) l
end Go.Ge
