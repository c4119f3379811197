/- What computes: the lemmas by which 'aw' comes to a plain proposition. -/
import Derived.Test.YtpdajkbfemcdlaaGeFun
set_option linter.unusedSimpArgs false
set_option linter.unusedVariables false
namespace Go.Ge
section
variable {S : AState} {n d t s : Nat} {v : AVal}
@[go_sem] theorem rd_t : S.rd (.t n) = rdv (S.env n) := rfl
@[go_sem] theorem rd_c : S.rd (.c v) = rdv v := rfl
@[go_sem] theorem full_t : S.full (.t n) = S.env n := rfl
@[go_sem] theorem full_c : S.full (.c v) = v := rfl
@[go_sem] theorem take_t : S.takeT (.t n) = S.set n (remV (S.env n)) := rfl
@[go_sem] theorem take_c : S.takeT (.c v) = S := rfl
@[go_sem] theorem put_none : S.put none v = S := rfl
@[go_sem] theorem env_put : (S.put (some d) v).env t = if t = d then v else S.env t := rfl
@[go_sem] theorem bx_put : (S.put (some d) v).boxes = S.boxes := rfl
@[go_sem] theorem hp_put : (S.put (some d) v).heap = S.heap := rfl
@[go_sem] theorem env_set : (S.set d v).env t = if t = d then v else S.env t := rfl
@[go_sem] theorem bx_set : (S.set d v).boxes = S.boxes := rfl
@[go_sem] theorem hp_set : (S.set d v).heap = S.heap := rfl
@[go_sem] theorem env_setBox {cs : Option (List AVal)} : (S.setBox d cs).env = S.env := rfl
@[go_sem] theorem bx_setBox {cs : Option (List AVal)} : (S.setBox d cs).boxes t = if t = d then cs else S.boxes t := rfl
def proV (s n : Nat) (b : Bool) : AVal → AVal
  | .box s' o => if b = true ∧ s' = s then .hp n o else .box s' o
  | v => v
@[go_sem] theorem env_promote {s : Nat} : (S.promote s).env t = proV s S.heap.length (S.boxes s).isSome (S.env t) := by
  unfold AState.promote proV
  cases h : S.boxes s with
  | none => simp only [Option.isSome_none, Bool.false_eq_true, false_and, if_false]; split <;> simp_all
  | some cs => simp only [Option.isSome_some, true_and]; rfl
@[go_sem] theorem bx_promote {s : Nat} : (S.promote s).boxes t = if t = s then none else S.boxes t := by
  unfold AState.promote
  cases h : S.boxes s with
  | none => simp only; split
            · rename_i e; rw [e, h]
            · rfl
  | some cs => rfl
@[go_sem] theorem hp_promote {s : Nat} : (S.promote s).heap = S.heap ++ (match S.boxes s with | some cs => [.cells cs] | none => []) := by
  unfold AState.promote
  cases h : S.boxes s with
  | none => simp
  | some cs => rfl
@[go_sem] theorem proV_box {s n s' o : Nat} {b : Bool} : proV s n b (.box s' o) = if b = true ∧ s' = s then .hp n o else .box s' o := rfl
@[go_sem] theorem proV_int {s n : Nat} {b : Bool} {k : IntKind} {m : Int} : proV s n b (.int k m) = .int k m := rfl
@[go_sem] theorem proV_bool {s n : Nat} {b c : Bool} : proV s n b (.bool c) = .bool c := rfl
@[go_sem] theorem proV_str {s n : Nat} {b : Bool} {c : ByteArray} : proV s n b (.str c) = .str c := rfl
@[go_sem] theorem proV_lst {s n : Nat} {b : Bool} {o : Own} {xs : List AVal} : proV s n b (.lst o xs) = .lst o xs := rfl
@[go_sem] theorem proV_ref {s n i j k l : Nat} {b : Bool} : proV s n b (.ref i j k l) = .ref i j k l := rfl
@[go_sem] theorem proV_hp {s n i o : Nat} {b : Bool} : proV s n b (.hp i o) = .hp i o := rfl
@[go_sem] theorem proV_agg {s n : Nat} {b : Bool} {cs : List AVal} : proV s n b (.agg cs) = .agg cs := rfl
@[go_sem] theorem proV_tup {s n : Nat} {b : Bool} {cs : List AVal} : proV s n b (.tup cs) = .tup cs := rfl
@[go_sem] theorem proV_func {s n g : Nat} {b : Bool} {cs : List AVal} : proV s n b (.func g cs) = .func g cs := rfl
@[go_sem] theorem proV_junk {s n : Nat} {b : Bool} : proV s n b .junk = .junk := rfl
@[go_sem] theorem proV_nilptr {s n : Nat} {b : Bool} : proV s n b .nilptr = .nilptr := rfl
@[go_sem] theorem hp_setBox {cs : Option (List AVal)} : (S.setBox d cs).heap = S.heap := rfl
/-- The value that a slot holds when box s is dropped. -/
def drV (s : Nat) : AVal → AVal
  | .box s' o => if s' = s then .junk else .box s' o
  | v => v
@[go_sem] theorem env_drop : (S.drop s).env t = drV s (S.env t) := by simp only [AState.drop, drV]; cases S.env t <;> rfl
@[go_sem] theorem bx_drop : (S.drop s).boxes = S.boxes := rfl
@[go_sem] theorem hp_drop : (S.drop s).heap = S.heap := rfl
@[go_sem] theorem env_start {vs : List AVal} {h : List HObj} : (AState.start vs h).env t = vs.getD t .junk := rfl
@[go_sem] theorem bx_start {vs : List AVal} {h : List HObj} : (AState.start vs h).boxes t = none := rfl
@[go_sem] theorem hp_start {vs : List AVal} {h : List HObj} : (AState.start vs h).heap = h := rfl
@[go_sem] theorem eta_heap {h : List HObj} : ({ S with heap := h } : AState).env = S.env := rfl
@[go_sem] theorem env_mk {e : Nat → AVal} {b : Nat → Option (List AVal)} {h : List HObj} : (AState.mk e b h).env = e := rfl
@[go_sem] theorem bx_mk {e : Nat → AVal} {b : Nat → Option (List AVal)} {h : List HObj} : (AState.mk e b h).boxes = b := rfl
@[go_sem] theorem hp_mk {e : Nat → AVal} {b : Nat → Option (List AVal)} {h : List HObj} : (AState.mk e b h).heap = h := rfl
end
@[go_sem] theorem drV_int {s : Nat} {k : IntKind} {n : Int} : drV s (.int k n) = .int k n := rfl
@[go_sem] theorem drV_bool {s : Nat} {b : Bool} : drV s (.bool b) = .bool b := rfl
@[go_sem] theorem drV_str {s : Nat} {b : ByteArray} : drV s (.str b) = .str b := rfl
@[go_sem] theorem drV_junk {s : Nat} : drV s .junk = .junk := rfl
@[go_sem] theorem drV_agg {s : Nat} {cs : List AVal} : drV s (.agg cs) = .agg cs := rfl
@[go_sem] theorem drV_tup {s : Nat} {cs : List AVal} : drV s (.tup cs) = .tup cs := rfl
@[go_sem] theorem drV_lst {s : Nat} {o : Own} {cs : List AVal} : drV s (.lst o cs) = .lst o cs := rfl
@[go_sem] theorem drV_box {s s' o : Nat} : drV s (.box s' o) = if s' = s then .junk else .box s' o := rfl
@[go_sem] theorem drV_cptr {s : Nat} {cs : List AVal} : drV s (.cptr cs) = .cptr cs := rfl
@[go_sem] theorem drV_hp {s i o : Nat} : drV s (.hp i o) = .hp i o := rfl
@[go_sem] theorem drV_nilptr {s : Nat} : drV s .nilptr = .nilptr := rfl
@[go_sem] theorem drV_func {s g : Nat} {cs : List AVal} : drV s (.func g cs) = .func g cs := rfl
@[go_sem] theorem rdv_int {k : IntKind} {n : Int} : rdv (.int k n) = .int k n := rfl
@[go_sem] theorem rdv_bool {b : Bool} : rdv (.bool b) = .bool b := rfl
@[go_sem] theorem rdv_str {b : ByteArray} : rdv (.str b) = .str b := rfl
@[go_sem] theorem rdv_junk : rdv .junk = .junk := rfl
@[go_sem] theorem rdv_sh {xs : List AVal} : rdv (.lst .sh xs) = .lst .sh xs := rfl
@[go_sem] theorem rdv_nil {xs : List AVal} : rdv (.lst .nil xs) = .lst .nil xs := rfl
@[go_sem] theorem rdv_app {z : Nat} {xs : List AVal} : rdv (.lst (.app z) xs) = .lst .sh xs := rfl
@[go_sem] theorem rdv_uniq {z c : Nat} {xs : List AVal} : rdv (.lst (.uniq z c) xs) = .junk := rfl
@[go_sem] theorem rdv_agg {cs : List AVal} : rdv (.agg cs) = .agg (cs.map rdc) := rfl
@[go_sem] theorem rdv_tup {cs : List AVal} : rdv (.tup cs) = .tup (cs.map rd1) := rfl
@[go_sem] theorem rdv_cptr {cs : List AVal} : rdv (.cptr cs) = .cptr cs := rfl
@[go_sem] theorem rdv_box {s o : Nat} : rdv (.box s o) = .box s o := rfl
@[go_sem] theorem rdv_hp {s o : Nat} : rdv (.hp s o) = .hp s o := rfl
@[go_sem] theorem rdv_ref {i o l c : Nat} : rdv (.ref i o l c) = .ref i o l c := rfl
@[go_sem] theorem rdv_nilptr : rdv .nilptr = .nilptr := rfl
@[go_sem] theorem rdv_func {g : Nat} {cs : List AVal} : rdv (.func g cs) = .func g cs := rfl
@[go_sem] theorem rd1_int {k : IntKind} {n : Int} : rd1 (.int k n) = .int k n := rfl
@[go_sem] theorem rd1_bool {b : Bool} : rd1 (.bool b) = .bool b := rfl
@[go_sem] theorem rd1_str {b : ByteArray} : rd1 (.str b) = .str b := rfl
@[go_sem] theorem rd1_junk : rd1 .junk = .junk := rfl
@[go_sem] theorem rd1_sh {xs : List AVal} : rd1 (.lst .sh xs) = .lst .sh xs := rfl
@[go_sem] theorem rd1_nil {xs : List AVal} : rd1 (.lst .nil xs) = .lst .nil xs := rfl
@[go_sem] theorem rd1_app {z : Nat} {xs : List AVal} : rd1 (.lst (.app z) xs) = .lst .sh xs := rfl
@[go_sem] theorem rd1_agg {cs : List AVal} : rd1 (.agg cs) = .agg (cs.map rdc) := rfl
@[go_sem] theorem rd1_nilptr : rd1 .nilptr = .nilptr := rfl
@[go_sem] theorem rd1_hp {s o : Nat} : rd1 (.hp s o) = .hp s o := rfl
@[go_sem] theorem rdc_int {k : IntKind} {n : Int} : Go.Ge.rdc (.int k n) = .int k n := rfl
@[go_sem] theorem rdc_bool {b : Bool} : Go.Ge.rdc (.bool b) = .bool b := rfl
@[go_sem] theorem rdc_str {b : ByteArray} : Go.Ge.rdc (.str b) = .str b := rfl
@[go_sem] theorem rdc_sh {xs : List AVal} : Go.Ge.rdc (.lst .sh xs) = .lst .sh xs := rfl
@[go_sem] theorem rdc_nil {xs : List AVal} : Go.Ge.rdc (.lst .nil xs) = .lst .nil xs := rfl
@[go_sem] theorem rdc_app {z : Nat} {xs : List AVal} : Go.Ge.rdc (.lst (.app z) xs) = .lst .sh xs := rfl
@[go_sem] theorem rdc_nilptr : Go.Ge.rdc .nilptr = .nilptr := rfl
@[go_sem] theorem rdc_hp {s o : Nat} : Go.Ge.rdc (.hp s o) = .hp s o := rfl
@[go_sem] theorem rdc_func {g : Nat} {cs : List AVal} : Go.Ge.rdc (.func g cs) = .func g cs := rfl
@[go_sem] theorem remV_int {k : IntKind} {n : Int} : remV (.int k n) = .int k n := rfl
@[go_sem] theorem remV_bool {b : Bool} : remV (.bool b) = .bool b := rfl
@[go_sem] theorem remV_str {b : ByteArray} : remV (.str b) = .str b := rfl
@[go_sem] theorem remV_junk : remV .junk = .junk := rfl
@[go_sem] theorem remV_sh {xs : List AVal} : remV (.lst .sh xs) = .lst .sh xs := rfl
@[go_sem] theorem remV_nil {xs : List AVal} : remV (.lst .nil xs) = .lst .nil xs := rfl
@[go_sem] theorem remV_app {z : Nat} {xs : List AVal} : remV (.lst (.app z) xs) = .lst .sh xs := rfl
@[go_sem] theorem remV_agg {cs : List AVal} : remV (.agg cs) = .agg (cs.map remc) := rfl
@[go_sem] theorem remV_bx {s o : Nat} : remV (.box s o) = .box s o := rfl
@[go_sem] theorem remV_hp {s o : Nat} : remV (.hp s o) = .hp s o := rfl
@[go_sem] theorem remc_int {k : IntKind} {n : Int} : remc (.int k n) = .int k n := rfl
@[go_sem] theorem remc_bool {b : Bool} : remc (.bool b) = .bool b := rfl
@[go_sem] theorem remc_str {b : ByteArray} : remc (.str b) = .str b := rfl
@[go_sem] theorem remc_sh {xs : List AVal} : remc (.lst .sh xs) = .lst .sh xs := rfl
@[go_sem] theorem remc_nil {xs : List AVal} : remc (.lst .nil xs) = .lst .nil xs := rfl
@[go_sem] theorem remc_app {z : Nat} {xs : List AVal} : remc (.lst (.app z) xs) = .lst .sh xs := rfl
@[go_sem] theorem remc_nilptr : remc .nilptr = .nilptr := rfl
attribute [go_sem] AState.live lenV slenV nilckV pickF pickV beqV pnilV eqsV unV convV b2sV s2bV sameV faddrV fieldV iaddrV aaddrV idxV aidxV extV mnV mxV foldV mksliceV binV binInt binStr memV sliceV ssliceV loV hiV
  buildV storeV srcV AState.promAll emptV sliceAV b2sRV capV
@[go_sem] theorem width_junk  : AVal.width (.junk) = 0 := rfl
@[go_sem] theorem cells_junk  : AVal.cells (.junk) = [.junk] := rfl
@[go_sem] theorem noBox_junk  : noBox (.junk) = true := rfl
@[go_sem] theorem plainV_junk  : plainV (.junk) = true := rfl
@[go_sem] theorem storC_junk  : storC (.junk) = false := rfl
@[go_sem] theorem storable_junk  : storable (.junk) = false := rfl
@[go_sem] theorem memLv_junk  : memLv (.junk) = 2 := rfl
@[go_sem] theorem flC_junk  : flC (.junk) = true := rfl
@[go_sem] theorem width_int {k : IntKind} {n : Int} : AVal.width (.int k n) = 1 := rfl
@[go_sem] theorem cells_int {k : IntKind} {n : Int} : AVal.cells (.int k n) = [.int k n] := rfl
@[go_sem] theorem noBox_int {k : IntKind} {n : Int} : noBox (.int k n) = true := rfl
@[go_sem] theorem plainV_int {k : IntKind} {n : Int} : plainV (.int k n) = true := rfl
@[go_sem] theorem storC_int {k : IntKind} {n : Int} : storC (.int k n) = true := rfl
@[go_sem] theorem storable_int {k : IntKind} {n : Int} : storable (.int k n) = true := rfl
@[go_sem] theorem memLv_int {k : IntKind} {n : Int} : memLv (.int k n) = 2 := rfl
@[go_sem] theorem flC_int {k : IntKind} {n : Int} : flC (.int k n) = true := rfl
@[go_sem] theorem width_bool {b : Bool} : AVal.width (.bool b) = 1 := rfl
@[go_sem] theorem cells_bool {b : Bool} : AVal.cells (.bool b) = [.bool b] := rfl
@[go_sem] theorem noBox_bool {b : Bool} : noBox (.bool b) = true := rfl
@[go_sem] theorem plainV_bool {b : Bool} : plainV (.bool b) = true := rfl
@[go_sem] theorem storC_bool {b : Bool} : storC (.bool b) = true := rfl
@[go_sem] theorem storable_bool {b : Bool} : storable (.bool b) = true := rfl
@[go_sem] theorem memLv_bool {b : Bool} : memLv (.bool b) = 2 := rfl
@[go_sem] theorem flC_bool {b : Bool} : flC (.bool b) = true := rfl
@[go_sem] theorem width_str {s : ByteArray} : AVal.width (.str s) = 1 := rfl
@[go_sem] theorem cells_str {s : ByteArray} : AVal.cells (.str s) = [.str s] := rfl
@[go_sem] theorem noBox_str {s : ByteArray} : noBox (.str s) = true := rfl
@[go_sem] theorem plainV_str {s : ByteArray} : plainV (.str s) = true := rfl
@[go_sem] theorem storC_str {s : ByteArray} : storC (.str s) = true := rfl
@[go_sem] theorem storable_str {s : ByteArray} : storable (.str s) = true := rfl
@[go_sem] theorem memLv_str {s : ByteArray} : memLv (.str s) = 2 := rfl
@[go_sem] theorem flC_str {s : ByteArray} : flC (.str s) = true := rfl
@[go_sem] theorem width_agg {cs : List AVal} : AVal.width (.agg cs) = cs.length := rfl
@[go_sem] theorem cells_agg {cs : List AVal} : AVal.cells (.agg cs) = cs := rfl
@[go_sem] theorem noBox_agg {cs : List AVal} : noBox (.agg cs) = true := rfl
@[go_sem] theorem plainV_agg {cs : List AVal} : plainV (.agg cs) = true := rfl
@[go_sem] theorem storC_agg {cs : List AVal} : storC (.agg cs) = false := rfl
@[go_sem] theorem storable_agg {cs : List AVal} : storable (.agg cs) = cs.all storC := rfl
@[go_sem] theorem memLv_agg {cs : List AVal} : memLv (.agg cs) = 2 := rfl
@[go_sem] theorem flC_agg {cs : List AVal} : flC (.agg cs) = true := rfl
@[go_sem] theorem width_tup {vs : List AVal} : AVal.width (.tup vs) = 0 := rfl
@[go_sem] theorem cells_tup {vs : List AVal} : AVal.cells (.tup vs) = [.tup vs] := rfl
@[go_sem] theorem noBox_tup {vs : List AVal} : noBox (.tup vs) = true := rfl
@[go_sem] theorem plainV_tup {vs : List AVal} : plainV (.tup vs) = false := rfl
@[go_sem] theorem storC_tup {vs : List AVal} : storC (.tup vs) = false := rfl
@[go_sem] theorem storable_tup {vs : List AVal} : storable (.tup vs) = false := rfl
@[go_sem] theorem memLv_tup {vs : List AVal} : memLv (.tup vs) = 2 := rfl
@[go_sem] theorem flC_tup {vs : List AVal} : flC (.tup vs) = true := rfl
@[go_sem] theorem width_lst {o : Own} {xs : List AVal} : AVal.width (.lst o xs) = 1 := rfl
@[go_sem] theorem cells_lst {o : Own} {xs : List AVal} : AVal.cells (.lst o xs) = [.lst o xs] := rfl
@[go_sem] theorem noBox_lst {o : Own} {xs : List AVal} : noBox (.lst o xs) = true := rfl
@[go_sem] theorem plainV_lst {o : Own} {xs : List AVal} : plainV (.lst o xs) = true := rfl
@[go_sem] theorem storC_lst {o : Own} {xs : List AVal} : storC (.lst o xs) = true := rfl
@[go_sem] theorem storable_lst {o : Own} {xs : List AVal} : storable (.lst o xs) = true := rfl
@[go_sem] theorem memLv_lst {o : Own} {xs : List AVal} : memLv (.lst o xs) = 2 := rfl
@[go_sem] theorem width_cptr {cs : List AVal} : AVal.width (.cptr cs) = 1 := rfl
@[go_sem] theorem cells_cptr {cs : List AVal} : AVal.cells (.cptr cs) = [.cptr cs] := rfl
@[go_sem] theorem noBox_cptr {cs : List AVal} : noBox (.cptr cs) = true := rfl
@[go_sem] theorem plainV_cptr {cs : List AVal} : plainV (.cptr cs) = true := rfl
@[go_sem] theorem storC_cptr {cs : List AVal} : storC (.cptr cs) = true := rfl
@[go_sem] theorem storable_cptr {cs : List AVal} : storable (.cptr cs) = true := rfl
@[go_sem] theorem memLv_cptr {cs : List AVal} : memLv (.cptr cs) = 0 := rfl
@[go_sem] theorem flC_cptr {cs : List AVal} : flC (.cptr cs) = true := rfl
@[go_sem] theorem width_box {s o : Nat} : AVal.width (.box s o) = 1 := rfl
@[go_sem] theorem cells_box {s o : Nat} : AVal.cells (.box s o) = [.box s o] := rfl
@[go_sem] theorem noBox_box {s o : Nat} : noBox (.box s o) = false := rfl
@[go_sem] theorem plainV_box {s o : Nat} : plainV (.box s o) = false := rfl
@[go_sem] theorem storC_box {s o : Nat} : storC (.box s o) = false := rfl
@[go_sem] theorem storable_box {s o : Nat} : storable (.box s o) = false := rfl
@[go_sem] theorem memLv_box {s o : Nat} : memLv (.box s o) = 1 := rfl
@[go_sem] theorem flC_box {s o : Nat} : flC (.box s o) = true := rfl
@[go_sem] theorem width_hp {i o : Nat} : AVal.width (.hp i o) = 1 := rfl
@[go_sem] theorem cells_hp {i o : Nat} : AVal.cells (.hp i o) = [.hp i o] := rfl
@[go_sem] theorem noBox_hp {i o : Nat} : noBox (.hp i o) = true := rfl
@[go_sem] theorem plainV_hp {i o : Nat} : plainV (.hp i o) = true := rfl
@[go_sem] theorem storC_hp {i o : Nat} : storC (.hp i o) = true := rfl
@[go_sem] theorem storable_hp {i o : Nat} : storable (.hp i o) = true := rfl
@[go_sem] theorem memLv_hp {i o : Nat} : memLv (.hp i o) = 2 := rfl
@[go_sem] theorem flC_hp {i o : Nat} : flC (.hp i o) = true := rfl
@[go_sem] theorem width_ref {i o l c : Nat} : AVal.width (.ref i o l c) = 1 := rfl
@[go_sem] theorem cells_ref {i o l c : Nat} : AVal.cells (.ref i o l c) = [.ref i o l c] := rfl
@[go_sem] theorem noBox_ref {i o l c : Nat} : noBox (.ref i o l c) = true := rfl
@[go_sem] theorem plainV_ref {i o l c : Nat} : plainV (.ref i o l c) = true := rfl
@[go_sem] theorem storC_ref {i o l c : Nat} : storC (.ref i o l c) = true := rfl
@[go_sem] theorem storable_ref {i o l c : Nat} : storable (.ref i o l c) = true := rfl
@[go_sem] theorem memLv_ref {i o l c : Nat} : memLv (.ref i o l c) = 2 := rfl
@[go_sem] theorem flC_ref {i o l c : Nat} : flC (.ref i o l c) = true := rfl
@[go_sem] theorem width_nilptr  : AVal.width (.nilptr) = 1 := rfl
@[go_sem] theorem cells_nilptr  : AVal.cells (.nilptr) = [.nilptr] := rfl
@[go_sem] theorem noBox_nilptr  : noBox (.nilptr) = true := rfl
@[go_sem] theorem plainV_nilptr  : plainV (.nilptr) = true := rfl
@[go_sem] theorem storC_nilptr  : storC (.nilptr) = true := rfl
@[go_sem] theorem storable_nilptr  : storable (.nilptr) = true := rfl
@[go_sem] theorem memLv_nilptr  : memLv (.nilptr) = 2 := rfl
@[go_sem] theorem flC_nilptr  : flC (.nilptr) = true := rfl
@[go_sem] theorem width_func {g : Nat} {cs : List AVal} : AVal.width (.func g cs) = 1 := rfl
@[go_sem] theorem cells_func {g : Nat} {cs : List AVal} : AVal.cells (.func g cs) = [.func g cs] := rfl
@[go_sem] theorem noBox_func {g : Nat} {cs : List AVal} : noBox (.func g cs) = true := rfl
@[go_sem] theorem plainV_func {g : Nat} {cs : List AVal} : plainV (.func g cs) = true := rfl
@[go_sem] theorem storC_func {g : Nat} {cs : List AVal} : storC (.func g cs) = true := rfl
@[go_sem] theorem storable_func {g : Nat} {cs : List AVal} : storable (.func g cs) = true := rfl
@[go_sem] theorem memLv_func {g : Nat} {cs : List AVal} : memLv (.func g cs) = 2 := rfl
@[go_sem] theorem flC_func {g : Nat} {cs : List AVal} : flC (.func g cs) = true := rfl
@[go_sem] theorem width_map {i : Nat} : AVal.width (.map i) = 1 := rfl
@[go_sem] theorem cells_map {i : Nat} : AVal.cells (.map i) = [.map i] := rfl
@[go_sem] theorem noBox_map {i : Nat} : noBox (.map i) = true := rfl
@[go_sem] theorem plainV_map {i : Nat} : plainV (.map i) = true := rfl
@[go_sem] theorem storC_map {i : Nat} : storC (.map i) = true := rfl
@[go_sem] theorem storable_map {i : Nat} : storable (.map i) = true := rfl
@[go_sem] theorem memLv_map {i : Nat} : memLv (.map i) = 2 := rfl
@[go_sem] theorem flC_map {i : Nat} : flC (.map i) = true := rfl
@[go_sem] theorem width_nilmap  : AVal.width (.nilmap) = 1 := rfl
@[go_sem] theorem cells_nilmap  : AVal.cells (.nilmap) = [.nilmap] := rfl
@[go_sem] theorem noBox_nilmap  : noBox (.nilmap) = true := rfl
@[go_sem] theorem plainV_nilmap  : plainV (.nilmap) = true := rfl
@[go_sem] theorem storC_nilmap  : storC (.nilmap) = true := rfl
@[go_sem] theorem storable_nilmap  : storable (.nilmap) = true := rfl
@[go_sem] theorem memLv_nilmap  : memLv (.nilmap) = 2 := rfl
@[go_sem] theorem flC_nilmap  : flC (.nilmap) = true := rfl
@[go_sem] theorem flC_lst_sh  {xs : List AVal} : flC (.lst (.sh) xs) = true := rfl
@[go_sem] theorem flC_lst_nil  {xs : List AVal} : flC (.lst (.nil) xs) = true := rfl
@[go_sem] theorem flC_lst_app {z : Nat} {xs : List AVal} : flC (.lst (.app z) xs) = false := rfl
@[go_sem] theorem flC_lst_uniq {z c : Nat} {xs : List AVal} : flC (.lst (.uniq z c) xs) = false := rfl
section
variable {C : CallS} {os : List AO} {S : AState} {K : AState → Prop} {d : Option Nat}
@[go_sem] theorem aops_nil : aops C [] S K = K S := rfl
/-- A guarded operation, its guard told: computed where it is known. -/
def aopsG (C : CallS) (d : Option Nat) (op : AOp) (want : Bool) (v : AVal) (os : List AO) (S : AState) (K : AState → Prop) : Prop :=
  match v with
  | .bool b => (b = want → aops C (⟨d, op, none⟩ :: os) S K) ∧ (b ≠ want → aops C os (S.put d (.tup [])) K)
  | .tup [] => aops C os (S.put d (.tup [])) K
  | _ => False
@[go_sem] theorem aops_guard {op : AOp} {j : Nat} {want : Bool} : aops C (⟨d, op, some (j, want)⟩ :: os) S K = aopsG C d op want (S.env j) os S K := by
  simp only [aops, aopsG]
  cases h : S.env j with
  | tup l => cases l <;> rfl
  | _ => rfl
@[go_sem] theorem aopsG_tt {op : AOp} : aopsG C d op true (.bool true) os S K = aops C (⟨d, op, none⟩ :: os) S K := by simp [aopsG]
@[go_sem] theorem aopsG_ff {op : AOp} : aopsG C d op false (.bool false) os S K = aops C (⟨d, op, none⟩ :: os) S K := by simp [aopsG]
@[go_sem] theorem aopsG_tf {op : AOp} : aopsG C d op true (.bool false) os S K = aops C os (S.put d (.tup [])) K := by simp [aopsG]
@[go_sem] theorem aopsG_ft {op : AOp} : aopsG C d op false (.bool true) os S K = aops C os (S.put d (.tup [])) K := by simp [aopsG]
@[go_sem] theorem aopsG_un {op : AOp} {want : Bool} : aopsG C d op want (.tup []) os S K = aops C os (S.put d (.tup [])) K := rfl
theorem aopsG_split {op : AOp} {want b : Bool} (h1 : b = true → aopsG C d op want (.bool true) os S K) (h2 : b = false → aopsG C d op want (.bool false) os S K) : aopsG C d op want (.bool b) os S K := by
  cases b
  · exact h2 rfl
  · exact h1 rfl
theorem aopsG_if {op : AOp} {want : Bool} {p : Prop} [Decidable p] (h1 : p → aopsG C d op want (.bool true) os S K) (h2 : ¬p → aopsG C d op want (.bool false) os S K) : aopsG C d op want (.bool (decide p)) os S K := by
  by_cases h : p
  · rw [decide_eq_true h]; exact h1 h
  · rw [decide_eq_false h]; exact h2 h
@[go_sem] theorem aops_move (x : AOpn) : aops C (⟨d, .move false x, none⟩ :: os) S K = ((⟨True, S.rd x⟩ : FR).c ∧ S.live (⟨True, S.rd x⟩ : FR).v ∧ aops C os (S.put d (⟨True, S.rd x⟩ : FR).v) K) := rfl
@[go_sem] theorem aops_pick (c a b : AOpn) : aops C (⟨d, .pick c a b, none⟩ :: os) S K = ((pickF (S.rd c) (S.rd a) (S.rd b) : FR).c ∧ S.live (pickF (S.rd c) (S.rd a) (S.rd b) : FR).v ∧ aops C os (S.put d (pickF (S.rd c) (S.rd a) (S.rd b) : FR).v) K) := rfl
@[go_sem] theorem aops_build (zero : List AVal) (parts : List (Nat × Nat × AOpn)) : aops C (⟨d, .build zero parts, none⟩ :: os) S K = ((buildV S.rd zero parts : FR).c ∧ S.live (buildV S.rd zero parts : FR).v ∧ aops C os (S.put d (buildV S.rd zero parts : FR).v) K) := rfl
@[go_sem] theorem aops_buildS (uq : Bool) (sz : Nat) (parts : List AOpn) : aops C (⟨d, .buildS uq sz parts, none⟩ :: os) S K = ((⟨(∀ x ∈ parts, (S.rd x).width = sz ∧ storable (S.rd x) = true) ∧ parts.length * sz ≤ 16777216, .lst (if uq then .uniq sz parts.length else .app sz) (parts.map S.rd)⟩ : FR).c ∧ S.live (⟨(∀ x ∈ parts, (S.rd x).width = sz ∧ storable (S.rd x) = true) ∧ parts.length * sz ≤ 16777216, .lst (if uq then .uniq sz parts.length else .app sz) (parts.map S.rd)⟩ : FR).v ∧ aops C os (S.put d (⟨(∀ x ∈ parts, (S.rd x).width = sz ∧ storable (S.rd x) = true) ∧ parts.length * sz ≤ 16777216, .lst (if uq then .uniq sz parts.length else .app sz) (parts.map S.rd)⟩ : FR).v) K) := rfl
@[go_sem] theorem aops_load (m : Nat) (ag : Bool) (sz : Nat) (x : AOpn) : aops C (⟨d, .load m ag sz x, none⟩ :: os) S K = ((⟨memLv (S.rd x) ≤ m ∧ (memV S.boxes S.heap ag sz (S.rd x)).c, (memV S.boxes S.heap ag sz (S.rd x)).v⟩ : FR).c ∧ S.live (⟨memLv (S.rd x) ≤ m ∧ (memV S.boxes S.heap ag sz (S.rd x)).c, (memV S.boxes S.heap ag sz (S.rd x)).v⟩ : FR).v ∧ aops C os (S.put d (⟨memLv (S.rd x) ≤ m ∧ (memV S.boxes S.heap ag sz (S.rd x)).c, (memV S.boxes S.heap ag sz (S.rd x)).v⟩ : FR).v) K) := rfl
@[go_sem] theorem aops_nilck (x : AOpn) : aops C (⟨d, .nilck x, none⟩ :: os) S K = ((nilckV (S.rd x) : FR).c ∧ S.live (nilckV (S.rd x) : FR).v ∧ aops C os (S.put d (nilckV (S.rd x) : FR).v) K) := rfl
@[go_sem] theorem aops_bin (op : BinOp) (x y : AOpn) : aops C (⟨d, .bin op x y, none⟩ :: os) S K = ((binV op (S.rd x) (S.rd y) : FR).c ∧ S.live (binV op (S.rd x) (S.rd y) : FR).v ∧ aops C os (S.put d (binV op (S.rd x) (S.rd y) : FR).v) K) := rfl
@[go_sem] theorem aops_beq (neg : Bool) (x y : AOpn) : aops C (⟨d, .beq neg x y, none⟩ :: os) S K = ((beqV neg (S.rd x) (S.rd y) : FR).c ∧ S.live (beqV neg (S.rd x) (S.rd y) : FR).v ∧ aops C os (S.put d (beqV neg (S.rd x) (S.rd y) : FR).v) K) := rfl
@[go_sem] theorem aops_pnil (neg : Bool) (x : AOpn) : aops C (⟨d, .pnil neg x, none⟩ :: os) S K = ((pnilV neg (S.rd x) : FR).c ∧ S.live (pnilV neg (S.rd x) : FR).v ∧ aops C os (S.put d (pnilV neg (S.rd x) : FR).v) K) := rfl
@[go_sem] theorem aops_eqs (neg : Bool) (sh : List Sh) (x y : AOpn) : aops C (⟨d, .eqs neg sh x y, none⟩ :: os) S K = ((eqsV neg sh (S.rd x) (S.rd y) : FR).c ∧ S.live (eqsV neg sh (S.rd x) (S.rd y) : FR).v ∧ aops C os (S.put d (eqsV neg sh (S.rd x) (S.rd y) : FR).v) K) := rfl
@[go_sem] theorem aops_un (op : UnOp) (x : AOpn) : aops C (⟨d, .un op x, none⟩ :: os) S K = ((unV op (S.rd x) : FR).c ∧ S.live (unV op (S.rd x) : FR).v ∧ aops C os (S.put d (unV op (S.rd x) : FR).v) K) := rfl
@[go_sem] theorem aops_conv (k : IntKind) (x : AOpn) : aops C (⟨d, .conv k x, none⟩ :: os) S K = ((convV k (S.rd x) : FR).c ∧ S.live (convV k (S.rd x) : FR).v ∧ aops C os (S.put d (convV k (S.rd x) : FR).v) K) := rfl
@[go_sem] theorem aops_b2s (x : AOpn) : aops C (⟨d, .b2s x, none⟩ :: os) S K = ((b2sV (S.rd x) : FR).c ∧ S.live (b2sV (S.rd x) : FR).v ∧ aops C os (S.put d (b2sV (S.rd x) : FR).v) K) := rfl
@[go_sem] theorem aops_s2b (x : AOpn) : aops C (⟨d, .s2b x, none⟩ :: os) S K = ((s2bV (S.rd x) : FR).c ∧ S.live (s2bV (S.rd x) : FR).v ∧ aops C os (S.put d (s2bV (S.rd x) : FR).v) K) := rfl
@[go_sem] theorem aops_same (x : AOpn) : aops C (⟨d, .same x, none⟩ :: os) S K = ((sameV (S.rd x) : FR).c ∧ S.live (sameV (S.rd x) : FR).v ∧ aops C os (S.put d (sameV (S.rd x) : FR).v) K) := rfl
@[go_sem] theorem aops_slice (sz : Nat) (x : AOpn) (lo hi mx : Option AOpn) : aops C (⟨d, .slice sz x lo hi mx, none⟩ :: os) S K = ((sliceV sz S.rd (S.rd x) lo hi mx : FR).c ∧ S.live (sliceV sz S.rd (S.rd x) lo hi mx : FR).v ∧ aops C os (S.put d (sliceV sz S.rd (S.rd x) lo hi mx : FR).v) K) := rfl
@[go_sem] theorem aops_sslice (x : AOpn) (lo hi : Option AOpn) : aops C (⟨d, .sslice x lo hi, none⟩ :: os) S K = ((ssliceV S.rd (S.rd x) lo hi : FR).c ∧ S.live (ssliceV S.rd (S.rd x) lo hi : FR).v ∧ aops C os (S.put d (ssliceV S.rd (S.rd x) lo hi : FR).v) K) := rfl
@[go_sem] theorem aops_faddr (off : Nat) (x : AOpn) : aops C (⟨d, .faddr off x, none⟩ :: os) S K = ((faddrV off (S.rd x) : FR).c ∧ S.live (faddrV off (S.rd x) : FR).v ∧ aops C os (S.put d (faddrV off (S.rd x) : FR).v) K) := rfl
@[go_sem] theorem aops_field (ag : Bool) (off sz : Nat) (x : AOpn) : aops C (⟨d, .field ag off sz x, none⟩ :: os) S K = ((fieldV ag off sz (S.rd x) : FR).c ∧ S.live (fieldV ag off sz (S.rd x) : FR).v ∧ aops C os (S.put d (fieldV ag off sz (S.rd x) : FR).v) K) := rfl
@[go_sem] theorem aops_iaddr (sz : Nat) (x i : AOpn) : aops C (⟨d, .iaddr sz x i, none⟩ :: os) S K = ((iaddrV sz (S.rd x) (S.rd i) : FR).c ∧ S.live (iaddrV sz (S.rd x) (S.rd i) : FR).v ∧ aops C os (S.put d (iaddrV sz (S.rd x) (S.rd i) : FR).v) K) := rfl
@[go_sem] theorem aops_aaddr (m sz : Nat) (x i : AOpn) : aops C (⟨d, .aaddr m sz x i, none⟩ :: os) S K = ((aaddrV m sz (S.rd x) (S.rd i) : FR).c ∧ S.live (aaddrV m sz (S.rd x) (S.rd i) : FR).v ∧ aops C os (S.put d (aaddrV m sz (S.rd x) (S.rd i) : FR).v) K) := rfl
@[go_sem] theorem aops_idx (x i : AOpn) : aops C (⟨d, .idx x i, none⟩ :: os) S K = ((idxV (S.rd x) (S.rd i) : FR).c ∧ S.live (idxV (S.rd x) (S.rd i) : FR).v ∧ aops C os (S.put d (idxV (S.rd x) (S.rd i) : FR).v) K) := rfl
@[go_sem] theorem aops_aidx (ag : Bool) (m sz : Nat) (x i : AOpn) : aops C (⟨d, .aidx ag m sz x i, none⟩ :: os) S K = ((aidxV ag m sz (S.rd x) (S.rd i) : FR).c ∧ S.live (aidxV ag m sz (S.rd x) (S.rd i) : FR).v ∧ aops C os (S.put d (aidxV ag m sz (S.rd x) (S.rd i) : FR).v) K) := rfl
@[go_sem] theorem aops_ext (i : Nat) (x : AOpn) : aops C (⟨d, .ext i x, none⟩ :: os) S K = ((extV i (S.rd x) : FR).c ∧ S.live (extV i (S.rd x) : FR).v ∧ aops C os (S.put d (extV i (S.rd x) : FR).v) K) := rfl
@[go_sem] theorem aops_len (x : AOpn) : aops C (⟨d, .len x, none⟩ :: os) S K = ((lenV (S.rd x) : FR).c ∧ S.live (lenV (S.rd x) : FR).v ∧ aops C os (S.put d (lenV (S.rd x) : FR).v) K) := rfl
@[go_sem] theorem aops_slen (x : AOpn) : aops C (⟨d, .slen x, none⟩ :: os) S K = ((slenV (S.rd x) : FR).c ∧ S.live (slenV (S.rd x) : FR).v ∧ aops C os (S.put d (slenV (S.rd x) : FR).v) K) := rfl
@[go_sem] theorem aops_alen (m : Nat) : aops C (⟨d, .alen m, none⟩ :: os) S K = ((⟨True, .int .i64 m⟩ : FR).c ∧ S.live (⟨True, .int .i64 m⟩ : FR).v ∧ aops C os (S.put d (⟨True, .int .i64 m⟩ : FR).v) K) := rfl
@[go_sem] theorem aops_mn (x : AOpn) (ys : List AOpn) : aops C (⟨d, .mn x ys, none⟩ :: os) S K = ((foldV mnV (S.rd x) (ys.map S.rd) : FR).c ∧ S.live (foldV mnV (S.rd x) (ys.map S.rd) : FR).v ∧ aops C os (S.put d (foldV mnV (S.rd x) (ys.map S.rd) : FR).v) K) := rfl
@[go_sem] theorem aops_mx (x : AOpn) (ys : List AOpn) : aops C (⟨d, .mx x ys, none⟩ :: os) S K = ((foldV mxV (S.rd x) (ys.map S.rd) : FR).c ∧ S.live (foldV mxV (S.rd x) (ys.map S.rd) : FR).v ∧ aops C os (S.put d (foldV mxV (S.rd x) (ys.map S.rd) : FR).v) K) := rfl
@[go_sem] theorem aops_mkslice (sz bytes : Nat) (uq : Bool) (zero : AVal) (x : AOpn) : aops C (⟨d, .mkslice sz bytes uq zero x, none⟩ :: os) S K = ((mksliceV sz bytes uq zero (S.rd x) : FR).c ∧ S.live (mksliceV sz bytes uq zero (S.rd x) : FR).v ∧ aops C os (S.put d (mksliceV sz bytes uq zero (S.rd x) : FR).v) K) := rfl
@[go_sem] theorem aops_empt (x : AOpn) : aops C (⟨d, .empt x, none⟩ :: os) S K = ((emptV (S.rd x) : FR).c ∧ S.live (emptV (S.rd x) : FR).v ∧ aops C os (S.put d (emptV (S.rd x) : FR).v) K) := rfl
@[go_sem] theorem aops_sliceA (m sz : Nat) (x : AOpn) (lo hi : Option AOpn) : aops C (⟨d, .sliceA m sz x lo hi, none⟩ :: os) S K = ((sliceAV m sz S.rd (S.rd x) lo hi : FR).c ∧ S.live (sliceAV m sz S.rd (S.rd x) lo hi : FR).v ∧ aops C os (S.put d (sliceAV m sz S.rd (S.rd x) lo hi : FR).v) K) := rfl
@[go_sem] theorem aops_b2sR (x : AOpn) : aops C (⟨d, .b2sR x, none⟩ :: os) S K = ((b2sRV S.heap (S.rd x) : FR).c ∧ S.live (b2sRV S.heap (S.rd x) : FR).v ∧ aops C os (S.put d (b2sRV S.heap (S.rd x) : FR).v) K) := rfl
@[go_sem] theorem aops_capR (x : AOpn) : aops C (⟨d, .capR x, none⟩ :: os) S K = ((capV (S.rd x) : FR).c ∧ S.live (capV (S.rd x) : FR).v ∧ aops C os (S.put d (capV (S.rd x) : FR).v) K) := rfl
@[go_sem] theorem aops_mkfq (g : Nat) (caps : List AOpn) : aops C (⟨d, .mkfq g caps, none⟩ :: os) S K = ((⟨∀ x ∈ caps, storable (S.rd x) = true ∧ (S.rd x).width = 1, .func g (caps.map S.rd)⟩ : FR).c ∧ S.live (⟨∀ x ∈ caps, storable (S.rd x) = true ∧ (S.rd x).width = 1, .func g (caps.map S.rd)⟩ : FR).v ∧ aops C os (S.put d (⟨∀ x ∈ caps, storable (S.rd x) = true ∧ (S.rd x).width = 1, .func g (caps.map S.rd)⟩ : FR).v) K) := rfl
@[go_sem] theorem aops_moveT (x : AOpn) : aops C (⟨d, .move true x, none⟩ :: os) S K = (match S.full x with | .tup _ => False | v => aops C os ((S.takeT x).put d v) K) := by
  simp only [aops, astep, fev, storeV] <;> rfl
@[go_sem] theorem aops_alloc (fr : Bool) (zs : List AVal) (s : Nat) : aops C (⟨some s, .alloc fr zs, none⟩ :: os) S K = ((fr = true → S.boxes s = none) ∧ aops C os (((S.drop s).setBox s (some zs)).set s (.box s 0)) K) := by
  simp only [aops, astep, fev, storeV] <;> rfl
@[go_sem] theorem aops_bxT (x : AOpn) (s : Nat) : aops C (⟨some s, .bx true x, none⟩ :: os) S K = (storable (S.full x) = true ∧ aops C os ((((S.takeT x).drop s).setBox s (some (S.full x).cells)).set s (.box s 0)) K) := by
  simp only [aops, astep, fev, storeV] <;> rfl
@[go_sem] theorem aops_bxF (x : AOpn) (s : Nat) : aops C (⟨some s, .bx false x, none⟩ :: os) S K = (storable (S.rd x) = true ∧ aops C os (((S.drop s).setBox s (some (S.rd x).cells)).set s (.box s 0)) K) := by
  simp only [aops, astep, fev, storeV] <;> rfl
@[go_sem] theorem aops_loadT (x : AOpn) : aops C (⟨d, .loadT x, none⟩ :: os) S K = (match S.rd x with
    | .box s off => (match S.boxes s with
      | some cs => off < cs.length ∧ storC (cs.getD off .junk) = true ∧ aops C os ((S.setBox s (some (cs.set off (remc (cs.getD off .junk))))).put d (cs.getD off .junk)) K
      | none => False)
    | .hp id off => (match S.heap[id]? with
      | some (.cells cs) => off < cs.length ∧ storC (cs.getD off .junk) = true ∧ aops C os (({ S with heap := S.heap.set id (.cells (cs.set off (remc (cs.getD off .junk)))) } : AState).put d (cs.getD off .junk)) K
      | _ => False)
    | _ => False) := by
  simp only [aops, astep, fev, storeV] <;> rfl
@[go_sem] theorem aops_store (sz : Nat) (p x : AOpn) : aops C (⟨d, .store sz p x, none⟩ :: os) S K = (storable (S.full x) = true ∧ (match S.rd p with
    | .box s off => (match (S.takeT x).boxes s with
      | some old => (S.full x).cells.length = sz ∧ off + sz ≤ old.length ∧ aops C os ((S.takeT x).setBox s (some (fillV old off (S.full x).cells))) K
      | none => False)
    | .hp id off => (match (S.takeT x).heap[id]? with
      | some (.cells old) => (S.full x).cells.length = sz ∧ off + sz ≤ old.length ∧ aops C os { (S.takeT x) with heap := (S.takeT x).heap.set id (.cells (fillV old off (S.full x).cells)) } K
      | _ => False)
    | _ => False)) := by
  simp only [aops, astep, fev, storeV] <;> rfl
@[go_sem] theorem aops_sliceT (sz t : Nat) (lo : Option AOpn) : aops C (⟨d, .sliceT sz t lo, none⟩ :: os) S K = (match S.env t, loV S.rd lo with | .lst (.app sz') xs, some l => sz' = sz ∧ 0 ≤ l ∧ l ≤ xs.length ∧ aops C os ((S.set t (.lst .sh xs)).put d (.lst (.app sz) (xs.drop l.toNat))) K | _, _ => False) := by
  simp only [aops, astep, fev, storeV] <;> rfl
@[go_sem] theorem aops_str8 (t : Nat) : aops C (⟨d, .str8 t, none⟩ :: os) S K = (match S.env t with | .lst (.uniq 1 _) xs => xs ≠ [] ∧ aops C os ((S.set t .junk).put d (.lst (.app 1) xs)) K | _ => False) := by
  simp only [aops, astep, fev, storeV] <;> rfl
@[go_sem] theorem aops_extT (i t : Nat) : aops C (⟨d, .extT i t, none⟩ :: os) S K = (match S.env t with | .tup vs => i < vs.length ∧ plainV (vs.getD i .junk) = true ∧ aops C os ((S.set t (.tup (vs.set i .junk))).put d (vs.getD i .junk)) K | _ => False) := by
  simp only [aops, astep, fev, storeV] <;> rfl
@[go_sem] theorem aops_append (sz bytes : Nat) (x y : AOpn) : aops C (⟨d, .append sz bytes x y, none⟩ :: os) S K = (match S.full x, srcV (S.rd y) with
    | .lst o xs, some ys => (match o with | .nil => xs = [] | .app sz' => sz' = sz | .uniq sz' _ => sz' = sz | .sh => False) ∧
          (∀ v ∈ ys, v.width = sz) ∧ (xs.length + ys.length) * bytes ≤ 140737488355328 ∧ xs.length + ys.length ≤ 140737488355328 ∧ aops C os ((S.takeT x).put d (.lst (.app sz) (xs ++ ys))) K
    | _, _ => False) := by
  simp only [aops, astep, fev, storeV] <;> rfl
/-- An operation that asks whether something is nil. -/
theorem aops_isnil {mp neg : Bool} {x : AOpn} : aops C (⟨d, .isnil mp neg x, none⟩ :: os) S K = isnilV mp (S.rd x) (fun b => aops C os (S.put d (.bool (b != neg))) K) := rfl
theorem aops_mkf {g : Nat} {caps : List AOpn} : aops C (⟨d, .mkf g caps, none⟩ :: os) S K = ((∀ x ∈ caps, storable ((S.promAll caps).rd x) = true ∧ ((S.promAll caps).rd x).width = 1) ∧ aops C os ((S.promAll caps).put d (.func g (caps.map (S.promAll caps).rd))) K) := rfl
attribute [go_sem] aops_mkf
/-- A call, by the contract of what is called. -/
theorem aops_call {P : Program} {pr : Bool} {f : Nat} {args : List AOpn} {vs : List AVal} {S1 : AState} {R : AVal → List HObj → Prop} (hS : (if pr then S.promAll args else S) = S1) (hv : args.map S1.rd = vs) (hb : ∀ v ∈ vs, noBox v = true) (hc : ACalls P f vs S1.heap R)
    (hk : ∀ r h, R r h → aops (ACalls P) os (({ S1 with heap := h } : AState).put d r) K) : aops (ACalls P) (⟨d, .call pr f args, none⟩ :: os) S K := by
  subst hS hv
  simp only [aops, astep, fev]
  exact ⟨fun x hx => hb _ (List.mem_map_of_mem hx), ACalls.mono hc fun r h hr _ => hk r h hr⟩
theorem aops_callq {P : Program} {f : Nat} {args : List AOpn} {vs : List AVal} {R : AVal → List HObj → Prop} (hv : args.map S.rd = vs) (hb : ∀ v ∈ vs, noBox v = true) (hc : ACalls P f vs S.heap R) (hh : ∀ r h, R r h → h = S.heap)
    (hk : ∀ r h, R r h → aops (ACalls P) os (S.put d r) K) : aops (ACalls P) (⟨d, .hop (.callq f args), none⟩ :: os) S K := by
  subst hv
  simp only [aops, astep, fev, hstep]
  refine ⟨fun x hx => hb _ (List.mem_map_of_mem hx), ACalls.mono hc fun r h hr => ?_⟩
  have e := hh r h hr
  subst e
  exact ⟨rfl, fun _ _ => hk r _ hr⟩
theorem aops_callv {P : Program} {pr : Bool} {x : AOpn} {g : Nat} {caps : List AVal} {args : List AOpn} {vs : List AVal} {S1 : AState} {R : AVal → List HObj → Prop} (hS : (if pr then S.promAll args else S) = S1) (hx : S1.rd x = .func g caps) (hv : args.map S1.rd ++ caps.map Ge.rdc = vs) (hb : ∀ v ∈ args.map S1.rd, noBox v = true)
    (hc : ACalls P g vs S1.heap R) (hk : ∀ r h, R r h → aops (ACalls P) os (({ S1 with heap := h } : AState).put d r) K) : aops (ACalls P) (⟨d, .callv pr x args, none⟩ :: os) S K := by
  subst hS hv
  simp only [aops, astep, fev, hx]
  exact ⟨fun x hx => hb _ (List.mem_map_of_mem hx), ACalls.mono hc fun r h hr _ => hk r h hr⟩
theorem aops_callvq {P : Program} {x : AOpn} {g : Nat} {caps : List AVal} {args : List AOpn} {vs : List AVal} {R : AVal → List HObj → Prop} (hx : S.rd x = .func g caps) (hv : args.map S.rd ++ caps.map Ge.rdc = vs) (hb : ∀ v ∈ args.map S.rd, noBox v = true)
    (hc : ACalls P g vs S.heap R) (hh : ∀ r h, R r h → h = S.heap) (hk : ∀ r h, R r h → aops (ACalls P) os (S.put d r) K) : aops (ACalls P) (⟨d, .hop (.callvq x args), none⟩ :: os) S K := by
  subst hv
  simp only [aops, astep, fev, hstep, hx]
  refine ⟨fun x hx => hb _ (List.mem_map_of_mem hx), ACalls.mono hc fun r h hr => ?_⟩
  have e := hh r h hr
  subst e
  exact ⟨rfl, fun _ _ => hk r _ hr⟩
theorem aops_hop {op : HOp} : aops C (⟨d, .hop op, none⟩ :: os) S K = hstep C S.rd S.heap op (fun v h => noBox v = true → aops C os (({ S with heap := h } : AState).put d v) K) := rfl
end
section
variable {os : List AO} {S : AState} {K : AState → Prop} {d : Option Nat}
def prS (pr : Bool) (args : List AOpn) (S : AState) : AState := if pr then S.promAll args else S
@[go_sem] theorem prS_f {args : List AOpn} : prS false args S = S := rfl
@[go_sem] theorem prS_t {args : List AOpn} : prS true args S = S.promAll args := rfl
/-- A call, its arguments computed. -/
def callG (C : CallS) (f : Nat) (vs : List AVal) (S : AState) (d : Option Nat) (os : List AO) (K : AState → Prop) : Prop :=
  (∀ v ∈ vs, noBox v = true) ∧ C f vs S.heap (fun r h => noBox r = true → aops C os (({ S with heap := h } : AState).put d r) K)
@[go_sem] theorem aops_callG {C : CallS} {pr : Bool} {f : Nat} {args : List AOpn} : aops C (⟨d, .call pr f args, none⟩ :: os) S K = callG C f (args.map (prS pr args S).rd) (prS pr args S) d os K := by
  simp only [aops, astep, fev, callG, prS, List.forall_mem_map]
theorem callG_ok {P : Program} {f : Nat} {vs : List AVal} {R : AVal → List HObj → Prop} (hc : ACalls P f vs S.heap R) (hb : ∀ v ∈ vs, noBox v = true) (hk : ∀ r h, R r h → aops (ACalls P) os (({ S with heap := h } : AState).put d r) K) : callG (ACalls P) f vs S d os K :=
  ⟨hb, ACalls.mono hc fun r h hr _ => hk r h hr⟩
def callqG (C : CallS) (f : Nat) (vs : List AVal) (S : AState) (d : Option Nat) (os : List AO) (K : AState → Prop) : Prop :=
  (∀ v ∈ vs, noBox v = true) ∧ C f vs S.heap (fun r h => h = S.heap ∧ (noBox r = true → noBox r = true → aops C os (({ S with heap := h } : AState).put d r) K))
@[go_sem] theorem aops_callqG {C : CallS} {f : Nat} {args : List AOpn} : aops C (⟨d, .hop (.callq f args), none⟩ :: os) S K = callqG C f (args.map S.rd) S d os K := by
  simp only [aops, astep, fev, hstep, callqG, List.forall_mem_map]
theorem callqG_ok {P : Program} {f : Nat} {vs : List AVal} {R : AVal → List HObj → Prop} (hc : ACalls P f vs S.heap R) (hb : ∀ v ∈ vs, noBox v = true) (hk : ∀ r h, R r h → h = S.heap ∧ aops (ACalls P) os (({ S with heap := h } : AState).put d r) K) : callqG (ACalls P) f vs S d os K :=
  ⟨hb, ACalls.mono hc fun r h hr => ⟨(hk r h hr).1, fun _ _ => (hk r h hr).2⟩⟩
/-- A call of a value. -/
def callvG (C : CallS) (x : AVal) (vs : List AVal) (S : AState) (d : Option Nat) (os : List AO) (K : AState → Prop) : Prop :=
  match x with
  | .func g caps => (∀ v ∈ vs, noBox v = true) ∧ C g (vs ++ caps.map Ge.rdc) S.heap (fun r h => noBox r = true → aops C os (({ S with heap := h } : AState).put d r) K)
  | _ => False
@[go_sem] theorem aops_callvG {C : CallS} {pr : Bool} {x : AOpn} {args : List AOpn} : aops C (⟨d, .callv pr x args, none⟩ :: os) S K = callvG C ((prS pr args S).rd x) (args.map (prS pr args S).rd) (prS pr args S) d os K := by
  simp only [aops, astep, fev, callvG, prS, List.forall_mem_map]
  cases pr <;> simp only [Bool.false_eq_true, if_true, if_false] <;> rfl
theorem callvG_ok {P : Program} {g : Nat} {caps vs : List AVal} {R : AVal → List HObj → Prop} (hc : ACalls P g (vs ++ caps.map Ge.rdc) S.heap R) (hb : ∀ v ∈ vs, noBox v = true) (hk : ∀ r h, R r h → aops (ACalls P) os (({ S with heap := h } : AState).put d r) K) : callvG (ACalls P) (.func g caps) vs S d os K :=
  ⟨hb, ACalls.mono hc fun r h hr _ => hk r h hr⟩
def callvqG (C : CallS) (x : AVal) (vs : List AVal) (S : AState) (d : Option Nat) (os : List AO) (K : AState → Prop) : Prop :=
  match x with
  | .func g caps => (∀ v ∈ vs, noBox v = true) ∧ C g (vs ++ caps.map Ge.rdc) S.heap (fun r h => h = S.heap ∧ (noBox r = true → noBox r = true → aops C os (({ S with heap := h } : AState).put d r) K))
  | _ => False
@[go_sem] theorem aops_callvqG {C : CallS} {x : AOpn} {args : List AOpn} : aops C (⟨d, .hop (.callvq x args), none⟩ :: os) S K = callvqG C (S.rd x) (args.map S.rd) S d os K := by
  simp only [aops, astep, fev, hstep, callvqG, List.forall_mem_map] <;> rfl
theorem callvqG_ok {P : Program} {g : Nat} {caps vs : List AVal} {R : AVal → List HObj → Prop} (hc : ACalls P g (vs ++ caps.map Ge.rdc) S.heap R) (hb : ∀ v ∈ vs, noBox v = true) (hk : ∀ r h, R r h → h = S.heap ∧ aops (ACalls P) os (({ S with heap := h } : AState).put d r) K) : callvqG (ACalls P) (.func g caps) vs S d os K :=
  ⟨hb, ACalls.mono hc fun r h hr => ⟨(hk r h hr).1, fun _ _ => (hk r h hr).2⟩⟩
@[go_sem ↓] theorem eta_self : (⟨S.env, S.boxes, S.heap⟩ : AState) = S := rfl
end
/-- A slice's owner under which it is read only. -/
def Rdo (o : Own) : Prop := o = .sh ∨ o = .nil
theorem Rdo.sh : Rdo .sh := .inl rfl
theorem Rdo.nil : Rdo .nil := .inr rfl
section
variable {o : Own} {xs : List AVal} {s : Nat}
@[go_sem] theorem rdv_o (h : Rdo o) : rdv (.lst o xs) = .lst o xs := by rcases h with rfl | rfl <;> rfl
@[go_sem] theorem rd1_o (h : Rdo o) : rd1 (.lst o xs) = .lst o xs := by rcases h with rfl | rfl <;> rfl
@[go_sem] theorem rdc_o (h : Rdo o) : Ge.rdc (.lst o xs) = .lst o xs := by rcases h with rfl | rfl <;> rfl
@[go_sem] theorem remV_o (h : Rdo o) : remV (.lst o xs) = .lst o xs := by rcases h with rfl | rfl <;> rfl
@[go_sem] theorem remc_o (h : Rdo o) : remc (.lst o xs) = .lst o xs := by rcases h with rfl | rfl <;> rfl
@[go_sem] theorem flC_o (h : Rdo o) : flC (.lst o xs) = true := by rcases h with rfl | rfl <;> rfl
end
@[go_sem] theorem fillV_nil {cs : List AVal} : fillV cs 0 [] = cs := by simp [fillV]
@[go_sem] theorem fillV_cons {c x : AVal} {cs new : List AVal} : fillV (c :: cs) 0 (x :: new) = x :: fillV cs 0 new := by simp [fillV]
@[go_sem] theorem fillV_succ {c : AVal} {cs new : List AVal} {k : Nat} : fillV (c :: cs) (k + 1) new = c :: fillV cs k new := by simp [fillV, Nat.add_right_comm]
@[go_sem] theorem retQ_ret {rs : List ARes} {Q : AVal → List HObj → Prop} {S : AState} : retQ rs Q .ret S = ((ress S rs).c ∧ Q (ress S rs).v S.heap) := rfl
@[go_sem] theorem retQ_normal {rs : List ARes} {Q : AVal → List HObj → Prop} {S : AState} : retQ rs Q .normal S = ((ress S rs).c ∧ Q (ress S rs).v S.heap) := rfl
@[go_sem] theorem resV_t {S : AState} {n : Nat} : resV S (.t n) = ⟨plainV (S.env n) = true, S.env n⟩ := rfl
@[go_sem] theorem resV_c {S : AState} {a sz : Nat} {ag : Bool} : resV S (.c a ag sz) = (match S.env a with
    | .box s 0 => (match S.boxes s with
      | some cs => if ag then ⟨s = a ∧ cs.length = sz, .agg cs⟩ else ⟨s = a ∧ cs.length = 1 ∧ plainV (Ge.rdc (cs.headD .junk)) = true, Ge.rdc (cs.headD .junk)⟩
      | none => ⟨False, .junk⟩)
    | .hp id off => ⟨(memV S.boxes S.heap ag sz (.hp id off)).c ∧ plainV (memV S.boxes S.heap ag sz (.hp id off)).v = true, (memV S.boxes S.heap ag sz (.hp id off)).v⟩
    | _ => ⟨False, .junk⟩) := rfl
@[go_sem] theorem ress0 {S : AState} : ress S [] = ⟨∀ r ∈ ([] : List ARes), (resV S r).c, .tup []⟩ := rfl
@[go_sem] theorem ress1 {S : AState} {r : ARes} : ress S [r] = resV S r := rfl
@[go_sem] theorem ress2 {S : AState} {r q : ARes} : ress S [r, q] = ⟨(resV S r).c ∧ (resV S q).c, .tup [(resV S r).v, (resV S q).v]⟩ := by simp [ress]
@[go_sem] theorem ress3 {S : AState} {r q p : ARes} : ress S [r, q, p] = ⟨(resV S r).c ∧ (resV S q).c ∧ (resV S p).c, .tup [(resV S r).v, (resV S q).v, (resV S p).v]⟩ := by simp [ress]
@[go_sem] theorem ress4 {S : AState} {r q p o : ARes} : ress S [r, q, p, o] = ⟨(resV S r).c ∧ (resV S q).c ∧ (resV S p).c ∧ (resV S o).c, .tup [(resV S r).v, (resV S q).v, (resV S p).v, (resV S o).v]⟩ := by simp [ress]
theorem at_nat (xs : List AVal) (i : Nat) : at_ xs (i : Int) = xs.getD i .junk := rfl
/-- A list of numbers. -/
def ints (k : IntKind) (ns : List Int) : List AVal := ns.map (AVal.int k)
@[go_sem] theorem ints_length (k : IntKind) (ns : List Int) : (ints k ns).length = ns.length := by simp [ints]
@[go_sem] theorem at_ints (k : IntKind) (ns : List Int) (i : Nat) : at_ (ints k ns) (i : Int) = if i < ns.length then .int k (ns.getD i 0) else .junk := by
  simp only [at_, ints, Int.toNat_natCast, List.getD_eq_getElem?_getD, List.getElem?_map]
  split
  · rename_i h; simp [h]
  · rename_i h; simp [Nat.not_lt.1 h]
section
variable {C : CallS} {Q : AExit → AState → Prop} {K : AState → Prop} {S : AState}
@[go_sem] theorem then_normal : AExit.then K Q .normal S = K S := rfl
@[go_sem] theorem then_ret : AExit.then K Q .ret S = Q .ret S := rfl
@[go_sem] theorem then_exit {i : Nat} : AExit.then K Q (.exit i) S = Q (.exit i) S := rfl
@[go_sem] theorem inB_normal {i : Nat} : AExit.inBlock i Q .normal S = Q .normal S := rfl
@[go_sem] theorem inB_ret {i : Nat} : AExit.inBlock i Q .ret S = Q .ret S := rfl
@[go_sem] theorem inB_exit {i j : Nat} : AExit.inBlock i Q (.exit j) S = if j = i then Q .normal S else Q (.exit j) S := rfl
@[go_sem] theorem aw_seq {a b : ACode} : aw C (.seq a b) Q S = aw C a (AExit.then (aw C b Q) Q) S := rfl
@[go_sem] theorem aw_drawn {ix dn : List Nat} {l : List AO} : aw C (.drawn ix dn l) Q S = ((∀ s ∈ alS l, S.boxes s = none) ∧ aops C l S (Q .normal)) := rfl
/-- A condition, told: computed where it is known. -/
def condG (C : CallS) (v : AVal) (a b : ACode) (Q : AExit → AState → Prop) (S : AState) : Prop :=
  match v with
  | .bool t => (t = true → aw C a Q S) ∧ (t = false → aw C b Q S)
  | _ => False
@[go_sem] theorem aw_condG {c : AOpn} {a b : ACode} : aw C (.cond c a b) Q S = condG C (S.rd c) a b Q S := by
  simp only [aw, condG]; rfl
@[go_sem] theorem condG_t {a b : ACode} : condG C (.bool true) a b Q S = aw C a Q S := by simp [condG]
@[go_sem] theorem condG_f {a b : ACode} : condG C (.bool false) a b Q S = aw C b Q S := by simp [condG]
theorem condG_split {a b : ACode} {t : Bool} (h1 : t = true → aw C a Q S) (h2 : t = false → aw C b Q S) : condG C (.bool t) a b Q S := ⟨h1, h2⟩
theorem condG_if {a b : ACode} {p : Prop} [Decidable p] (h1 : p → aw C a Q S) (h2 : ¬p → aw C b Q S) : condG C (.bool (decide p)) a b Q S := ⟨fun e => h1 (of_decide_eq_true e), fun e => h2 (of_decide_eq_false e)⟩
@[go_sem] theorem aw_region {l : List AO} : aw C (.region l) Q S = aops C l S (Q .normal) := rfl
@[go_sem] theorem aw_block {i : Nat} {a : ACode} : aw C (.block i a) Q S = aw C a (AExit.inBlock i Q) S := rfl
@[go_sem] theorem aw_skip : aw C .skip Q S = Q .normal S := rfl
@[go_sem] theorem aw_exit {i : Nat} : aw C (.exit i) Q S = Q (.exit i) S := rfl
@[go_sem] theorem aw_ret : aw C .ret Q S = Q .ret S := rfl
@[go_sem] theorem aw_prom {s : Nat} {a : ACode} : aw C (.prom s a) Q S = aw C a Q (S.promote s) := rfl
theorem aw_thaw {s : Nat} {a : ACode} : aw C (.thaw s a) Q S = (match S.env s with
    | .lst (.uniq sz cap) xs => 0 < sz ∧ (∀ x ∈ xs, x.width = sz ∧ x.cells.all flC = true) ∧ xs.length ≤ cap ∧
        aw C a Q (({ S with heap := S.heap ++ [.cells (xs.flatMap AVal.cells ++ List.replicate ((cap - xs.length) * sz) .junk)] } : AState).set s (.ref S.heap.length 0 xs.length cap))
    | _ => False) := rfl
theorem aw_own {s : Nat} {ag : Bool} {sz : Nat} {a : ACode} : aw C (.own s ag sz a) Q S = (match S.env s with
    | .ref id off len cap => if cap = 0 then aw C a Q (S.set s (.lst (.uniq sz 0) [])) else match S.heap[id]? with
      | some (.cells cs) => (ag = false → sz = 1) ∧ 0 < sz ∧ off + cap * sz ≤ cs.length ∧ len ≤ cap ∧ ((cs.drop off).take (len * sz)).all (fun c => storC (rdc c)) = true ∧
          aw C a Q (({ S with heap := S.heap.set id .dead } : AState).set s (.lst (.uniq sz cap) (chunkV ag sz (((cs.drop off).take (len * sz)).map rdc) len)))
      | _ => False
    | _ => False) := rfl
theorem aw_grab {s : Nat} {a : ACode} : aw C (.grab s a) Q S = (match S.env s with
    | .lst (.uniq sz _) xs => aw C a Q (S.set s (.lst (.app sz) xs))
    | _ => False) := rfl
@[go_sem] theorem aw_kill {s : Nat} {a : ACode} : aw C (.kill s a) Q S = aw C a Q ((S.drop s).setBox s none) := rfl
/-- Told on both sides, apart. -/
theorem aw_cond {c : AOpn} {a b : ACode} {t : Bool} (h : S.rd c = .bool t) (h1 : t = true → aw C a Q S) (h2 : t = false → aw C b Q S) : aw C (.cond c a b) Q S := by
  simp only [aw, h]; exact ⟨h1, h2⟩
theorem aw_if {c : AOpn} {a b : ACode} {p : Prop} [Decidable p] (h : S.rd c = .bool (decide p)) (h1 : p → aw C a Q S) (h2 : ¬p → aw C b Q S) : aw C (.cond c a b) Q S :=
  aw_cond h (fun e => h1 (of_decide_eq_true e)) (fun e => h2 (of_decide_eq_false e))
theorem aw_loop {a : ACode} (I : AState → Prop) (μ : AState → Nat) (h : I S) (r : ∀ S, I S → aw C a (AExit.then (fun S' => I S' ∧ μ S' < μ S) Q) S) : aw C (.loop a) Q S := ⟨I, μ, h, r⟩
theorem aops_mono (hC : CMono C) : ∀ (l : List AO) {S : AState} {K K' : AState → Prop}, (∀ S', K S' → K' S') → aops C l S K → aops C l S K'
  | [], _, _, _, hm, h => hm _ h
  | o :: l, S, K, K', hm, h => by
    rw [aops_cons] at h ⊢
    exact aop1_mono hC (fun S1 h1 => aops_mono hC l hm h1) h
theorem aw_mono (hC : CMono C) : ∀ (a : ACode) {Q Q' : AExit → AState → Prop} {S : AState}, (∀ e S', Q e S' → Q' e S') → aw C a Q S → aw C a Q' S
  | .skip, _, _, _, hm, h => hm _ _ h
  | .region l, _, _, _, hm, h => aops_mono hC l (hm _) h
  | .drawn _ _ l, _, _, _, hm, h => ⟨h.1, aops_mono hC l (hm _) h.2⟩
  | .seq a b, Q, Q', S, hm, h => by
    simp only [aw] at h ⊢
    refine aw_mono hC a ?_ h
    intro e S' h'
    cases e with
    | normal => exact aw_mono hC b hm h'
    | exit i => exact hm _ _ h'
    | ret => exact hm _ _ h'
  | .cond c a b, Q, Q', S, hm, h => by
    simp only [aw] at h ⊢
    split at h
    · exact ⟨fun e => aw_mono hC a hm (h.1 e), fun e => aw_mono hC b hm (h.2 e)⟩
    · exact h.elim
  | .block i a, Q, Q', S, hm, h => by
    simp only [aw] at h ⊢
    refine aw_mono hC a ?_ h
    intro e S' h'
    cases e with
    | normal => exact hm _ _ h'
    | exit j =>
      simp only [AExit.inBlock] at h' ⊢
      split
      · rename_i e; rw [if_pos e] at h'; exact hm _ _ h'
      · rename_i e; rw [if_neg e] at h'; exact hm _ _ h'
    | ret => exact hm _ _ h'
  | .loop a, Q, Q', S, hm, h => by
    obtain ⟨I, μ, h1, h2⟩ := h
    refine ⟨I, μ, h1, fun S' h' => aw_mono hC a ?_ (h2 S' h')⟩
    intro e S1 h3
    cases e with
    | normal => exact h3
    | exit i => exact hm _ _ h3
    | ret => exact hm _ _ h3
  | .exit _, _, _, _, hm, h => hm _ _ h
  | .ret, _, _, _, hm, h => hm _ _ h
  | .kill _ a, _, _, _, hm, h => aw_mono hC a hm h
  | .prom _ a, _, _, _, hm, h => aw_mono hC a hm h
  | .thaw _ a, _, _, _, hm, h => by
    simp only [aw] at h ⊢
    split at h
    · exact ⟨h.1, h.2.1, h.2.2.1, aw_mono hC a hm h.2.2.2⟩
    · exact h.elim
  | .own _ _ _ a, _, _, _, hm, h => by
    simp only [aw] at h ⊢
    split at h
    · split at h
      · rename_i h0; rw [if_pos h0]; exact aw_mono hC a hm h
      · rename_i h0
        rw [if_neg h0]
        split at h
        · exact ⟨h.1, h.2.1, h.2.2.1, h.2.2.2.1, h.2.2.2.2.1, aw_mono hC a hm h.2.2.2.2.2⟩
        · exact h.elim
    · exact h.elim
  | .grab _ a, _, _, _, hm, h => by
    simp only [aw] at h ⊢
    split at h
    · exact aw_mono hC a hm h
    · exact h.elim
/-- A loop that counts: n is what is left. -/
theorem aw_count {P : Program} {a : ACode} (I : Nat → AState → Prop) {n : Nat} (h : I n S) (r : ∀ n S, I n S → aw (ACalls P) a (AExit.then (fun S' => ∃ m, m < n ∧ I m S') Q) S) : aw (ACalls P) (.loop a) Q S := by
  have hl : ∀ S, (∃ n, I n S) → I (open Classical in if h : ∃ n, I n S then Classical.choose (least h) else 0) S ∧ ∀ m, I m S → (open Classical in if h : ∃ n, I n S then Classical.choose (least h) else 0) ≤ m := by
    intro S hS
    rw [dif_pos hS]
    exact Classical.choose_spec (least hS)
  refine aw_loop (fun S => ∃ n, I n S) (fun S => open Classical in if h : ∃ n, I n S then Classical.choose (least h) else 0) ⟨n, h⟩ ?_
  intro S hS
  refine aw_mono (CMono_ACalls P) a ?_ (r _ S (hl S hS).1)
  intro e S' h'
  cases e with
  | normal =>
    obtain ⟨m, h1, h2⟩ := h'
    exact ⟨⟨m, h2⟩, Nat.lt_of_le_of_lt ((hl S' ⟨m, h2⟩).2 m h2) h1⟩
  | exit i => exact h'
  | ret => exact h'
end
attribute [irreducible] aopsG condG callG callvG callqG callvqG
end Go.Ge
