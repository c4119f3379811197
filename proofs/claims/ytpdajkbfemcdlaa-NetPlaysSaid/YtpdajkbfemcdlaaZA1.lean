import Derived.Test.YtpdajkbfemcdlaaGeD
import Derived.Test.YtpdajkbfemcdlaaChecked
import Derived.Test.YtpdajkbfemcdlaaFn
import Derived.KernelRfl
namespace Go.Ge
@[go_sem] def AO.m (d t : Nat) : AO := ⟨some d, .move false (.t t), none⟩
@[go_sem] def AO.o (d : Nat) (op : AOp) : AO := ⟨some d, op, none⟩
@[go_sem] def AO.g (d : Nat) (op : AOp) (t : Nat) (b : Bool) : AO := ⟨some d, op, some (t, b)⟩
end Go.Ge
set_option linter.unusedSimpArgs false
set_option linter.unusedVariables false
set_option maxRecDepth 10000
namespace Go.Proofs.Ytpdajkbfemcdlaa
open Go.Ge
theorem aw_cut {P : Program} {a : ACode} {K Pm : AState → Prop} {Q : AExit → AState → Prop} {S : AState} (h : aw (ACalls P) a (AExit.then Pm Q) S) (hk : ∀ S', Pm S' → K S') : aw (ACalls P) a (AExit.then K Q) S :=
  aw_mono (CMono_ACalls P) a (fun e S' h => by cases e <;> first | exact hk _ h | exact h) h
theorem condG_cut {P : Program} {v : AVal} {a b : ACode} {K : AState → Prop} {Q : AExit → AState → Prop} {S : AState} (Pm : AState → Prop) (h : condG (ACalls P) v a b (AExit.then Pm Q) S) (hk : ∀ S', Pm S' → K S') : condG (ACalls P) v a b (AExit.then K Q) S := by
  unfold condG at h ⊢
  cases v <;> first | exact ⟨fun e => aw_cut (h.1 e) hk, fun e => aw_cut (h.2 e) hk⟩ | exact h
theorem aopsG_cut {P : Program} {d : Option Nat} {op : AOp} {want : Bool} {v : AVal} {os : List AO} {c : ACode} {K : AState → Prop} {Q Q' : AExit → AState → Prop} {S : AState} (Pm : AState → Prop)
    (h : aopsG (ACalls P) d op want v os S (AExit.then (aw (ACalls P) c (AExit.then Pm Q)) Q' .normal)) (hk : ∀ S', Pm S' → K S') : aopsG (ACalls P) d op want v os S (AExit.then (aw (ACalls P) c (AExit.then K Q)) Q' .normal) := by
  have key : ∀ os S, aops (ACalls P) os S (AExit.then (aw (ACalls P) c (AExit.then Pm Q)) Q' .normal) → aops (ACalls P) os S (AExit.then (aw (ACalls P) c (AExit.then K Q)) Q' .normal) :=
    fun os S h => aops_mono (CMono_ACalls P) os (fun S' h => aw_cut h hk) h
  unfold aopsG at h ⊢
  split at h
  · exact ⟨fun e => key _ _ (h.1 e), fun e => key _ _ (h.2 e)⟩
  · exact key _ _ h
  · exact h.elim
section
variable {α : Type} {f : α → List AVal} {sz : Nat}
theorem flatF_len (hf : ∀ a, (f a).length = sz) (l : List α) : (l.flatMap f).length = l.length * sz := by
  induction l with
  | nil => simp
  | cons a l ih => rw [List.flatMap_cons, List.length_append, ih, hf, List.length_cons, Nat.add_mul]; omega
theorem flatF_split {l : List α} {j : Nat} (h : j < l.length) : l.flatMap f = (l.take j).flatMap f ++ (f l[j] ++ (l.drop (j + 1)).flatMap f) := by
  conv => lhs; rw [← List.take_append_drop j l, List.drop_eq_getElem_cons h]
  rw [List.flatMap_append, List.flatMap_cons]
theorem flatF_get (hf : ∀ a, (f a).length = sz) {l : List α} {j : Nat} (h : j < l.length) {pre rest : List AVal} {off k n : Nat} (hp : pre.length = off) (hk : k + n ≤ sz) :
    ((pre ++ l.flatMap f ++ rest).drop (off + j * sz + k)).take n = ((f l[j]).drop k).take n := by
  have hl : (pre ++ (l.take j).flatMap f).length = off + j * sz := by
    rw [List.length_append, flatF_len hf, List.length_take, hp]; congr 2; omega
  have e : pre ++ l.flatMap f ++ rest = (pre ++ (l.take j).flatMap f) ++ (f l[j] ++ ((l.drop (j + 1)).flatMap f ++ rest)) := by
    rw [flatF_split h]; simp only[List.append_assoc]
  rw [e, ← hl, ← List.drop_drop, List.drop_left, List.drop_append_of_le_length (by rw [hf]; omega), List.take_append_of_le_length (by rw [List.length_drop, hf]; omega)]
theorem setH_same {h : List HObj} {id : Nat} {x : HObj} (e : h[id]? = some x) : h.set id x = h := by
  obtain ⟨hl, e⟩ := List.getElem?_eq_some_iff.1 e
  rw [← e]; exact List.set_getElem_self _
end
end Go.Proofs.Ytpdajkbfemcdlaa
namespace Go.Proofs.Ytpdajkbfemcdlaa
open Go.Ge
def C.msg_Check : ACode :=
  .seq (.region [.o 1 (.bx true (.t 0)),.o 2 (.move false (.c (.int .i64 0)))]) (
  .seq (.block 0 (.seq (.region [.o 4 (.faddr 0 (.t 1)),.o 5 (.load 2 false 1 (.t 4)),.o 6 (.bin .lss (.t 5) (.c (.int .i64 0))),.m 7 6,.g 8 (.faddr 0 (.t 1)) 7 false,.g 9 (.load 2 false 1 (.t 8)) 7 false,.g 10 (.bin .gtr (.t 9) (.c (.int .i64 3))) 7 false,.o 11 (.pick (.t 7) (.c (.bool true)) (.t 10)),.m 3 11]) (
  .cond (.t 3) (.seq (.region [.o 2 (.move false (.c (.int .i64 1)))]) (
  .ret)) (.seq (.region [.o 13 (.faddr 1 (.t 1)),.o 14 (.load 2 false 1 (.t 13)),.o 15 (.faddr 2 (.t 1)),.o 16 (.load 2 false 1 (.t 15)),.o 17 (.mn (.t 14) [(.t 16)]),.o 18 (.bin .lss (.t 17) (.c (.int .i64 0))),.m 19 18,.g 20 (.faddr 1 (.t 1)) 19 false,.g 21 (.load 2 false 1 (.t 20)) 19 false,.g 22 (.faddr 2 (.t 1)) 19 false,.g 23 (.load 2 false 1 (.t 22)) 19 false,.g 24 (.mx (.t 21) [(.t 23)]) 19 false,.g 25 (.bin .gtr (.t 24) (.c (.int .i64 4))) 19 false,.o 26 (.pick (.t 19) (.c (.bool true)) (.t 25)),.m 27 26,.g 28 (.faddr 1 (.t 1)) 27 false,.g 29 (.load 2 false 1 (.t 28)) 27 false,.g 30 (.faddr 2 (.t 1)) 27 false,.g 31 (.load 2 false 1 (.t 30)) 27 false,.g 32 (.bin .eql (.t 29) (.t 31)) 27 false,.o 33 (.pick (.t 27) (.c (.bool true)) (.t 32)),.m 12 33]) (
  .cond (.t 12) (.seq (.region [.o 2 (.move false (.c (.int .i64 16)))]) (
  .ret)) (.seq (.region [.o 35 (.faddr 3 (.t 1)),.o 36 (.load 2 false 1 (.t 35)),.o 37 (.bin .lss (.t 36) (.c (.int .i64 0))),.m 38 37,.g 39 (.faddr 3 (.t 1)) 38 false,.g 40 (.load 2 false 1 (.t 39)) 38 false,.g 41 (.bin .gtr (.t 40) (.c (.int .i64 2147483647))) 38 false,.o 42 (.pick (.t 38) (.c (.bool true)) (.t 41)),.m 34 42]) (
  .cond (.t 34) (.seq (.region [.o 2 (.move false (.c (.int .i64 2)))]) (
  .ret)) (.seq (.region [.o 44 (.faddr 0 (.t 1)),.o 45 (.load 2 false 1 (.t 44)),.o 46 (.bin .eql (.t 45) (.c (.int .i64 3))),.m 47 46,.g 48 (.faddr 5 (.t 1)) 47 true,.g 49 (.load 2 false 1 (.t 48)) 47 true,.g 50 (.len (.t 49)) 47 true,.g 51 (.bin .gtr (.t 50) (.c (.int .i64 0))) 47 true,.o 52 (.pick (.t 47) (.t 51) (.c (.bool false))),.m 43 52]) (
  .cond (.t 43) (.seq (.region [.o 2 (.move false (.c (.int .i64 3)))]) (
  .ret)) (.skip)))))))))) (
  .seq (.region [.o 53 (.faddr 5 (.t 1)),.o 54 (.load 2 false 1 (.t 53)),.o 55 (.call true F.grid_Check [(.t 54)]),.m 2 55]) (
  .ret)))
def R.msg_Check : List ARes := [.t 2]
set_option maxRecDepth 100000 in
theorem K.msg_Check : ckFun Try.prog Try.f74 C.msg_Check R.msg_Check = true := by kernel_rfl
def C.grid_Check : ACode :=
  .seq (.region [.o 2 (.move false (.c (.int .i64 0)))]) (
  .seq (.seq (.region [.m 5 0,.o 6 (.len (.t 5)),.o 7 (.bin .gtr (.t 6) (.c (.int .i64 400)))]) (
  .cond (.t 7) (.seq (.region [.o 2 (.move false (.c (.int .i64 2)))]) (
  .ret)) (.skip))) (
  .seq (.seq (.region [.m 8 0,.o 9 (.len (.t 8)),.o 10 (.move false (.c (.int .i64 0)))]) (
  .block 0 (.loop (.seq (.region [.o 11 (.bin .lss (.t 10) (.t 9))]) (
  .seq (.cond (.t 11) (.skip) (.exit 0)) (
  .seq (.block 1 (.seq (.region [.m 12 10,.o 13 (.iaddr 2 (.t 8) (.t 10)),.o 14 (.load 2 true 2 (.t 13)),.o 4 (.alloc false [(.int .i64 0), (.int .i64 0)]),.m 3 12,⟨none, .store 2 (.t 4) (.t 14), none⟩]) (
  .seq (.seq (.region [.o 15 (.faddr 0 (.t 4)),.o 16 (.load 2 false 1 (.t 15)),.o 17 (.call true F.grid_on [(.t 16)]),.o 18 (.un .not (.t 17)),.m 19 18,.g 20 (.faddr 1 (.t 4)) 19 false,.g 21 (.load 2 false 1 (.t 20)) 19 false,.g 22 (.call true F.grid_on [(.t 21)]) 19 false,.g 23 (.un .not (.t 22)) 19 false,.o 24 (.pick (.t 19) (.c (.bool true)) (.t 23))]) (
  .cond (.t 24) (.seq (.region [.o 2 (.move false (.c (.int .i64 17)))]) (
  .ret)) (.skip))) (
  .seq (.drawn [0, 1, 2, 3, 4, 5, 6, 7, 8, 9, 10, 11] [0, 1, 3, 7, 7, 23, 63, 127, 7, 511, 1023, 2047] [.m 25 3,.o 26 (.bin .gtr (.t 25) (.c (.int .i64 0))),.m 27 26,.g 28 (.move false (.t 0)) 27 true,.g 29 (.move false (.t 3)) 27 true,.g 30 (.bin .sub (.t 29) (.c (.int .i64 1))) 27 true,.g 31 (.iaddr 2 (.t 28) (.t 30)) 27 true,.g 32 (.load 0 true 2 (.t 31)) 27 true,.g 33 (.load 1 true 2 (.t 4)) 27 true,.g 34 (.call false F.grid_order [(.t 32), (.t 33)]) 27 true,.g 35 (.bin .geq (.t 34) (.c (.int .i64 0))) 27 true,.o 36 (.pick (.t 27) (.t 35) (.c (.bool false)))]) (
  .cond (.t 36) (.seq (.region [.o 2 (.move false (.c (.int .i64 9)))]) (
  .ret)) (.skip)))))) (
  .region [.o 37 (.bin .add (.t 10) (.c (.int .i64 1))),.m 10 37]))))))) (
  .seq (.region [.o 2 (.move false (.c (.int .i64 0)))]) (
  .ret))))
def R.grid_Check : List ARes := [.t 2]
set_option maxRecDepth 100000 in
theorem K.grid_Check : ckFun Try.prog Try.f158 C.grid_Check R.grid_Check = true := by kernel_rfl
def C.grid_on : ACode :=
  .seq (.region [.o 2 (.move false (.c (.bool false)))]) (
  .seq (.region [.m 3 0,.o 4 (.bin .geq (.t 3) (.c (.int .i64 (-64)))),.m 5 4,.g 6 (.move false (.t 0)) 5 true,.g 7 (.bin .lss (.t 6) (.c (.int .i64 64))) 5 true,.o 8 (.pick (.t 5) (.t 7) (.c (.bool false))),.m 2 8]) (
  .ret))
def R.grid_on : List ARes := [.t 2]
set_option maxRecDepth 100000 in
theorem K.grid_on : ckFun Try.prog Try.f197 C.grid_on R.grid_on = true := by kernel_rfl
def C.grid_order : ACode :=
  .seq (.region [.o 2 (.bx false (.t 0)),.o 3 (.bx false (.t 1)),.o 4 (.move false (.c (.int .i64 0)))]) (
  .seq (.seq (.region [.o 6 (.faddr 1 (.t 2)),.o 7 (.load 2 false 1 (.t 6)),.o 8 (.faddr 1 (.t 3)),.o 9 (.load 2 false 1 (.t 8)),.o 10 (.call true F.cmp_Compare_int [(.t 7), (.t 9)]),.m 5 10]) (
  .seq (.region [.m 11 5,.o 12 (.bin .neq (.t 11) (.c (.int .i64 0)))]) (
  .cond (.t 12) (.seq (.region [.m 13 5,.m 4 13]) (
  .ret)) (.skip)))) (
  .seq (.region [.o 14 (.faddr 0 (.t 2)),.o 15 (.load 2 false 1 (.t 14)),.o 16 (.faddr 0 (.t 3)),.o 17 (.load 2 false 1 (.t 16)),.o 18 (.call true F.cmp_Compare_int [(.t 15), (.t 17)]),.m 4 18]) (
  .ret)))
def R.grid_order : List ARes := [.t 4]
set_option maxRecDepth 100000 in
theorem K.grid_order : ckFun Try.prog Try.f198 C.grid_order R.grid_order = true := by kernel_rfl
def C.cmp_Compare_int : ACode :=
  .seq (.region [.o 4 (.move false (.c (.int .i64 0)))]) (
  .seq (.region [.m 7 0,.o 8 (.call true F.cmp_isNaN_int [(.t 7)]),.m 5 8]) (
  .seq (.region [.m 9 1,.o 10 (.call true F.cmp_isNaN_int [(.t 9)]),.m 6 10]) (
  .seq (.seq (.region [.m 11 5]) (
  .cond (.t 11) (.seq (.seq (.region [.m 12 6]) (
  .cond (.t 12) (.seq (.region [.o 4 (.move false (.c (.int .i64 0)))]) (
  .ret)) (.skip))) (
  .seq (.region [.o 4 (.move false (.c (.int .i64 (-1))))]) (
  .ret))) (.skip))) (
  .seq (.seq (.region [.m 13 6]) (
  .cond (.t 13) (.seq (.region [.o 4 (.move false (.c (.int .i64 1)))]) (
  .ret)) (.skip))) (
  .seq (.seq (.region [.m 14 0,.m 15 1,.o 16 (.bin .lss (.t 14) (.t 15))]) (
  .cond (.t 16) (.seq (.region [.o 4 (.move false (.c (.int .i64 (-1))))]) (
  .ret)) (.skip))) (
  .seq (.seq (.region [.m 17 0,.m 18 1,.o 19 (.bin .gtr (.t 17) (.t 18))]) (
  .cond (.t 19) (.seq (.region [.o 4 (.move false (.c (.int .i64 1)))]) (
  .ret)) (.skip))) (
  .seq (.region [.o 4 (.move false (.c (.int .i64 0)))]) (
  .ret))))))))
def R.cmp_Compare_int : List ARes := [.t 4]
set_option maxRecDepth 100000 in
theorem K.cmp_Compare_int : ckFun Try.prog Try.f215 C.cmp_Compare_int R.cmp_Compare_int = true := by kernel_rfl
def C.cmp_isNaN_int : ACode :=
  .seq (.region [.o 2 (.move false (.c (.bool false)))]) (
  .seq (.region [.m 3 0,.m 4 0,.o 5 (.bin .neq (.t 3) (.t 4)),.m 2 5]) (
  .ret))
def R.cmp_isNaN_int : List ARes := [.t 2]
set_option maxRecDepth 100000 in
theorem K.cmp_isNaN_int : ckFun Try.prog Try.f230 C.cmp_isNaN_int R.cmp_isNaN_int = true := by kernel_rfl
def C.gantref5_MsgFault : ACode :=
  .seq (.region [.o 1 (.bx true (.t 0)),.o 2 (.move false (.c (.int .i64 0)))]) (
  .seq (.seq (.region [.o 3 (.faddr 0 (.t 1)),.o 4 (.load 2 false 1 (.t 3)),.o 5 (.bin .lss (.t 4) (.c (.int .i64 0))),.m 6 5,.g 7 (.faddr 0 (.t 1)) 6 false,.g 8 (.load 2 false 1 (.t 7)) 6 false,.g 9 (.bin .gtr (.t 8) (.c (.int .i64 3))) 6 false,.o 10 (.pick (.t 6) (.c (.bool true)) (.t 9))]) (
  .cond (.t 10) (.seq (.region [.o 2 (.move false (.c (.int .i64 1)))]) (
  .ret)) (.skip))) (
  .seq (.seq (.region [.o 11 (.faddr 1 (.t 1)),.o 12 (.load 2 false 1 (.t 11)),.o 13 (.bin .lss (.t 12) (.c (.int .i64 0))),.m 14 13,.g 15 (.faddr 1 (.t 1)) 14 false,.g 16 (.load 2 false 1 (.t 15)) 14 false,.g 17 (.bin .gtr (.t 16) (.c (.int .i64 4))) 14 false,.o 18 (.pick (.t 14) (.c (.bool true)) (.t 17)),.m 19 18,.g 20 (.faddr 2 (.t 1)) 19 false,.g 21 (.load 2 false 1 (.t 20)) 19 false,.g 22 (.bin .lss (.t 21) (.c (.int .i64 0))) 19 false,.o 23 (.pick (.t 19) (.c (.bool true)) (.t 22)),.m 24 23,.g 25 (.faddr 2 (.t 1)) 24 false,.g 26 (.load 2 false 1 (.t 25)) 24 false,.g 27 (.bin .gtr (.t 26) (.c (.int .i64 4))) 24 false,.o 28 (.pick (.t 24) (.c (.bool true)) (.t 27)),.m 29 28,.g 30 (.faddr 1 (.t 1)) 29 false,.g 31 (.load 2 false 1 (.t 30)) 29 false,.g 32 (.faddr 2 (.t 1)) 29 false,.g 33 (.load 2 false 1 (.t 32)) 29 false,.g 34 (.bin .eql (.t 31) (.t 33)) 29 false,.o 35 (.pick (.t 29) (.c (.bool true)) (.t 34))]) (
  .cond (.t 35) (.seq (.region [.o 2 (.move false (.c (.int .i64 16)))]) (
  .ret)) (.skip))) (
  .seq (.seq (.region [.o 36 (.faddr 3 (.t 1)),.o 37 (.load 2 false 1 (.t 36)),.o 38 (.bin .lss (.t 37) (.c (.int .i64 0))),.m 39 38,.g 40 (.faddr 3 (.t 1)) 39 false,.g 41 (.load 2 false 1 (.t 40)) 39 false,.g 42 (.bin .geq (.t 41) (.c (.int .i64 2147483648))) 39 false,.o 43 (.pick (.t 39) (.c (.bool true)) (.t 42))]) (
  .cond (.t 43) (.seq (.region [.o 2 (.move false (.c (.int .i64 2)))]) (
  .ret)) (.skip))) (
  .seq (.seq (.region [.o 44 (.faddr 0 (.t 1)),.o 45 (.load 2 false 1 (.t 44)),.o 46 (.bin .eql (.t 45) (.c (.int .i64 3))),.m 47 46,.g 48 (.faddr 5 (.t 1)) 47 true,.g 49 (.load 2 false 1 (.t 48)) 47 true,.g 50 (.len (.t 49)) 47 true,.g 51 (.bin .neq (.t 50) (.c (.int .i64 0))) 47 true,.o 52 (.pick (.t 47) (.t 51) (.c (.bool false)))]) (
  .cond (.t 52) (.seq (.region [.o 2 (.move false (.c (.int .i64 3)))]) (
  .ret)) (.skip))) (
  .seq (.region [.o 2 (.move false (.c (.int .i64 0)))]) (
  .ret))))))
def R.gantref5_MsgFault : List ARes := [.t 2]
set_option maxRecDepth 100000 in
theorem K.gantref5_MsgFault : ckFun Try.prog Try.f58 C.gantref5_MsgFault R.gantref5_MsgFault = true := by kernel_rfl
def C.gantref5_CellsFault : ACode :=
  .seq (.region [.o 2 (.move false (.c (.int .i64 0)))]) (
  .seq (.seq (.region [.m 5 0,.o 6 (.len (.t 5)),.o 7 (.bin .gtr (.t 6) (.c (.int .i64 400)))]) (
  .cond (.t 7) (.seq (.region [.o 2 (.move false (.c (.int .i64 2)))]) (
  .ret)) (.skip))) (
  .seq (.seq (.region [.m 8 0,.o 9 (.len (.t 8)),.o 10 (.move false (.c (.int .i64 0)))]) (
  .block 0 (.loop (.seq (.region [.o 11 (.bin .lss (.t 10) (.t 9))]) (
  .seq (.cond (.t 11) (.skip) (.exit 0)) (
  .seq (.block 1 (.seq (.region [.m 12 10,.o 13 (.iaddr 2 (.t 8) (.t 10)),.o 14 (.load 2 true 2 (.t 13)),.o 4 (.alloc false [(.int .i64 0), (.int .i64 0)]),.m 3 12,⟨none, .store 2 (.t 4) (.t 14), none⟩]) (
  .seq (.seq (.region [.o 15 (.faddr 0 (.t 4)),.o 16 (.load 2 false 1 (.t 15)),.o 17 (.bin .lss (.t 16) (.c (.int .i64 (-64)))),.m 18 17,.g 19 (.faddr 0 (.t 4)) 18 false,.g 20 (.load 2 false 1 (.t 19)) 18 false,.g 21 (.bin .gtr (.t 20) (.c (.int .i64 63))) 18 false,.o 22 (.pick (.t 18) (.c (.bool true)) (.t 21)),.m 23 22,.g 24 (.faddr 1 (.t 4)) 23 false,.g 25 (.load 2 false 1 (.t 24)) 23 false,.g 26 (.bin .lss (.t 25) (.c (.int .i64 (-64)))) 23 false,.o 27 (.pick (.t 23) (.c (.bool true)) (.t 26)),.m 28 27,.g 29 (.faddr 1 (.t 4)) 28 false,.g 30 (.load 2 false 1 (.t 29)) 28 false,.g 31 (.bin .gtr (.t 30) (.c (.int .i64 63))) 28 false,.o 32 (.pick (.t 28) (.c (.bool true)) (.t 31))]) (
  .cond (.t 32) (.seq (.region [.o 2 (.move false (.c (.int .i64 17)))]) (
  .ret)) (.skip))) (
  .seq (.drawn [0, 1, 2, 3, 4, 5, 6, 7, 8, 9, 10, 11, 12, 13, 14, 15, 16, 17, 18, 19, 20, 21, 22, 23, 24, 25, 26, 27, 28, 29, 30, 31, 32, 33, 34] [0, 1, 3, 7, 7, 23, 63, 127, 255, 7, 519, 2047, 4095, 8191, 8191, 24575, 65535, 131071, 262143, 8191, 532479, 2097151, 4194303, 8388607, 8388607, 25165823, 67108863, 134217727, 268435455, 8388607, 545259519, 2147483647, 4294967295, 8589934591, 17179869183] [.m 33 3,.o 34 (.bin .gtr (.t 33) (.c (.int .i64 0))),.m 35 34,.g 36 (.move false (.t 0)) 35 true,.g 37 (.move false (.t 3)) 35 true,.g 38 (.bin .sub (.t 37) (.c (.int .i64 1))) 35 true,.g 39 (.iaddr 2 (.t 36) (.t 38)) 35 true,.g 40 (.faddr 1 (.t 39)) 35 true,.g 41 (.load 0 false 1 (.t 40)) 35 true,.g 42 (.faddr 1 (.t 4)) 35 true,.g 43 (.load 1 false 1 (.t 42)) 35 true,.g 44 (.bin .gtr (.t 41) (.t 43)) 35 true,.g 45 (.move false (.t 44)) 35 true,.g 46 (.move false (.t 0)) 45 false,.g 47 (.move false (.t 3)) 45 false,.g 48 (.bin .sub (.t 47) (.c (.int .i64 1))) 45 false,.g 49 (.iaddr 2 (.t 46) (.t 48)) 45 false,.g 50 (.faddr 1 (.t 49)) 45 false,.g 51 (.load 0 false 1 (.t 50)) 45 false,.g 52 (.faddr 1 (.t 4)) 45 false,.g 53 (.load 1 false 1 (.t 52)) 45 false,.g 54 (.bin .eql (.t 51) (.t 53)) 45 false,.g 55 (.move false (.t 54)) 45 false,.g 56 (.move false (.t 0)) 55 true,.g 57 (.move false (.t 3)) 55 true,.g 58 (.bin .sub (.t 57) (.c (.int .i64 1))) 55 true,.g 59 (.iaddr 2 (.t 56) (.t 58)) 55 true,.g 60 (.faddr 0 (.t 59)) 55 true,.g 61 (.load 0 false 1 (.t 60)) 55 true,.g 62 (.faddr 0 (.t 4)) 55 true,.g 63 (.load 1 false 1 (.t 62)) 55 true,.g 64 (.bin .geq (.t 61) (.t 63)) 55 true,.g 65 (.pick (.t 55) (.t 64) (.c (.bool false))) 45 false,.g 66 (.pick (.t 45) (.c (.bool true)) (.t 65)) 35 true,.o 67 (.pick (.t 35) (.t 66) (.c (.bool false)))]) (
  .cond (.t 67) (.seq (.region [.o 2 (.move false (.c (.int .i64 9)))]) (
  .ret)) (.skip)))))) (
  .region [.o 68 (.bin .add (.t 10) (.c (.int .i64 1))),.m 10 68]))))))) (
  .seq (.region [.o 2 (.move false (.c (.int .i64 0)))]) (
  .ret))))
def R.gantref5_CellsFault : List ARes := [.t 2]
set_option maxRecDepth 100000 in
theorem K.gantref5_CellsFault : ckFun Try.prog Try.f59 C.gantref5_CellsFault R.gantref5_CellsFault = true := by kernel_rfl
end Go.Proofs.Ytpdajkbfemcdlaa
namespace Go.Proofs.Ytpdajkbfemcdlaa
open Go.Ge
def cmpI (a b : Int) : Int := if a < b then -1 else if a > b then 1 else 0
def orderC (a b : Cell) : Int := if cmpI a.Y b.Y ≠ 0 then cmpI a.Y b.Y else cmpI a.X b.X
def cellLt (a b : Cell) : Prop := a.Y < b.Y ∨ a.Y = b.Y ∧ a.X < b.X
instance (a b : Cell) : Decidable (cellLt a b) := by unfold cellLt; exact inferInstance
theorem orderC_lt (a b : Cell) : orderC a b ≥ 0 ↔ ¬cellLt a b := by
  unfold orderC cmpI cellLt
  split <;> (repeat split) <;> (repeat split at *) <;> omega
def onG (n : Int) : Prop := -64 ≤ n ∧ n < 64
instance (n : Int) : Decidable (onG n) := by unfold onG; exact inferInstance
def cellsF : Option Cell → List Cell → Int
  | _, [] => 0
  | p, c :: r => if ¬onG c.X ∨ ¬onG c.Y then 17 else if (∃ q ∈ p, ¬cellLt q c) then 9 else cellsF (some c) r
def cellsFault (l : List Cell) : Int := if l.length > 400 then 2 else cellsF none l
def prevC (l : List Cell) (i : Nat) : Option Cell := if i = 0 then none else l[i - 1]?
theorem cellsF_step {l : List Cell} {i : Nat} (h : i < l.length) : cellsF (prevC l i) (l.drop i) = if ¬onG l[i].X ∨ ¬onG l[i].Y then 17 else if (∃ q ∈ prevC l i, ¬cellLt q l[i]) then 9 else cellsF (prevC l (i + 1)) (l.drop (i + 1)) := by
  rw [List.drop_eq_getElem_cons h, cellsF]
  have : prevC l (i + 1) = some l[i] := by unfold prevC; simp [h]
  rw [this]
def msgFault (m : Msg) : Int :=
  if m.Kind < 0 ∨ m.Kind > 3 then 1 else if m.From < 0 ∨ m.From > 4 ∨ m.To < 0 ∨ m.To > 4 ∨ m.From = m.To then 16
  else if m.Seq < 0 ∨ m.Seq > 2147483647 then 2 else if m.Kind = 3 ∧ m.Cells.length ≠ 0 then 3 else 0
def checkF (m : Msg) : Int := if msgFault m ≠ 0 then msgFault m else cellsFault m.Cells
theorem isNaN_ok (a : Int) (h : List HObj) : ACalls Try.prog F.cmp_isNaN_int [.int .i64 a] h (fun r h' => r = .bool false ∧ h' = h) := by
  refine ACalls.of_aw Try.func230 K.cmp_isNaN_int (by simp [Try.f230]) ?_
  generalize hQ : retQ R.cmp_isNaN_int _ = Q
  simp (disch:=first|assumption|omega) only[C.cmp_isNaN_int,go_sem,↓reduceIte,Nat.reduceEqDiff,reduceCtorEq,reduceIte,decide_false,not_true_eq_false,Bool.true_and,int_bne]
  subst hQ
  simp (disch:=first|assumption|omega) only[R.cmp_isNaN_int,go_sem,↓reduceIte,reduceIte]
theorem Compare_ok (a b : Int) (h : List HObj) : ACalls Try.prog F.cmp_Compare_int [.int .i64 a, .int .i64 b] h (fun r h' => r = .int .i64 (cmpI a b) ∧ h' = h) := by
  refine ACalls.of_aw Try.func215 K.cmp_Compare_int (by simp [Try.f215]) ?_
  generalize hQ : retQ R.cmp_Compare_int _ = Q
  simp (disch:=first|assumption|omega) only[C.cmp_Compare_int,go_sem,↓reduceIte,reduceCtorEq,reduceIte,Int.reduceNeg,Bool.true_and]
  refine callG_ok (isNaN_ok a _) (by simp (disch:=first|assumption|omega) only[go_sem]) ?_
  rintro _ _ ⟨rfl, hhh⟩
  try rw [hhh]
  clear hhh
  simp (disch:=first|assumption|omega) only[go_sem,↓reduceIte,Nat.reduceEqDiff,reduceIte,Int.reduceNeg,Bool.true_and]
  refine callG_ok (isNaN_ok b _) (by simp (disch:=first|assumption|omega) only[go_sem]) ?_
  rintro _ _ ⟨rfl, hhh⟩
  try rw [hhh]
  clear hhh
  simp (disch:=first|assumption|omega) only[go_sem,↓reduceIte,Nat.reduceEqDiff,reduceCtorEq,reduceIte,Int.reduceNeg,Bool.true_and]
  refine condG_if (fun hlt => ?_) fun hge => ?_
  · simp (disch:=first|assumption|omega) only[go_sem,Int.reduceNeg,Bool.true_and]
    subst hQ
    simp (disch:=first|assumption|omega) only[R.cmp_Compare_int,go_sem,↓reduceIte,reduceIte,Int.reduceNeg,Bool.true_and]
    rw [cmpI, if_pos hlt]
  · simp (disch:=first|assumption|omega) only[go_sem,↓reduceIte,Nat.reduceEqDiff,reduceCtorEq,reduceIte,Bool.true_and]
    refine condG_if (fun hlt2 => ?_) fun hge2 => ?_
    · simp (disch:=first|assumption|omega) only[go_sem,Bool.true_and]
      subst hQ
      simp (disch:=first|assumption|omega) only[R.cmp_Compare_int,go_sem,↓reduceIte,reduceIte,Bool.true_and]
      rw [cmpI, if_neg hge, if_pos hlt2]
    · simp (disch:=first|assumption|omega) only[go_sem,Bool.true_and]
      subst hQ
      simp (disch:=first|assumption|omega) only[R.cmp_Compare_int,go_sem,↓reduceIte,reduceIte,Bool.true_and]
      rw [cmpI, if_neg hge, if_neg hge2]
theorem order_ok (a b : Cell) (h : List HObj) : ACalls Try.prog F.grid_order [cellA a, cellA b] h (fun r h' => r = .int .i64 (orderC a b) ∧ h' = h) := by
  refine ACalls.of_aw Try.func198 K.grid_order (by simp [Try.f198]) ?_
  generalize hQ : retQ R.grid_order _ = Q
  simp (disch:=first|assumption|omega) only[C.grid_order,go_sem,↓reduceIte,Nat.reduceEqDiff,Nat.reduceLeDiff,reduceIte,Bool.true_and]
  simp (disch:=first|assumption|omega) only[cellA,go_sem,↓reduceIte,Nat.reduceEqDiff,Nat.reduceAdd,Nat.reduceLT,reduceIte,Int.reduceLT,Int.reduceAdd,Bool.true_and]
  refine callG_ok (Compare_ok a.Y b.Y _) (by simp (disch:=first|assumption|omega) only[go_sem]) ?_
  rintro _ _ ⟨rfl, hhh⟩
  try rw [hhh]
  clear hhh
  simp (disch:=first|assumption|omega) only[go_sem,↓reduceIte,reduceIte,Bool.true_and,int_bne]
  refine condG_ifn (fun hb => ?_) fun hb => ?_
  · simp (disch:=first|assumption|omega) only[go_sem,↓reduceIte,Nat.reduceEqDiff,reduceIte,Bool.true_and]
    subst hQ
    simp (disch:=first|assumption|omega) only[R.grid_order,go_sem,↓reduceIte,reduceIte,Bool.true_and]
    rw [orderC, if_pos hb]
  · simp (disch:=first|assumption|omega) only[go_sem,↓reduceIte,Nat.reduceEqDiff,Nat.reduceAdd,Nat.reduceLeDiff,reduceIte,Int.reduceAdd,Bool.true_and]
    refine callG_ok (Compare_ok a.X b.X _) (by simp (disch:=first|assumption|omega) only[go_sem]) ?_
    rintro _ _ ⟨rfl, hhh⟩
    try rw [hhh]
    clear hhh
    simp (disch:=first|assumption|omega) only[go_sem,↓reduceIte,reduceIte,Bool.true_and]
    subst hQ
    simp (disch:=first|assumption|omega) only[R.grid_order,go_sem,↓reduceIte,reduceIte,Bool.true_and]
    rw [orderC, if_neg (by simp [hb])]
theorem on_ok (n : Int) (h : List HObj) : ACalls Try.prog F.grid_on [.int .i64 n] h (fun r h' => r = .bool (decide (onG n)) ∧ h' = h) := by
  refine ACalls.of_aw Try.func197 K.grid_on (by simp [Try.f197]) ?_
  generalize hQ : retQ R.grid_on _ = Q
  simp (disch:=first|assumption|omega) only[C.grid_on,go_sem,↓reduceIte,reduceCtorEq,reduceIte,Int.reduceNeg,Bool.true_and]
  refine aopsG_if (fun h1 => ?_) fun h1 => ?_
  · simp (disch:=first|assumption|omega) only[h1,go_sem,↓reduceIte,Nat.reduceEqDiff,reduceCtorEq,reduceIte,cond_true,Int.reduceNeg,decide_true,Bool.true_and]
    subst hQ
    simp (disch:=first|assumption|omega) only[R.grid_on,go_sem,↓reduceIte,reduceIte,Bool.true_and]
    have : decide (n < 64) = decide (onG n) := by
      unfold onG; by_cases h2 : n < 64 <;> simp [h1, h2]
    rw [this]
  · simp (disch:=first|assumption|omega) only[h1,go_sem,↓reduceIte,Nat.reduceEqDiff,reduceIte,cond_false,Int.reduceNeg,decide_false,Bool.true_and]
    subst hQ
    simp (disch:=first|assumption|omega) only[R.grid_on,go_sem,↓reduceIte,reduceIte,Bool.true_and]
    have : ¬ onG n := by unfold onG; omega
    simp [this]
theorem gridCheck_ok (o : Own) (l : List Cell) (ho : Rdo o) (hl : l.length < 4611686018427387904) (h : List HObj) : ACalls Try.prog F.grid_Check [.lst o (cellsA l)] h (fun r h' => r = .int .i64 (cellsFault l) ∧ h' = h) := by
  refine ACalls.of_aw Try.func158 K.grid_Check (by simp [Try.f158]) ?_
  generalize hQ : retQ R.grid_Check _ = Q
  simp (disch:=first|assumption|omega) only[C.grid_Check,go_sem,↓reduceIte,reduceCtorEq,reduceIte,Bool.true_and]
  refine condG_if (fun h4 => ?_) fun h4 => ?_
  · simp (disch:=first|assumption|omega) only[go_sem,Bool.true_and]
    subst hQ
    simp (disch:=first|assumption|omega) only[R.grid_Check,go_sem,↓reduceIte,reduceIte,Bool.true_and]
    rw [cellsFault, if_pos (by omega)]
  · have h5 : ¬ l.length > 400 := by omega
    simp (disch:=first|assumption|omega) only[go_sem,↓reduceIte,reduceCtorEq,reduceIte,Bool.true_and]
    refine aw_count (fun d S => ∃ (i : Nat), i + d = l.length ∧ S.env 10 = .int .i64 i ∧ S.env 9 = .int .i64 l.length ∧ S.env 8 = .lst o (cellsA l) ∧ S.env 0 = .lst o (cellsA l) ∧ cellsF none l = cellsF (prevC l i) (l.drop i) ∧ S.heap = h) (n := l.length) ⟨0, by simp [go_sem, prevC]⟩ ?_
    rintro d S ⟨i, hi, e10, e9, e8, e0, hf, eh⟩
    simp (disch:=first|assumption|omega) only[e10,e9,go_sem,↓reduceIte,reduceIte,Int.ofNat_lt,Bool.true_and]
    refine condG_if (fun hlt => ?_) fun hge => ?_
    · have hlt : i < l.length := by omega
      have hat := at_cells hlt
      rw [cellsF_step hlt] at hf
      simp (disch:=first|assumption|omega) only[e10,e8,hat,cellA,hlt,go_sem,↓reduceIte,Nat.reduceEqDiff,Nat.reduceAdd,Nat.reduceLeDiff,reduceIte,Int.natCast_nonneg,Int.ofNat_lt,Int.reduceAdd,decide_true,Bool.true_and]
      by_cases hx : onG l[i].X
      · refine callG_ok (on_ok l[i].X _) (by simp (disch:=first|assumption|omega) only[go_sem]) ?_
        rintro _ _ ⟨rfl, hhh⟩
        try rw [hhh]
        clear hhh
        simp (disch:=first|assumption|omega) only[hx,go_sem,↓reduceIte,Nat.reduceEqDiff,Nat.reduceAdd,Nat.reduceLeDiff,Nat.reduceLT,reduceIte,Int.reduceLT,Int.reduceAdd,decide_true,Bool.true_and]
        by_cases hy : onG l[i].Y
        · refine callG_ok (on_ok l[i].Y _) (by simp (disch:=first|assumption|omega) only[go_sem]) ?_
          rintro _ _ ⟨rfl, hhh⟩
          try rw [hhh]
          clear hhh
          simp (disch:=first|assumption|omega) only[hy,go_sem,↓reduceIte,Nat.reduceEqDiff,reduceIte,cond_false,decide_true,Bool.true_and,alS]
          rw [if_neg (by simp [hx, hy])] at hf
          refine aopsG_if (fun h0 => ?_) fun h0 => ?_
          · have hi0 := h0
            have h0 : 0 < i := by omega
            have hat2 := at_cells (l := l) (i := i - 1) (by omega)
            have ei : ((i - 1 : Nat) : Int) = (i : Int) - 1 := by omega
            rw [ei] at hat2
            have hp : prevC l i = some l[i - 1] := by unfold prevC; rw [if_neg (by omega), List.getElem?_eq_getElem (by omega)]
            have hlt2 : i - 1 < l.length := by omega
            simp (disch:=first|assumption|omega) only[e0,hat2,hi0,cellA,go_sem,↓reduceIte,Nat.reduceEqDiff,reduceCtorEq,Nat.reduceAdd,Nat.reduceLeDiff,reduceIte,Int.reduceAdd,decide_true,Bool.true_and]
            refine ⟨⟨by omega, by omega⟩, ?_⟩
            refine callG_ok (order_ok l[i - 1] l[i] _) (by simp (disch:=first|assumption|omega) only[go_sem]) ?_
            rintro _ _ ⟨rfl, hhh⟩
            try rw [hhh]
            clear hhh
            simp (disch:=first|assumption|omega) only[go_sem,↓reduceIte,Nat.reduceEqDiff,reduceIte,cond_true,Bool.true_and]
            refine condG_if (fun hc => ?_) fun hc => ?_
            · simp (disch:=first|assumption|omega) only[go_sem,Bool.true_and]
              subst hQ
              simp (disch:=first|assumption|omega) only[R.grid_Check,go_sem,↓reduceIte,reduceIte,Bool.true_and]
              rw [cellsFault, if_neg h5, hf, hp, if_pos ⟨_, rfl, (orderC_lt _ _).1 hc⟩]
              exact ⟨rfl, eh⟩
            · simp (disch:=first|assumption|omega) only[e10,e9,e8,e0,eh,go_sem,↓reduceIte,Nat.reduceEqDiff,reduceCtorEq,reduceIte,Bool.true_and]
              rw [hp, if_neg (by rintro ⟨q, hq, hq2⟩; cases hq; exact hc ((orderC_lt _ _).2 hq2))] at hf
              exact ⟨d - 1, by omega, i + 1, by omega, by simp, hf⟩
          · have hp : prevC l i = none := by unfold prevC; rw [if_pos (by omega)]
            rw [hp, if_neg (by simp)] at hf
            simp (disch:=first|assumption|omega) only[e10,e9,e8,e0,eh,h0,go_sem,↓reduceIte,Nat.reduceEqDiff,reduceCtorEq,reduceIte,cond_false,decide_false,Bool.true_and]
            exact ⟨d - 1, by omega, i + 1, by omega, by simp, hf⟩
        · refine callG_ok (on_ok l[i].Y _) (by simp (disch:=first|assumption|omega) only[go_sem]) ?_
          rintro _ _ ⟨rfl, hhh⟩
          try rw [hhh]
          clear hhh
          simp (disch:=first|assumption|omega) only[hy,go_sem,↓reduceIte,Nat.reduceEqDiff,reduceIte,cond_false,decide_false,Bool.true_and]
          subst hQ
          simp (disch:=first|assumption|omega) only[R.grid_Check,go_sem,↓reduceIte,reduceIte,Bool.true_and]
          rw [cellsFault, if_neg h5, hf, if_pos (.inr hy)]
          exact ⟨rfl, eh⟩
      · refine callG_ok (on_ok l[i].X _) (by simp (disch:=first|assumption|omega) only[go_sem]) ?_
        rintro _ _ ⟨rfl, hhh⟩
        try rw [hhh]
        clear hhh
        simp (disch:=first|assumption|omega) only[hx,go_sem,↓reduceIte,Nat.reduceEqDiff,reduceIte,cond_true,decide_false,Bool.true_and]
        subst hQ
        simp (disch:=first|assumption|omega) only[R.grid_Check,go_sem,↓reduceIte,reduceIte,Bool.true_and]
        rw [cellsFault, if_neg h5, hf, if_pos (.inl hx)]
        exact ⟨rfl, eh⟩
    · obtain rfl : i = l.length := by omega
      rw [List.drop_length, cellsF] at hf
      simp (disch:=first|assumption|omega) only[go_sem,↓reduceIte,reduceIte,Bool.true_and]
      subst hQ
      simp (disch:=first|assumption|omega) only[R.grid_Check,go_sem,↓reduceIte,reduceIte,Bool.true_and]
      rw [cellsFault, if_neg h5, hf]
      exact ⟨rfl, eh⟩
theorem MsgFault_ok (o : Own) (m : Msg) (ho : Rdo o) (hl : m.Cells.length < 4611686018427387904) (h : List HObj) : ACalls Try.prog F.gantref5_MsgFault [msgA o m] h (fun r h' => r = .int .i64 (msgFault m) ∧ h' = h) := by
  refine ACalls.of_aw Try.func58 K.gantref5_MsgFault (by simp [Try.f58]) ?_
  generalize hQ : retQ R.gantref5_MsgFault _ = Q
  simp (disch:=first|assumption|omega) only[C.gantref5_MsgFault,go_sem,↓reduceIte,Nat.reduceEqDiff,Nat.reduceLeDiff,reduceIte,Bool.true_and]
  simp (disch:=first|assumption|omega) only[msgA,msgC,go_sem,Nat.reduceAdd,Int.reduceAdd,Bool.true_and]
  iterate 16 (all_goals (try ((first | refine aopsG_ifn (fun hb => ?_) (fun hb => ?_) | refine condG_ifn (fun hb => ?_) (fun hb => ?_) | refine aopsG_if (fun hb => ?_) (fun hb => ?_) | refine condG_if (fun hb => ?_) (fun hb => ?_) | refine aopsG_split (fun hb => ?_) (fun hb => ?_) | refine condG_split (fun hb => ?_) (fun hb => ?_)) <;> simp (disch:=first|assumption|omega) only[hb,go_sem,↓reduceIte,Nat.reduceEqDiff,Nat.reduceAdd,Nat.reduceLeDiff,Nat.reduceLT,reduceIte,cond_true,cond_false,Int.reduceLT,Int.reduceAdd,decide_true,decide_false,not_true_eq_false,not_false_eq_true,Bool.true_and,int_beq,int_bne])))
  all_goals (try omega)
  all_goals (subst hQ; simp (disch:=first|assumption|omega) only[R.gantref5_MsgFault,go_sem,↓reduceIte,reduceIte,Bool.true_and]; refine congrArg (AVal.int .i64) ?_; unfold msgFault; (repeat split) <;> omega)
theorem CellsFault_ok (o : Own) (l : List Cell) (ho : Rdo o) (hl : l.length < 4611686018427387904) (h : List HObj) : ACalls Try.prog F.gantref5_CellsFault [.lst o (cellsA l)] h (fun r h' => r = .int .i64 (cellsFault l) ∧ h' = h) := by
  refine ACalls.of_aw Try.func59 K.gantref5_CellsFault (by simp [Try.f59]) ?_
  generalize hQ : retQ R.gantref5_CellsFault _ = Q
  simp (disch:=first|assumption|omega) only[C.gantref5_CellsFault,go_sem,↓reduceIte,reduceCtorEq,reduceIte,Int.reduceNeg,Bool.true_and]
  refine condG_if (fun h4 => ?_) fun h4 => ?_
  · simp (disch:=first|assumption|omega) only[go_sem,Int.reduceNeg,Bool.true_and]
    subst hQ
    simp (disch:=first|assumption|omega) only[R.gantref5_CellsFault,go_sem,↓reduceIte,reduceIte,Bool.true_and]
    rw [cellsFault, if_pos (by omega)]
  · have h5 : ¬ l.length > 400 := by omega
    simp (disch:=first|assumption|omega) only[go_sem,↓reduceIte,reduceCtorEq,reduceIte,Int.reduceNeg,Bool.true_and]
    refine aw_count (fun d S => ∃ (i : Nat), i + d = l.length ∧ S.env 10 = .int .i64 i ∧ S.env 9 = .int .i64 l.length ∧ S.env 8 = .lst o (cellsA l) ∧ S.env 0 = .lst o (cellsA l) ∧ cellsF none l = cellsF (prevC l i) (l.drop i) ∧ S.heap = h) (n := l.length) ⟨0, by simp [go_sem, prevC]⟩ ?_
    rintro d S ⟨i, hi, e10, e9, e8, e0, hf, eh⟩
    simp (disch:=first|assumption|omega) only[e10,e9,go_sem,↓reduceIte,reduceIte,Int.ofNat_lt,Int.reduceNeg,Bool.true_and]
    refine condG_if (fun hlt => ?_) fun hge => ?_
    · have hlt : i < l.length := by omega
      have hat := at_cells hlt
      rw [cellsF_step hlt] at hf
      simp (disch:=first|assumption|omega) only[e10,e8,hat,cellA,hlt,go_sem,↓reduceIte,Nat.reduceEqDiff,Nat.reduceAdd,Nat.reduceLeDiff,reduceIte,Int.natCast_nonneg,Int.ofNat_lt,Int.reduceAdd,Int.reduceNeg,decide_true,Bool.true_and]
      by_cases hx : onG l[i].X
      · by_cases hy : onG l[i].Y
        · rw [if_neg (by simp [hx, hy])] at hf
          have q1 : ¬ l[i].X < -64 := by unfold onG at hx; omega
          have q2 : ¬ 63 < l[i].X := by unfold onG at hx; omega
          have q3 : ¬ l[i].Y < -64 := by unfold onG at hy; omega
          have q4 : ¬ 63 < l[i].Y := by unfold onG at hy; omega
          simp (disch:=first|assumption|omega) only[q1,q2,q3,q4,go_sem,↓reduceIte,Nat.reduceEqDiff,Nat.reduceAdd,Nat.reduceLeDiff,Nat.reduceLT,reduceIte,cond_false,Int.reduceLT,Int.reduceAdd,Int.reduceNeg,decide_false,Bool.true_and,alS]
          refine aopsG_if (fun h0 => ?_) fun h0 => ?_
          · have hi0 := h0
            have h0 : 0 < i := by omega
            have hat2 := at_cells (l := l) (i := i - 1) (by omega)
            have ei : ((i - 1 : Nat) : Int) = (i : Int) - 1 := by omega
            rw [ei] at hat2
            have hp : prevC l i = some l[i - 1] := by unfold prevC; rw [if_neg (by omega), List.getElem?_eq_getElem (by omega)]
            have hlt2 : i - 1 < l.length := by omega
            rw [hp] at hf
            have hx1 : (0 : Int) ≤ (i : Int) - 1 := by omega
            have hx2 : (i : Int) - 1 < l.length := by omega
            simp (disch:=first|assumption|omega) only[e0,hat2,hi0,cellA,hx1,hx2,go_sem,↓reduceIte,Nat.reduceEqDiff,reduceCtorEq,Nat.reduceAdd,Nat.reduceLeDiff,Nat.reduceLT,reduceIte,Int.reduceLT,Int.reduceAdd,decide_true,Bool.true_and]
            iterate 3 (all_goals (try ((first | refine aopsG_ifn (fun hb => ?_) (fun hb => ?_) | refine condG_ifn (fun hb => ?_) (fun hb => ?_) | refine aopsG_if (fun hb => ?_) (fun hb => ?_) | refine condG_if (fun hb => ?_) (fun hb => ?_) | refine aopsG_split (fun hb => ?_) (fun hb => ?_) | refine condG_split (fun hb => ?_) (fun hb => ?_)) <;> simp (disch:=first|assumption|omega) only[hb,e10,e9,e8,e0,eh,hat2,cellA,hx1,hx2,go_sem,↓reduceIte,Nat.reduceEqDiff,reduceCtorEq,Nat.reduceAdd,Nat.reduceLeDiff,Nat.reduceLT,reduceIte,cond_true,cond_false,Int.reduceLT,Int.reduceAdd,decide_true,decide_false,Bool.true_and,int_beq])))
            all_goals first
              | (rw [if_neg (by rintro ⟨q, hq, hq2⟩; cases hq; exact hq2 (by unfold cellLt; omega))] at hf
                 exact ⟨d - 1, by omega, i + 1, by omega, by simp, hf⟩)
              | (rw [if_pos ⟨_, rfl, by unfold cellLt; omega⟩] at hf
                 subst hQ
                 simp (disch:=first|assumption|omega) only[R.gantref5_CellsFault,eh,go_sem,↓reduceIte,reduceIte,Bool.true_and]
                 rw [cellsFault, if_neg h5, hf])
          · have hp : prevC l i = none := by unfold prevC; rw [if_pos (by omega)]
            rw [hp, if_neg (by simp)] at hf
            simp (disch:=first|assumption|omega) only[e10,e9,e8,e0,eh,h0,go_sem,↓reduceIte,Nat.reduceEqDiff,reduceCtorEq,reduceIte,cond_false,decide_false,Bool.true_and]
            exact ⟨d - 1, by omega, i + 1, by omega, by simp, hf⟩
        · have q : l[i].Y < -64 ∨ 63 < l[i].Y := by unfold onG at hy; omega
          rw [if_pos (.inr hy)] at hf
          iterate 4 (all_goals (try ((first | refine aopsG_ifn (fun hb => ?_) (fun hb => ?_) | refine condG_ifn (fun hb => ?_) (fun hb => ?_) | refine aopsG_if (fun hb => ?_) (fun hb => ?_) | refine condG_if (fun hb => ?_) (fun hb => ?_) | refine aopsG_split (fun hb => ?_) (fun hb => ?_) | refine condG_split (fun hb => ?_) (fun hb => ?_)) <;> simp (disch:=first|assumption|omega) only[hb,go_sem,↓reduceIte,Nat.reduceEqDiff,Nat.reduceAdd,Nat.reduceLeDiff,Nat.reduceLT,reduceIte,cond_true,cond_false,Int.reduceLT,Int.reduceAdd,Int.reduceNeg,decide_true,decide_false,Bool.true_and,alS])))
          all_goals (subst hQ; simp (disch:=first|assumption|omega) only[R.gantref5_CellsFault,go_sem,↓reduceIte,reduceIte,Bool.true_and]; first | omega | (rw [cellsFault, if_neg h5, hf]; exact ⟨rfl, eh⟩))
      · have q : l[i].X < -64 ∨ 63 < l[i].X := by unfold onG at hx; omega
        rw [if_pos (.inl hx)] at hf
        iterate 4 (all_goals (try ((first | refine aopsG_ifn (fun hb => ?_) (fun hb => ?_) | refine condG_ifn (fun hb => ?_) (fun hb => ?_) | refine aopsG_if (fun hb => ?_) (fun hb => ?_) | refine condG_if (fun hb => ?_) (fun hb => ?_) | refine aopsG_split (fun hb => ?_) (fun hb => ?_) | refine condG_split (fun hb => ?_) (fun hb => ?_)) <;> simp (disch:=first|assumption|omega) only[hb,go_sem,↓reduceIte,Nat.reduceEqDiff,Nat.reduceAdd,Nat.reduceLeDiff,reduceIte,cond_true,cond_false,Int.reduceAdd,Int.reduceNeg,decide_true,decide_false,Bool.true_and,alS])))
        all_goals (subst hQ; simp (disch:=first|assumption|omega) only[R.gantref5_CellsFault,go_sem,↓reduceIte,reduceIte,Bool.true_and]; first | omega | (rw [cellsFault, if_neg h5, hf]; exact ⟨rfl, eh⟩))
    · obtain rfl : i = l.length := by omega
      rw [List.drop_length, cellsF] at hf
      simp (disch:=first|assumption|omega) only[go_sem,↓reduceIte,reduceIte,Int.reduceNeg,Bool.true_and]
      subst hQ
      simp (disch:=first|assumption|omega) only[R.gantref5_CellsFault,go_sem,↓reduceIte,reduceIte,Bool.true_and]
      rw [cellsFault, if_neg h5, hf]
      exact ⟨rfl, eh⟩
theorem Check_ok (o : Own) (m : Msg) (ho : Rdo o) (hl : m.Cells.length < 4611686018427387904) (h : List HObj) : ACalls Try.prog F.msg_Check [msgA o m] h (fun r h' => r = .int .i64 (checkF m) ∧ h' = h) := by
  refine ACalls.of_aw Try.func74 K.msg_Check (by simp [Try.f74]) ?_
  generalize hQ : retQ R.msg_Check _ = Q
  simp (disch:=first|assumption|omega) only[C.msg_Check,go_sem,↓reduceIte,Nat.reduceEqDiff,Nat.reduceLeDiff,reduceIte,Bool.true_and]
  simp (disch:=first|assumption|omega) only[msgA,msgC,go_sem,Nat.reduceAdd,Int.reduceAdd,Bool.true_and]
  iterate 14 (all_goals (try ((first | refine aopsG_ifn (fun hb => ?_) (fun hb => ?_) | refine condG_ifn (fun hb => ?_) (fun hb => ?_) | refine aopsG_if (fun hb => ?_) (fun hb => ?_) | refine condG_if (fun hb => ?_) (fun hb => ?_) | refine aopsG_split (fun hb => ?_) (fun hb => ?_) | refine condG_split (fun hb => ?_) (fun hb => ?_)) <;> simp (disch:=first|assumption|omega) only[hb,go_sem,↓reduceIte,Nat.reduceEqDiff,Nat.reduceAdd,Nat.reduceLeDiff,Nat.reduceLT,reduceIte,cond_true,cond_false,Int.reduceLT,Int.reduceAdd,decide_true,decide_false,Bool.true_and,int_beq])))
  all_goals (try omega)
  all_goals first
    | (refine callG_ok (gridCheck_ok o m.Cells ho hl _) (by simp (disch:=first|assumption|omega) only[go_sem]) ?_
       rintro _ _ ⟨rfl, hhh⟩
       rw [hhh]
       clear hhh
       simp (disch:=first|assumption|omega) only[go_sem,↓reduceIte,reduceIte,Bool.true_and]
       subst hQ
       simp (disch:=first|assumption|omega) only[R.msg_Check,go_sem,↓reduceIte,reduceIte,Bool.true_and]
       have : msgFault m = 0 := by unfold msgFault; (repeat split) <;> omega
       rw [checkF, if_neg (by simp [this])])
    | (subst hQ
       simp (disch:=first|assumption|omega) only[R.msg_Check,go_sem,↓reduceIte,reduceIte,Bool.true_and]
       refine congrArg (AVal.int .i64) ?_
       have : msgFault m ≠ 0 := by unfold msgFault; (repeat split) <;> omega
       rw [checkF, if_pos this]
       unfold msgFault; (repeat split) <;> omega)
end Go.Proofs.Ytpdajkbfemcdlaa
namespace Go.Proofs.Ytpdajkbfemcdlaa
open Go.Ge
def C.msg_Copy : ACode :=
  .seq (.region [.o 1 (.bx true (.t 0)),.o 2 (.alloc false [(.int .i64 0), (.int .i64 0), (.int .i64 0), (.int .i64 0), (.int .u32 0), (.lst .nil [])])]) (
  .seq (.region [.o 3 (.faddr 5 (.t 1)),.o 4 (.load 2 false 1 (.t 3)),.o 5 (.call true F.slices_Clone_Cell [(.t 4)]),.o 6 (.faddr 5 (.t 1)),⟨none, .store 1 (.t 6) (.t 5), none⟩]) (
  .seq (.region [.o 7 (.load 2 true 6 (.t 1)),⟨none, .store 6 (.t 2) (.t 7), none⟩]) (
  .ret)))
def R.msg_Copy : List ARes := [.c 2 true 6]
set_option maxRecDepth 100000 in
theorem K.msg_Copy : ckFun Try.prog Try.f49 C.msg_Copy R.msg_Copy = true := by kernel_rfl
def C.gantlaw5_same : ACode :=
  .seq (.region [.o 2 (.bx true (.t 0)),.o 3 (.bx true (.t 1)),.o 4 (.move false (.c (.bool false)))]) (
  .seq (.region [.o 5 (.faddr 0 (.t 2)),.o 6 (.load 2 false 1 (.t 5)),.o 7 (.faddr 0 (.t 3)),.o 8 (.load 2 false 1 (.t 7)),.o 9 (.bin .eql (.t 6) (.t 8)),.m 10 9,.g 11 (.faddr 1 (.t 2)) 10 true,.g 12 (.load 2 false 1 (.t 11)) 10 true,.g 13 (.faddr 1 (.t 3)) 10 true,.g 14 (.load 2 false 1 (.t 13)) 10 true,.g 15 (.bin .eql (.t 12) (.t 14)) 10 true,.o 16 (.pick (.t 10) (.t 15) (.c (.bool false))),.m 17 16,.g 18 (.faddr 2 (.t 2)) 17 true,.g 19 (.load 2 false 1 (.t 18)) 17 true,.g 20 (.faddr 2 (.t 3)) 17 true,.g 21 (.load 2 false 1 (.t 20)) 17 true,.g 22 (.bin .eql (.t 19) (.t 21)) 17 true,.o 23 (.pick (.t 17) (.t 22) (.c (.bool false))),.m 24 23,.g 25 (.faddr 3 (.t 2)) 24 true,.g 26 (.load 2 false 1 (.t 25)) 24 true,.g 27 (.faddr 3 (.t 3)) 24 true,.g 28 (.load 2 false 1 (.t 27)) 24 true,.g 29 (.bin .eql (.t 26) (.t 28)) 24 true,.o 30 (.pick (.t 24) (.t 29) (.c (.bool false))),.m 31 30,.g 32 (.faddr 4 (.t 2)) 31 true,.g 33 (.load 2 false 1 (.t 32)) 31 true,.g 34 (.faddr 4 (.t 3)) 31 true,.g 35 (.load 2 false 1 (.t 34)) 31 true,.g 36 (.bin .eql (.t 33) (.t 35)) 31 true,.o 37 (.pick (.t 31) (.t 36) (.c (.bool false))),.m 38 37,.g 39 (.faddr 5 (.t 2)) 38 true,.g 40 (.load 2 false 1 (.t 39)) 38 true,.g 41 (.faddr 5 (.t 3)) 38 true,.g 42 (.load 2 false 1 (.t 41)) 38 true,.g 43 (.call true F.slices_Equal_Cell [(.t 40), (.t 42)]) 38 true,.o 44 (.pick (.t 38) (.t 43) (.c (.bool false))),.m 4 44]) (
  .ret))
def R.gantlaw5_same : List ARes := [.t 4]
set_option maxRecDepth 100000 in
theorem K.gantlaw5_same : ckFun Try.prog Try.f48 C.gantlaw5_same R.gantlaw5_same = true := by kernel_rfl
def C.slices_Equal_Cell : ACode :=
  .seq (.region [.o 4 (.move false (.c (.bool false)))]) (
  .seq (.seq (.region [.m 6 0,.o 7 (.len (.t 6)),.m 8 1,.o 9 (.len (.t 8)),.o 10 (.bin .neq (.t 7) (.t 9))]) (
  .cond (.t 10) (.seq (.region [.o 4 (.move false (.c (.bool false)))]) (
  .ret)) (.skip))) (
  .seq (.seq (.region [.m 11 0,.o 12 (.len (.t 11)),.o 13 (.move false (.c (.int .i64 0)))]) (
  .block 0 (.loop (.seq (.region [.o 14 (.bin .lss (.t 13) (.t 12))]) (
  .seq (.cond (.t 14) (.skip) (.exit 0)) (
  .seq (.block 1 (.seq (.region [.m 15 13,.m 5 15]) (
  .seq (.drawn [0, 1, 2, 3, 4, 5, 6, 7, 8] [0, 0, 3, 7, 0, 0, 48, 112, 255] [.m 16 0,.m 17 5,.o 18 (.iaddr 2 (.t 16) (.t 17)),.o 19 (.load 0 true 2 (.t 18)),.m 20 1,.m 21 5,.o 22 (.iaddr 2 (.t 20) (.t 21)),.o 23 (.load 0 true 2 (.t 22)),.o 24 (.eqs true [.i .i64, .i .i64] (.t 19) (.t 23))]) (
  .cond (.t 24) (.seq (.region [.o 4 (.move false (.c (.bool false)))]) (
  .ret)) (.skip))))) (
  .region [.o 25 (.bin .add (.t 13) (.c (.int .i64 1))),.m 13 25]))))))) (
  .seq (.region [.o 4 (.move false (.c (.bool true)))]) (
  .ret))))
def R.slices_Equal_Cell : List ARes := [.t 4]
set_option maxRecDepth 100000 in
theorem K.slices_Equal_Cell : ckFun Try.prog Try.f123 C.slices_Equal_Cell R.slices_Equal_Cell = true := by kernel_rfl
def C.slices_Clone_Cell : ACode :=
  .seq (.region [.o 2 (.move false (.c (.lst .nil [])))]) (
  .seq (.seq (.region [.m 3 0,.o 4 (.isnil false false (.t 3))]) (
  .cond (.t 4) (.seq (.region [.o 2 (.move false (.c (.lst .nil [])))]) (
  .ret)) (.skip))) (
  .seq (.region [.o 5 (.buildS false 2 []),.m 6 0,.o 7 (.append 2 16 (.t 5) (.t 6)),.o 2 (.move true (.t 7))]) (
  .ret)))
def R.slices_Clone_Cell : List ARes := [.t 2]
set_option maxRecDepth 100000 in
theorem K.slices_Clone_Cell : ckFun Try.prog Try.f148 C.slices_Clone_Cell R.slices_Clone_Cell = true := by kernel_rfl
end Go.Proofs.Ytpdajkbfemcdlaa
namespace Go.Proofs.Ytpdajkbfemcdlaa
open Go.Ge
theorem EqualCell_ok (o1 o2 : Own) (a b : List Cell) (h1 : Rdo o1) (h2 : Rdo o2) (hl : a.length < 4611686018427387904) (hl2 : b.length < 4611686018427387904) (h : List HObj) :
    ACalls Try.prog F.slices_Equal_Cell [.lst o1 (cellsA a), .lst o2 (cellsA b)] h (fun r h' => r = .bool (decide (a = b)) ∧ h' = h) := by
  refine ACalls.of_aw Try.func123 K.slices_Equal_Cell (by simp [Try.f123]) ?_
  generalize hQ : retQ R.slices_Equal_Cell _ = Q
  simp (disch:=first|assumption|omega) only[C.slices_Equal_Cell,go_sem,↓reduceIte,Nat.reduceEqDiff,reduceCtorEq,reduceIte,Bool.true_and]
  by_cases he : a.length = b.length
  · simp (disch:=first|assumption|omega) only[he,go_sem,↓reduceIte,reduceCtorEq,reduceIte,Bool.true_and]
    refine aw_count (fun d S => ∃ (i : Nat), i + d = a.length ∧ S.env 13 = .int .i64 i ∧ S.env 12 = .int .i64 b.length ∧ S.env 0 = .lst o1 (cellsA a) ∧ S.env 1 = .lst o2 (cellsA b) ∧ a.take i = b.take i ∧ S.heap = h) (n := a.length) ⟨0, by simp [go_sem]⟩ ?_
    rintro d S ⟨i, hi, e13, e12, e0, e1, ht, eh⟩
    simp (disch:=first|assumption|omega) only[e13,e12,go_sem,↓reduceIte,reduceIte,Int.ofNat_lt,Bool.true_and]
    refine condG_if (fun hlt => ?_) fun hge => ?_
    · have hlt1 : i < a.length := by omega
      have hlt2 : i < b.length := by omega
      have hat1 := at_cells hlt1
      have hat2 := at_cells hlt2
      simp (disch:=first|assumption|omega) only[e13,e0,e1,hat1,hat2,cellA,hlt1,hlt2,go_sem,↓reduceIte,Nat.reduceEqDiff,reduceCtorEq,Nat.reduceAdd,Nat.reduceLeDiff,reduceIte,Int.natCast_nonneg,Int.ofNat_lt,Int.reduceAdd,decide_true,Bool.true_and,aggEq,scEq,hasSh,alS]
      refine condG_split (fun hb => ?_) fun hb => ?_
      · simp (disch:=first|assumption|omega) only[go_sem,Bool.true_and]
        subst hQ
        simp (disch:=first|assumption|omega) only[R.slices_Equal_Cell,eh,go_sem,↓reduceIte,reduceIte,Bool.true_and]
        have : a ≠ b := by
          rintro rfl
          simp at hb
        simp [this, eh]
      · simp (disch:=first|assumption|omega) only[e13,e12,e0,e1,eh,go_sem,↓reduceIte,Nat.reduceEqDiff,reduceCtorEq,reduceIte,Bool.true_and]
        refine ⟨d - 1, by omega, i + 1, by omega, by simp, ?_⟩
        rw [List.take_add_one, List.take_add_one, ht, List.getElem?_eq_getElem hlt1, List.getElem?_eq_getElem hlt2]
        have : a[i] = b[i] := by
          simp at hb
          cases h1 : a[i]; cases h2 : b[i]; simp_all
        rw [this]
    · obtain rfl : i = a.length := by omega
      simp (disch:=first|assumption|omega) only[go_sem,↓reduceIte,reduceIte,Bool.true_and]
      subst hQ
      simp (disch:=first|assumption|omega) only[R.slices_Equal_Cell,go_sem,↓reduceIte,reduceIte,Bool.true_and]
      rw [List.take_length, he, List.take_length] at ht
      simp [ht, eh]
  · have hd : ¬((a.length : Int) = b.length) := by omega
    have hd2 : ((a.length : Int) != b.length) = true := by simpa using hd
    simp (disch:=first|assumption|omega) only[hd2,go_sem,Bool.true_and]
    subst hQ
    simp (disch:=first|assumption|omega) only[R.slices_Equal_Cell,go_sem,↓reduceIte,reduceIte,Bool.true_and]
    have : a ≠ b := by rintro rfl; exact he rfl
    simp [this]
theorem CloneCell_ok (o : Own) (l : List Cell) (ho : Rdn o l) (hl : l.length * 16 ≤ reachBytes) (h : List HObj) :
    ACalls Try.prog F.slices_Clone_Cell [.lst o (cellsA l)] h (fun r h' => (∃ o', r = .lst o' (cellsA l) ∧ (o' = .nil ∧ l = [] ∨ o' = .app 2)) ∧ h' = h) := by
  have h1 := ho.1
  refine ACalls.of_aw Try.func148 K.slices_Clone_Cell (by simp [Try.f148]) ?_
  generalize hQ : retQ R.slices_Clone_Cell _ = Q
  simp (disch:=first|assumption|omega) only[C.slices_Clone_Cell,go_sem,↓reduceIte,reduceCtorEq,reduceIte,Bool.true_and]
  refine aops_isnilR (o := o) (xs := cellsA l) (by simp (disch:=first|assumption|omega) only[go_sem,↓reduceIte,reduceIte]) h1 (fun e => by rw [ho.2 e]; rfl) fun b hb => ?_
  cases b
  · simp (disch:=first|assumption|omega) only[go_sem,↓reduceIte,Nat.reduceEqDiff,reduceCtorEq,Nat.reduceLeDiff,reduceIte,Int.reduceMul,Nat.reduceMul,Bool.true_and]
    refine ⟨fun v hv => ?_, by unfold reachBytes at hl; omega, by unfold reachBytes at hl; omega, ?_⟩
    · obtain ⟨c, _, rfl⟩ := List.mem_map.1 hv; rfl
    subst hQ
    simp (disch:=first|assumption|omega) only[R.slices_Clone_Cell,go_sem,↓reduceIte,reduceIte,Bool.true_and]
    exact ⟨_, rfl, .inr rfl⟩
  · have : l = [] := by
      refine Classical.byContradiction fun h0 => ?_
      have := hb (by simpa [cellsA] using h0)
      cases this
    subst this
    simp (disch:=first|assumption|omega) only[go_sem,↓reduceIte,reduceIte,Bool.true_and]
    subst hQ
    simp (disch:=first|assumption|omega) only[R.slices_Clone_Cell,go_sem,↓reduceIte,reduceIte,Bool.true_and]
    exact ⟨.nil, by simp [cellsA], by simp⟩
theorem same_ok (o1 o2 : Own) (a b : Msg) (h1 : Rdo o1) (h2 : Rdo o2) (hl : a.Cells.length < 4611686018427387904) (hl2 : b.Cells.length < 4611686018427387904) (h : List HObj) :
    ACalls Try.prog F.gantlaw5_same [msgA o1 a, msgA o2 b] h (fun r h' => r = .bool (decide (a = b)) ∧ h' = h) := by
  refine ACalls.of_aw Try.func48 K.gantlaw5_same (by simp [Try.f48]) ?_
  generalize hQ : retQ R.gantlaw5_same _ = Q
  simp (disch:=first|assumption|omega) only[C.gantlaw5_same,go_sem,↓reduceIte,Nat.reduceEqDiff,reduceCtorEq,Nat.reduceLeDiff,reduceIte,Bool.true_and]
  simp (disch:=first|assumption|omega) only[msgA,msgC,go_sem,Nat.reduceAdd,Int.reduceAdd,Bool.true_and]
  refine aopsG_split (fun hb1 => ?_) (fun hb1 => ?_)
  rotate_left
  · simp (disch:=first|assumption|omega) only[hb1,go_sem,↓reduceIte,Nat.reduceEqDiff,reduceIte,cond_false,Bool.true_and]
    subst hQ
    simp (disch:=first|assumption|omega) only[R.gantlaw5_same,go_sem,↓reduceIte,reduceIte,Bool.true_and]
    have : a ≠ b := by rintro rfl; simp at hb1
    simp [this]
  simp (disch:=first|assumption|omega) only[hb1,go_sem,↓reduceIte,Nat.reduceEqDiff,Nat.reduceAdd,Nat.reduceLeDiff,reduceIte,cond_true,Int.reduceAdd,Bool.true_and]
  refine aopsG_split (fun hb2 => ?_) (fun hb2 => ?_)
  rotate_left
  · simp (disch:=first|assumption|omega) only[hb2,go_sem,↓reduceIte,Nat.reduceEqDiff,reduceIte,cond_false,Bool.true_and]
    subst hQ
    simp (disch:=first|assumption|omega) only[R.gantlaw5_same,go_sem,↓reduceIte,reduceIte,Bool.true_and]
    have : a ≠ b := by rintro rfl; simp at hb2
    simp [this]
  simp (disch:=first|assumption|omega) only[hb2,go_sem,↓reduceIte,Nat.reduceEqDiff,Nat.reduceAdd,Nat.reduceLeDiff,reduceIte,cond_true,Int.reduceAdd,Bool.true_and]
  refine aopsG_split (fun hb3 => ?_) (fun hb3 => ?_)
  rotate_left
  · simp (disch:=first|assumption|omega) only[hb3,go_sem,↓reduceIte,Nat.reduceEqDiff,reduceIte,cond_false,Bool.true_and]
    subst hQ
    simp (disch:=first|assumption|omega) only[R.gantlaw5_same,go_sem,↓reduceIte,reduceIte,Bool.true_and]
    have : a ≠ b := by rintro rfl; simp at hb3
    simp [this]
  simp (disch:=first|assumption|omega) only[hb3,go_sem,↓reduceIte,Nat.reduceEqDiff,Nat.reduceAdd,Nat.reduceLeDiff,reduceIte,cond_true,Int.reduceAdd,Bool.true_and]
  refine aopsG_split (fun hb4 => ?_) (fun hb4 => ?_)
  rotate_left
  · simp (disch:=first|assumption|omega) only[hb4,go_sem,↓reduceIte,Nat.reduceEqDiff,reduceIte,cond_false,Bool.true_and]
    subst hQ
    simp (disch:=first|assumption|omega) only[R.gantlaw5_same,go_sem,↓reduceIte,reduceIte,Bool.true_and]
    have : a ≠ b := by rintro rfl; simp at hb4
    simp [this]
  simp (disch:=first|assumption|omega) only[hb4,go_sem,↓reduceIte,Nat.reduceEqDiff,Nat.reduceAdd,Nat.reduceLeDiff,reduceIte,cond_true,Int.reduceAdd,Bool.true_and]
  refine aopsG_split (fun hb5 => ?_) (fun hb5 => ?_)
  rotate_left
  · simp (disch:=first|assumption|omega) only[hb5,go_sem,↓reduceIte,Nat.reduceEqDiff,reduceIte,cond_false,Bool.true_and]
    subst hQ
    simp (disch:=first|assumption|omega) only[R.gantlaw5_same,go_sem,↓reduceIte,reduceIte,Bool.true_and]
    have : a ≠ b := by rintro rfl; simp at hb5
    simp [this]
  simp (disch:=first|assumption|omega) only[hb5,go_sem,↓reduceIte,Nat.reduceEqDiff,Nat.reduceAdd,Nat.reduceLeDiff,Nat.reduceLT,reduceIte,Int.reduceLT,Int.reduceAdd,Bool.true_and]
  refine callG_ok (EqualCell_ok o1 o2 a.Cells b.Cells h1 h2 hl hl2 _) (by simp (disch:=first|assumption|omega) only[go_sem]) ?_
  rintro _ _ ⟨rfl, hhh⟩
  try rw [hhh]
  clear hhh
  simp (disch:=first|assumption|omega) only[go_sem,↓reduceIte,Nat.reduceEqDiff,reduceIte,cond_true,Bool.true_and]
  subst hQ
  simp (disch:=first|assumption|omega) only[R.gantlaw5_same,go_sem,↓reduceIte,reduceIte,Bool.true_and]
  have : decide (a.Cells = b.Cells) = decide (a = b) := by
    cases a; cases b; simp at hb1 hb2 hb3 hb4 hb5; simp_all
  rw [this]
end Go.Proofs.Ytpdajkbfemcdlaa
namespace Go.Proofs.Ytpdajkbfemcdlaa
open Go.Ge
def C.slices_EqualFunc_Msg : ACode :=
  .seq (.region [.o 6 (.move false (.c (.bool false)))]) (
  .seq (.seq (.region [.m 10 0,.o 11 (.len (.t 10)),.m 12 1,.o 13 (.len (.t 12)),.o 14 (.bin .neq (.t 11) (.t 13))]) (
  .cond (.t 14) (.seq (.region [.o 6 (.move false (.c (.bool false)))]) (
  .ret)) (.skip))) (
  .seq (.seq (.region [.m 15 0,.o 16 (.len (.t 15)),.o 17 (.move false (.c (.int .i64 0)))]) (
  .block 0 (.loop (.seq (.region [.o 18 (.bin .lss (.t 17) (.t 16))]) (
  .seq (.cond (.t 18) (.skip) (.exit 0)) (
  .seq (.block 1 (.seq (.region [.m 19 17,.o 20 (.iaddr 6 (.t 15) (.t 17)),.o 21 (.load 2 true 6 (.t 20)),.o 8 (.alloc false [(.int .i64 0), (.int .i64 0), (.int .i64 0), (.int .i64 0), (.int .u32 0), (.lst .nil [])]),.m 7 19,⟨none, .store 6 (.t 8) (.t 21), none⟩]) (
  .seq (.region [.m 22 1,.m 23 7,.o 24 (.iaddr 6 (.t 22) (.t 23)),.o 25 (.load 2 true 6 (.t 24)),.o 9 (.alloc false [(.int .i64 0), (.int .i64 0), (.int .i64 0), (.int .i64 0), (.int .u32 0), (.lst .nil [])]),⟨none, .store 6 (.t 9) (.t 25), none⟩]) (
  .seq (.region [.m 26 2,.o 27 (.load 2 true 6 (.t 8)),.o 28 (.load 2 true 6 (.t 9)),.o 29 (.callv true (.t 26) [(.t 27), (.t 28)]),.o 30 (.un .not (.t 29))]) (
  .cond (.t 30) (.seq (.region [.o 6 (.move false (.c (.bool false)))]) (
  .ret)) (.skip)))))) (
  .region [.o 31 (.bin .add (.t 17) (.c (.int .i64 1))),.m 17 31]))))))) (
  .seq (.region [.o 6 (.move false (.c (.bool true)))]) (
  .ret))))
def R.slices_EqualFunc_Msg : List ARes := [.t 6]
set_option maxRecDepth 100000 in
theorem K.slices_EqualFunc_Msg : ckFun Try.prog Try.f60 C.slices_EqualFunc_Msg R.slices_EqualFunc_Msg = true := by kernel_rfl
end Go.Proofs.Ytpdajkbfemcdlaa
namespace Go.Proofs.Ytpdajkbfemcdlaa
open Go.Ge
def MsgOk (m : Msg) (x : AVal) : Prop := ∃ o, Rdn o m.Cells ∧ m.Cells.length * 16 ≤ reachBytes ∧ x = msgA o m
def MsgsOk : List Msg → List AVal → Prop
  | [], xs => xs = []
  | m :: l, xs => ∃ x ys, xs = x :: ys ∧ MsgOk m x ∧ MsgsOk l ys
theorem MsgsOk.length : ∀ {l : List Msg} {xs : List AVal}, MsgsOk l xs → xs.length = l.length
  | [], xs, h => by simp only[MsgsOk] at h; subst h; rfl
  | m :: l, xs, h => by
    simp only[MsgsOk] at h
    obtain ⟨x, ys, rfl, _, h⟩ := h
    simp [h.length]
theorem MsgsOk.at : ∀ {l : List Msg} {xs : List AVal}, MsgsOk l xs → ∀ (i : Nat) (hi : i < l.length), MsgOk l[i] (at_ xs (i : Int))
  | m :: l, xs, h, 0, _ => by
    simp only[MsgsOk] at h
    obtain ⟨x, ys, rfl, h1, h⟩ := h
    simpa [at_] using h1
  | m :: l, xs, h, i + 1, hi => by
    simp only[MsgsOk] at h
    obtain ⟨x, ys, rfl, h1, h⟩ := h
    have := h.at i (by simpa using hi)
    simpa [at_] using this
theorem EqualFunc_ok (o1 o2 : Own) (a b : List Msg) (xs ys : List AVal) (h1 : Rdo o1) (h2 : Rdo o2) (ha : MsgsOk a xs) (hb : MsgsOk b ys) (hl : a.length < 4611686018427387904) (hl2 : b.length < 4611686018427387904) (h : List HObj) :
    ACalls Try.prog F.slices_EqualFunc_Msg [.lst o1 xs, .lst o2 ys, .func F.gantlaw5_same []] h (fun r h' => r = .bool (decide (a = b)) ∧ h' = h) := by
  have la := ha.length
  have lb := hb.length
  refine ACalls.of_aw Try.func60 K.slices_EqualFunc_Msg (by simp [Try.f60]) ?_
  generalize hQ : retQ R.slices_EqualFunc_Msg _ = Q
  simp (disch:=first|assumption|omega) only[C.slices_EqualFunc_Msg,go_sem,↓reduceIte,Nat.reduceEqDiff,reduceCtorEq,reduceIte,Bool.true_and,int_bne]
  refine condG_ifn (fun hne => ?_) fun heq => ?_
  · simp (disch:=first|assumption|omega) only[go_sem,Bool.true_and]
    subst hQ
    simp (disch:=first|assumption|omega) only[R.slices_EqualFunc_Msg,go_sem,↓reduceIte,reduceIte,Bool.true_and]
    have : a ≠ b := by rintro rfl; omega
    simp [this]
  · have he : a.length = b.length := by omega
    simp (disch:=first|assumption|omega) only[go_sem,↓reduceIte,reduceCtorEq,reduceIte,Bool.true_and]
    refine aw_count (fun d S => ∃ (i : Nat), i + d = a.length ∧ S.env 17 = .int .i64 i ∧ S.env 16 = .int .i64 xs.length ∧ S.env 15 = .lst o1 xs ∧ S.env 1 = .lst o2 ys ∧ S.env 2 = .func F.gantlaw5_same [] ∧ a.take i = b.take i ∧ S.heap = h) (n := a.length) ⟨0, by simp [go_sem]⟩ ?_
    rintro d S ⟨i, hi, e17, e16, e15, e1, e2, ht, eh⟩
    simp (disch:=first|assumption|omega) only[e17,e16,go_sem,↓reduceIte,reduceIte,Int.ofNat_lt,Bool.true_and]
    refine condG_if (fun hlt => ?_) fun hge => ?_
    · have hlt1 : i < a.length := by omega
      have hlt2 : i < b.length := by omega
      have hlt3 : i < xs.length := by omega
      have hlt4 : i < ys.length := by omega
      obtain ⟨p, hp, hpl, hx⟩ := ha.at i hlt1
      obtain ⟨q, hq, hql, hy⟩ := hb.at i hlt2
      have hp1 := hp.1
      have hq1 := hq.1
      unfold reachBytes at hpl hql
      simp (disch:=first|assumption|omega) only[e17,e15,e1,e2,hx,hy,hlt3,hlt4,msgA,msgC,go_sem,↓reduceIte,Nat.reduceEqDiff,Nat.reduceAdd,Nat.reduceLeDiff,reduceIte,Int.natCast_nonneg,Int.ofNat_lt,Int.reduceAdd,decide_true,Bool.true_and]
      refine callvG_ok (same_ok p q a[i] b[i] hp1 hq1 (by omega) (by omega) _) (by simp (disch:=first|assumption|omega) only[go_sem]) ?_
      rintro _ _ ⟨rfl, hhh⟩
      rw [hhh]
      clear hhh
      by_cases hab : a[i] = b[i]
      · simp (disch:=first|assumption|omega) only[e17,e16,e15,e1,e2,eh,hab,go_sem,↓reduceIte,Nat.reduceEqDiff,reduceIte,decide_true,Bool.true_and]
        refine ⟨d - 1, by omega, i + 1, by omega, by simp, ?_⟩
        rw [List.take_add_one, List.take_add_one, ht, List.getElem?_eq_getElem hlt1, List.getElem?_eq_getElem hlt2, hab]
      · simp (disch:=first|assumption|omega) only[hab,go_sem,↓reduceIte,reduceIte,decide_false,Bool.true_and]
        subst hQ
        simp (disch:=first|assumption|omega) only[R.slices_EqualFunc_Msg,go_sem,↓reduceIte,reduceIte,Bool.true_and]
        have : a ≠ b := by rintro rfl; exact hab rfl
        simp [this, eh]
    · obtain rfl : i = a.length := by omega
      simp (disch:=first|assumption|omega) only[go_sem,↓reduceIte,reduceIte,Bool.true_and]
      subst hQ
      simp (disch:=first|assumption|omega) only[R.slices_EqualFunc_Msg,go_sem,↓reduceIte,reduceIte,Bool.true_and]
      rw [List.take_length, he, List.take_length] at ht
      simp [ht, eh]
end Go.Proofs.Ytpdajkbfemcdlaa
namespace Go.Proofs.Ytpdajkbfemcdlaa
open Go.Ge
def due (t : Int) (p : Msg × Int) : Bool := decide (p.2 < 0) || decide (t - p.2 ≥ 4)
def mark (t : Int) (p : Msg × Int) : Msg × Int := if due t p then (p.1, t) else p
theorem checkF_len {m : Msg} (h : checkF m = 0) : m.Cells.length ≤ 400 := by
  unfold checkF at h
  split at h
  · exact absurd h ‹_›
  · unfold cellsFault at h
    split at h
    · cases h
    · omega
end Go.Proofs.Ytpdajkbfemcdlaa
namespace Go.Proofs.Ytpdajkbfemcdlaa
open Go.Ge
theorem Copy_ok (o : Own) (m : Msg) (ho : Rdn o m.Cells) (hl : m.Cells.length * 16 ≤ reachBytes) (h : List HObj) :
    ACalls Try.prog F.msg_Copy [msgA o m] h (fun r h' => (∃ o', r = msgA o' m ∧ Rdn o' m.Cells) ∧ h' = h) := by
  have q := ho.1
  refine ACalls.of_aw Try.func49 K.msg_Copy (by simp [Try.f49]) ?_
  generalize hQ : retQ R.msg_Copy _ = Q
  simp (disch:=first|assumption|omega) only[C.msg_Copy,go_sem,↓reduceIte,Nat.reduceEqDiff,Nat.reduceLeDiff,reduceIte,Bool.true_and]
  simp (disch:=first|assumption|omega) only[msgA,msgC,go_sem,↓reduceIte,Nat.reduceAdd,Nat.reduceLT,reduceIte,Int.reduceLT,Int.reduceAdd,Bool.true_and]
  refine callG_ok (CloneCell_ok o m.Cells ho hl _) (by simp (disch:=first|assumption|omega) only[go_sem]) ?_
  rintro _ _ ⟨⟨o', rfl, ho'⟩, hhh⟩
  try rw [hhh]
  clear hhh
  rcases ho' with ⟨rfl, h0⟩ | rfl
  · simp (disch:=first|assumption|omega) only[go_sem,↓reduceIte,Nat.reduceEqDiff,Nat.reduceAdd,Nat.reduceLeDiff,reduceIte,Int.reduceAdd,Bool.true_and]
    subst hQ
    simp (disch:=first|assumption|omega) only[R.msg_Copy,go_sem,↓reduceIte,Nat.reduceEqDiff,Nat.reduceAdd,reduceIte,Int.reduceAdd,Bool.true_and]
    exact ⟨.nil, rfl, .inr rfl, fun _ => h0⟩
  · simp (disch:=first|assumption|omega) only[go_sem,↓reduceIte,Nat.reduceEqDiff,Nat.reduceAdd,Nat.reduceLeDiff,reduceIte,Int.reduceAdd,Bool.true_and]
    subst hQ
    simp (disch:=first|assumption|omega) only[R.msg_Copy,go_sem,↓reduceIte,Nat.reduceEqDiff,Nat.reduceAdd,reduceIte,Int.reduceAdd,Bool.true_and]
    exact ⟨.sh, rfl, .inl rfl, fun h => by cases h⟩
end Go.Proofs.Ytpdajkbfemcdlaa
namespace Go.Proofs.Ytpdajkbfemcdlaa
open Go.Ge
def after (a n : Int) : Int := (a + n) % 4294967296
end Go.Proofs.Ytpdajkbfemcdlaa
namespace Go.Proofs.Ytpdajkbfemcdlaa
open Go.Ge
def beBytes (n : Int) : Nat → List Int
  | 0 => []
  | m + 1 => beBytes (n / 256) m ++ [n % 256]
end Go.Proofs.Ytpdajkbfemcdlaa
namespace Go.Proofs.Ytpdajkbfemcdlaa
open Go.Ge
def C.slices_swapRangeCmpFunc_sent : ACode :=
  .seq (.region [.o 10 (.move false (.c (.int .i64 0)))]) (
  .block 0 (.loop (.seq (.seq (.region [.m 11 10,.m 12 3,.o 13 (.bin .lss (.t 11) (.t 12))]) (
  .cond (.t 13) (.skip) (.exit 0))) (
  .seq (.block 1 (.drawn [0, 1, 2, 3, 4, 5, 6, 7, 8, 9, 10, 11, 12, 13, 14, 15, 16, 17, 18, 19, 20, 21, 22, 23] [0, 0, 0, 6, 0, 0, 0, 96, 0, 0, 0, 1536, 3840, 7936, 0, 0, 0, 98304, 245760, 507904, 1048335, 2096911, 4194303, 8388607] [.m 16 0,.m 17 1,.m 18 10,.o 19 (.bin .add (.t 17) (.t 18)),.m 20 0,.m 21 2,.m 22 10,.o 23 (.bin .add (.t 21) (.t 22)),.m 24 0,.m 25 2,.m 26 10,.o 27 (.bin .add (.t 25) (.t 26)),.o 28 (.iaddr 7 (.t 24) (.t 27)),.o 29 (.load 2 true 7 (.t 28)),.m 30 0,.m 31 1,.m 32 10,.o 33 (.bin .add (.t 31) (.t 32)),.o 34 (.iaddr 7 (.t 30) (.t 33)),.o 35 (.load 2 true 7 (.t 34)),.o 36 (.iaddr 7 (.t 16) (.t 19)),⟨none, .store 7 (.t 36) (.t 29), none⟩,.o 37 (.iaddr 7 (.t 20) (.t 23)),⟨none, .store 7 (.t 37) (.t 35), none⟩])) (
  .region [.m 14 10,.o 15 (.bin .add (.t 14) (.c (.int .i64 1))),.m 10 15])))))
def R.slices_swapRangeCmpFunc_sent : List ARes := []
set_option maxRecDepth 100000 in
theorem K.slices_swapRangeCmpFunc_sent : ckFun Try.prog Try.f239 C.slices_swapRangeCmpFunc_sent R.slices_swapRangeCmpFunc_sent = true := by kernel_rfl
def C.slices_rotateCmpFunc_sent : ACode :=
  .seq (.region [.m 12 2,.m 13 1,.o 14 (.bin .sub (.t 12) (.t 13)),.m 10 14]) (
  .seq (.region [.m 15 3,.m 16 2,.o 17 (.bin .sub (.t 15) (.t 16)),.m 11 17]) (
  .seq (.block 0 (.loop (.seq (.seq (.region [.m 18 10,.m 19 11,.o 20 (.bin .neq (.t 18) (.t 19))]) (
  .cond (.t 20) (.skip) (.exit 0))) (
  .block 1 (.seq (.region [.m 21 10,.m 22 11,.o 23 (.bin .gtr (.t 21) (.t 22))]) (
  .cond (.t 23) (.seq (.region [.m 24 0,.m 25 2,.m 26 10,.o 27 (.bin .sub (.t 25) (.t 26)),.m 28 2,.m 29 11,.m 30 4,.o 31 (.call true F.slices_swapRangeCmpFunc_sent [(.t 24), (.t 27), (.t 28), (.t 29), (.t 30)])]) (
  .region [.m 32 10,.m 33 11,.o 34 (.bin .sub (.t 32) (.t 33)),.m 10 34])) (.seq (.region [.m 35 0,.m 36 2,.m 37 10,.o 38 (.bin .sub (.t 36) (.t 37)),.m 39 2,.m 40 11,.o 41 (.bin .add (.t 39) (.t 40)),.m 42 10,.o 43 (.bin .sub (.t 41) (.t 42)),.m 44 10,.m 45 4,.o 46 (.call true F.slices_swapRangeCmpFunc_sent [(.t 35), (.t 38), (.t 43), (.t 44), (.t 45)])]) (
  .region [.m 47 11,.m 48 10,.o 49 (.bin .sub (.t 47) (.t 48)),.m 11 49])))))))) (
  .region [.m 50 0,.m 51 2,.m 52 10,.o 53 (.bin .sub (.t 51) (.t 52)),.m 54 2,.m 55 10,.m 56 4,.o 57 (.call true F.slices_swapRangeCmpFunc_sent [(.t 50), (.t 53), (.t 54), (.t 55), (.t 56)])])))
def R.slices_rotateCmpFunc_sent : List ARes := []
set_option maxRecDepth 100000 in
theorem K.slices_rotateCmpFunc_sent : ckFun Try.prog Try.f231 C.slices_rotateCmpFunc_sent R.slices_rotateCmpFunc_sent = true := by kernel_rfl
def C.slices_symMergeCmpFunc_sent : ACode :=
  .seq (.seq (.region [.m 25 2,.m 26 1,.o 27 (.bin .sub (.t 25) (.t 26)),.o 28 (.bin .eql (.t 27) (.c (.int .i64 1)))]) (
  .cond (.t 28) (.seq (.region [.m 29 2,.m 10 29]) (
  .seq (.region [.m 30 3,.m 11 30]) (
  .seq (.block 0 (.loop (.seq (.seq (.region [.m 31 10,.m 32 11,.o 33 (.bin .lss (.t 31) (.t 32))]) (
  .cond (.t 33) (.skip) (.exit 0))) (
  .block 1 (.seq (.region [.m 34 10,.m 35 11,.o 36 (.bin .add (.t 34) (.t 35)),.o 37 (.conv .u64 (.t 36)),.o 38 (.bin .shr (.t 37) (.c (.int .u64 1))),.o 39 (.conv .i64 (.t 38)),.m 12 39]) (
  .seq (.drawn [0, 1, 2, 3, 4, 5, 6, 7, 8, 9, 10] [0, 0, 0, 6, 14, 0, 0, 96, 224, 511, 1023] [.m 40 4,.m 41 0,.m 42 12,.o 43 (.iaddr 7 (.t 41) (.t 42)),.o 44 (.load 2 true 7 (.t 43)),.m 45 0,.m 46 1,.o 47 (.iaddr 7 (.t 45) (.t 46)),.o 48 (.load 2 true 7 (.t 47)),.o 49 (.hop (.callvq (.t 40) [(.t 44), (.t 48)])),.o 50 (.bin .lss (.t 49) (.c (.int .i64 0)))]) (
  .cond (.t 50) (.region [.m 51 12,.o 52 (.bin .add (.t 51) (.c (.int .i64 1))),.m 10 52]) (.region [.m 53 12,.m 11 53])))))))) (
  .seq (.seq (.region [.m 54 1,.m 13 54]) (
  .block 2 (.loop (.seq (.seq (.region [.m 55 13,.m 56 10,.o 57 (.bin .sub (.t 56) (.c (.int .i64 1))),.o 58 (.bin .lss (.t 55) (.t 57))]) (
  .cond (.t 58) (.skip) (.exit 2))) (
  .seq (.block 3 (.drawn [0, 1, 2, 3, 4, 5, 6, 7, 8, 9, 10, 11, 12, 13, 14, 15, 16, 17] [0, 0, 0, 0, 8, 0, 0, 64, 224, 480, 0, 0, 3072, 7168, 16355, 32739, 65535, 131071] [.m 61 0,.m 62 13,.m 63 0,.m 64 13,.o 65 (.bin .add (.t 64) (.c (.int .i64 1))),.m 66 0,.m 67 13,.o 68 (.bin .add (.t 67) (.c (.int .i64 1))),.o 69 (.iaddr 7 (.t 66) (.t 68)),.o 70 (.load 2 true 7 (.t 69)),.m 71 0,.m 72 13,.o 73 (.iaddr 7 (.t 71) (.t 72)),.o 74 (.load 2 true 7 (.t 73)),.o 75 (.iaddr 7 (.t 61) (.t 62)),⟨none, .store 7 (.t 75) (.t 70), none⟩,.o 76 (.iaddr 7 (.t 63) (.t 65)),⟨none, .store 7 (.t 76) (.t 74), none⟩])) (
  .region [.m 59 13,.o 60 (.bin .add (.t 59) (.c (.int .i64 1))),.m 13 60])))))) (
  .ret))))) (.skip))) (
  .seq (.seq (.region [.m 77 3,.m 78 2,.o 79 (.bin .sub (.t 77) (.t 78)),.o 80 (.bin .eql (.t 79) (.c (.int .i64 1)))]) (
  .cond (.t 80) (.seq (.region [.m 81 1,.m 14 81]) (
  .seq (.region [.m 82 2,.m 15 82]) (
  .seq (.block 4 (.loop (.seq (.seq (.region [.m 83 14,.m 84 15,.o 85 (.bin .lss (.t 83) (.t 84))]) (
  .cond (.t 85) (.skip) (.exit 4))) (
  .block 5 (.seq (.region [.m 86 14,.m 87 15,.o 88 (.bin .add (.t 86) (.t 87)),.o 89 (.conv .u64 (.t 88)),.o 90 (.bin .shr (.t 89) (.c (.int .u64 1))),.o 91 (.conv .i64 (.t 90)),.m 16 91]) (
  .seq (.drawn [0, 1, 2, 3, 4, 5, 6, 7, 8, 9, 10, 11] [0, 0, 0, 6, 14, 0, 0, 96, 224, 511, 1023, 2047] [.m 92 4,.m 93 0,.m 94 2,.o 95 (.iaddr 7 (.t 93) (.t 94)),.o 96 (.load 2 true 7 (.t 95)),.m 97 0,.m 98 16,.o 99 (.iaddr 7 (.t 97) (.t 98)),.o 100 (.load 2 true 7 (.t 99)),.o 101 (.hop (.callvq (.t 92) [(.t 96), (.t 100)])),.o 102 (.bin .lss (.t 101) (.c (.int .i64 0))),.o 103 (.un .not (.t 102))]) (
  .cond (.t 103) (.region [.m 104 16,.o 105 (.bin .add (.t 104) (.c (.int .i64 1))),.m 14 105]) (.region [.m 106 16,.m 15 106])))))))) (
  .seq (.seq (.region [.m 107 2,.m 17 107]) (
  .block 6 (.loop (.seq (.seq (.region [.m 108 17,.m 109 14,.o 110 (.bin .gtr (.t 108) (.t 109))]) (
  .cond (.t 110) (.skip) (.exit 6))) (
  .seq (.block 7 (.drawn [0, 1, 2, 3, 4, 5, 6, 7, 8, 9, 10, 11, 12, 13, 14, 15, 16, 17] [0, 0, 0, 0, 8, 0, 0, 64, 224, 480, 0, 0, 3072, 7168, 16355, 32739, 65535, 131071] [.m 113 0,.m 114 17,.m 115 0,.m 116 17,.o 117 (.bin .sub (.t 116) (.c (.int .i64 1))),.m 118 0,.m 119 17,.o 120 (.bin .sub (.t 119) (.c (.int .i64 1))),.o 121 (.iaddr 7 (.t 118) (.t 120)),.o 122 (.load 2 true 7 (.t 121)),.m 123 0,.m 124 17,.o 125 (.iaddr 7 (.t 123) (.t 124)),.o 126 (.load 2 true 7 (.t 125)),.o 127 (.iaddr 7 (.t 113) (.t 114)),⟨none, .store 7 (.t 127) (.t 122), none⟩,.o 128 (.iaddr 7 (.t 115) (.t 117)),⟨none, .store 7 (.t 128) (.t 126), none⟩])) (
  .region [.m 111 17,.o 112 (.bin .sub (.t 111) (.c (.int .i64 1))),.m 17 112])))))) (
  .ret))))) (.skip))) (
  .seq (.region [.m 129 1,.m 130 3,.o 131 (.bin .add (.t 129) (.t 130)),.o 132 (.conv .u64 (.t 131)),.o 133 (.bin .shr (.t 132) (.c (.int .u64 1))),.o 134 (.conv .i64 (.t 133)),.m 18 134]) (
  .seq (.region [.m 135 18,.m 136 2,.o 137 (.bin .add (.t 135) (.t 136)),.m 19 137]) (
  .seq (.region [.o 20 (.move false (.c (.int .i64 0))),.o 21 (.move false (.c (.int .i64 0)))]) (
  .seq (.seq (.region [.m 138 2,.m 139 18,.o 140 (.bin .gtr (.t 138) (.t 139))]) (
  .cond (.t 140) (.seq (.region [.m 141 19,.m 142 3,.o 143 (.bin .sub (.t 141) (.t 142)),.m 20 143]) (
  .region [.m 144 18,.m 21 144])) (.seq (.region [.m 145 1,.m 20 145]) (
  .region [.m 146 2,.m 21 146])))) (
  .seq (.region [.m 147 19,.o 148 (.bin .sub (.t 147) (.c (.int .i64 1))),.m 22 148]) (
  .seq (.block 8 (.loop (.seq (.seq (.region [.m 149 20,.m 150 21,.o 151 (.bin .lss (.t 149) (.t 150))]) (
  .cond (.t 151) (.skip) (.exit 8))) (
  .block 9 (.seq (.region [.m 152 20,.m 153 21,.o 154 (.bin .add (.t 152) (.t 153)),.o 155 (.conv .u64 (.t 154)),.o 156 (.bin .shr (.t 155) (.c (.int .u64 1))),.o 157 (.conv .i64 (.t 156)),.m 23 157]) (
  .seq (.drawn [0, 1, 2, 3, 4, 5, 6, 7, 8, 9, 10, 11, 12, 13] [0, 0, 0, 0, 12, 30, 62, 0, 0, 384, 896, 2047, 4095, 8191] [.m 158 4,.m 159 0,.m 160 22,.m 161 23,.o 162 (.bin .sub (.t 160) (.t 161)),.o 163 (.iaddr 7 (.t 159) (.t 162)),.o 164 (.load 2 true 7 (.t 163)),.m 165 0,.m 166 23,.o 167 (.iaddr 7 (.t 165) (.t 166)),.o 168 (.load 2 true 7 (.t 167)),.o 169 (.hop (.callvq (.t 158) [(.t 164), (.t 168)])),.o 170 (.bin .lss (.t 169) (.c (.int .i64 0))),.o 171 (.un .not (.t 170))]) (
  .cond (.t 171) (.region [.m 172 23,.o 173 (.bin .add (.t 172) (.c (.int .i64 1))),.m 20 173]) (.region [.m 174 23,.m 21 174])))))))) (
  .seq (.region [.m 175 19,.m 176 20,.o 177 (.bin .sub (.t 175) (.t 176)),.m 24 177]) (
  .seq (.seq (.region [.m 178 20,.m 179 2,.o 180 (.bin .lss (.t 178) (.t 179)),.m 181 180,.g 182 (.move false (.t 2)) 181 true,.g 183 (.move false (.t 24)) 181 true,.g 184 (.bin .lss (.t 182) (.t 183)) 181 true,.o 185 (.pick (.t 181) (.t 184) (.c (.bool false)))]) (
  .cond (.t 185) (.region [.m 186 0,.m 187 20,.m 188 2,.m 189 24,.m 190 4,.o 191 (.call true F.slices_rotateCmpFunc_sent [(.t 186), (.t 187), (.t 188), (.t 189), (.t 190)])]) (.skip))) (
  .seq (.seq (.region [.m 192 1,.m 193 20,.o 194 (.bin .lss (.t 192) (.t 193)),.m 195 194,.g 196 (.move false (.t 20)) 195 true,.g 197 (.move false (.t 18)) 195 true,.g 198 (.bin .lss (.t 196) (.t 197)) 195 true,.o 199 (.pick (.t 195) (.t 198) (.c (.bool false)))]) (
  .cond (.t 199) (.region [.m 200 0,.m 201 1,.m 202 20,.m 203 18,.m 204 4,.o 205 (.call true F.slices_symMergeCmpFunc_sent [(.t 200), (.t 201), (.t 202), (.t 203), (.t 204)])]) (.skip))) (
  .seq (.region [.m 206 18,.m 207 24,.o 208 (.bin .lss (.t 206) (.t 207)),.m 209 208,.g 210 (.move false (.t 24)) 209 true,.g 211 (.move false (.t 3)) 209 true,.g 212 (.bin .lss (.t 210) (.t 211)) 209 true,.o 213 (.pick (.t 209) (.t 212) (.c (.bool false)))]) (
  .cond (.t 213) (.region [.m 214 0,.m 215 18,.m 216 24,.m 217 3,.m 218 4,.o 219 (.call true F.slices_symMergeCmpFunc_sent [(.t 214), (.t 215), (.t 216), (.t 217), (.t 218)])]) (.skip)))))))))))))
def R.slices_symMergeCmpFunc_sent : List ARes := []
set_option maxRecDepth 100000 in
theorem K.slices_symMergeCmpFunc_sent : ckFun Try.prog Try.f217 C.slices_symMergeCmpFunc_sent R.slices_symMergeCmpFunc_sent = true := by kernel_rfl
def C.slices_insertionSortCmpFunc_sent : ACode :=
  .seq (.region [.m 10 1,.o 11 (.bin .add (.t 10) (.c (.int .i64 1))),.m 8 11]) (
  .block 0 (.loop (.seq (.seq (.region [.m 12 8,.m 13 2,.o 14 (.bin .lss (.t 12) (.t 13))]) (
  .cond (.t 14) (.skip) (.exit 0))) (
  .seq (.block 1 (.seq (.region [.m 17 8,.m 9 17]) (
  .block 2 (.loop (.seq (.seq (.drawn [0, 1, 2, 3, 4, 5, 6, 7, 8, 9, 10, 11, 12, 13, 14, 15, 16] [0, 0, 3, 7, 15, 15, 15, 111, 239, 15, 15, 1039, 3599, 7695, 16383, 32767, 65535] [.m 18 9,.m 19 1,.o 20 (.bin .gtr (.t 18) (.t 19)),.m 21 20,.g 22 (.move false (.t 3)) 21 true,.g 23 (.move false (.t 0)) 21 true,.g 24 (.move false (.t 9)) 21 true,.g 25 (.iaddr 7 (.t 23) (.t 24)) 21 true,.g 26 (.load 2 true 7 (.t 25)) 21 true,.g 27 (.move false (.t 0)) 21 true,.g 28 (.move false (.t 9)) 21 true,.g 29 (.bin .sub (.t 28) (.c (.int .i64 1))) 21 true,.g 30 (.iaddr 7 (.t 27) (.t 29)) 21 true,.g 31 (.load 2 true 7 (.t 30)) 21 true,.g 32 (.hop (.callvq (.t 22) [(.t 26), (.t 31)])) 21 true,.g 33 (.bin .lss (.t 32) (.c (.int .i64 0))) 21 true,.o 34 (.pick (.t 21) (.t 33) (.c (.bool false)))]) (
  .cond (.t 34) (.skip) (.exit 2))) (
  .seq (.block 3 (.drawn [0, 1, 2, 3, 4, 5, 6, 7, 8, 9, 10, 11, 12, 13, 14, 15, 16, 17] [0, 0, 0, 0, 8, 0, 0, 64, 224, 480, 0, 0, 3072, 7168, 16355, 32739, 65535, 131071] [.m 37 0,.m 38 9,.m 39 0,.m 40 9,.o 41 (.bin .sub (.t 40) (.c (.int .i64 1))),.m 42 0,.m 43 9,.o 44 (.bin .sub (.t 43) (.c (.int .i64 1))),.o 45 (.iaddr 7 (.t 42) (.t 44)),.o 46 (.load 2 true 7 (.t 45)),.m 47 0,.m 48 9,.o 49 (.iaddr 7 (.t 47) (.t 48)),.o 50 (.load 2 true 7 (.t 49)),.o 51 (.iaddr 7 (.t 37) (.t 38)),⟨none, .store 7 (.t 51) (.t 46), none⟩,.o 52 (.iaddr 7 (.t 39) (.t 41)),⟨none, .store 7 (.t 52) (.t 50), none⟩])) (
  .region [.m 35 9,.o 36 (.bin .sub (.t 35) (.c (.int .i64 1))),.m 9 36]))))))) (
  .region [.m 15 8,.o 16 (.bin .add (.t 15) (.c (.int .i64 1))),.m 8 16])))))
def R.slices_insertionSortCmpFunc_sent : List ARes := []
set_option maxRecDepth 100000 in
theorem K.slices_insertionSortCmpFunc_sent : ckFun Try.prog Try.f216 C.slices_insertionSortCmpFunc_sent R.slices_insertionSortCmpFunc_sent = true := by kernel_rfl
def C.slices_stableCmpFunc_sent : ACode :=
  .seq (.region [.o 6 (.move false (.c (.int .i64 20)))]) (
  .seq (.region [.m 10 6,.o 7 (.move false (.c (.int .i64 0))),.m 8 10]) (
  .seq (.block 0 (.loop (.seq (.seq (.region [.m 11 8,.m 12 1,.o 13 (.bin .leq (.t 11) (.t 12))]) (
  .cond (.t 13) (.skip) (.exit 0))) (
  .block 1 (.seq (.region [.m 14 0,.m 15 7,.m 16 8,.m 17 2,.o 18 (.call true F.slices_insertionSortCmpFunc_sent [(.t 14), (.t 15), (.t 16), (.t 17)])]) (
  .seq (.region [.m 19 8,.m 7 19]) (
  .region [.m 20 8,.m 21 6,.o 22 (.bin .add (.t 20) (.t 21)),.m 8 22]))))))) (
  .seq (.region [.m 23 0,.m 24 7,.m 25 1,.m 26 2,.o 27 (.call true F.slices_insertionSortCmpFunc_sent [(.t 23), (.t 24), (.t 25), (.t 26)])]) (
  .block 2 (.loop (.seq (.seq (.region [.m 28 6,.m 29 1,.o 30 (.bin .lss (.t 28) (.t 29))]) (
  .cond (.t 30) (.skip) (.exit 2))) (
  .block 3 (.seq (.region [.m 31 6,.o 32 (.bin .mul (.c (.int .i64 2)) (.t 31)),.o 7 (.move false (.c (.int .i64 0))),.m 8 32]) (
  .seq (.block 4 (.loop (.seq (.seq (.region [.m 33 8,.m 34 1,.o 35 (.bin .leq (.t 33) (.t 34))]) (
  .cond (.t 35) (.skip) (.exit 4))) (
  .block 5 (.seq (.region [.m 36 0,.m 37 7,.m 38 7,.m 39 6,.o 40 (.bin .add (.t 38) (.t 39)),.m 41 8,.m 42 2,.o 43 (.call true F.slices_symMergeCmpFunc_sent [(.t 36), (.t 37), (.t 40), (.t 41), (.t 42)])]) (
  .seq (.region [.m 44 8,.m 7 44]) (
  .region [.m 45 8,.m 46 6,.o 47 (.bin .mul (.c (.int .i64 2)) (.t 46)),.o 48 (.bin .add (.t 45) (.t 47)),.m 8 48]))))))) (
  .seq (.seq (.region [.m 49 7,.m 50 6,.o 51 (.bin .add (.t 49) (.t 50)),.m 9 51]) (
  .seq (.region [.m 52 9,.m 53 1,.o 54 (.bin .lss (.t 52) (.t 53))]) (
  .cond (.t 54) (.region [.m 55 0,.m 56 7,.m 57 9,.m 58 1,.m 59 2,.o 60 (.call true F.slices_symMergeCmpFunc_sent [(.t 55), (.t 56), (.t 57), (.t 58), (.t 59)])]) (.skip)))) (
  .region [.m 61 6,.o 62 (.bin .mul (.t 61) (.c (.int .i64 2))),.m 6 62])))))))))))
def R.slices_stableCmpFunc_sent : List ARes := []
set_option maxRecDepth 100000 in
theorem K.slices_stableCmpFunc_sent : ckFun Try.prog Try.f199 C.slices_stableCmpFunc_sent R.slices_stableCmpFunc_sent = true := by kernel_rfl
def C.slices_SortStableFunc_sent : ACode :=
  .region [.m 4 0,.m 5 0,.o 6 (.len (.t 5)),.m 7 1,.o 8 (.call true F.slices_stableCmpFunc_sent [(.t 4), (.t 6), (.t 7)])]
def R.slices_SortStableFunc_sent : List ARes := []
set_option maxRecDepth 100000 in
theorem K.slices_SortStableFunc_sent : ckFun Try.prog Try.f166 C.slices_SortStableFunc_sent R.slices_SortStableFunc_sent = true := by kernel_rfl
def C.net_Net_Take_1 : ACode :=
  .seq (.region [.o 2 (.bx true (.t 0)),.o 3 (.bx true (.t 1)),.o 4 (.move false (.c (.int .i64 0)))]) (
  .seq (.region [.o 5 (.faddr 0 (.t 2)),.o 6 (.load 2 false 1 (.t 5)),.o 7 (.faddr 0 (.t 3)),.o 8 (.load 2 false 1 (.t 7)),.o 9 (.bin .sub (.t 6) (.t 8)),.m 4 9]) (
  .ret))
def R.net_Net_Take_1 : List ARes := [.t 4]
set_option maxRecDepth 100000 in
theorem K.net_Net_Take_1 : ckFun Try.prog Try.f167 C.net_Net_Take_1 R.net_Net_Take_1 = true := by kernel_rfl
def C.net_Net_Take : ACode :=
  .seq (.region [.o 6 (.move false (.c (.lst .nil [])))]) (
  .seq (.region [.o 7 (.move false (.c (.lst .nil []))),.o 8 (.move false (.c (.lst .nil [])))]) (
  .seq (.seq (.region [.m 14 0,.o 15 (.nilck (.t 14)),.o 16 (.faddr 2 (.t 15)),.o 17 (.load 2 false 1 (.t 16)),.o 18 (.len (.t 17)),.o 19 (.move false (.c (.int .i64 0)))]) (
  .block 0 (.loop (.seq (.region [.o 20 (.bin .lss (.t 19) (.t 18))]) (
  .seq (.cond (.t 20) (.skip) (.exit 0)) (
  .seq (.block 1 (.seq (.region [.o 21 (.iaddr 7 (.t 17) (.t 19)),.o 22 (.load 2 true 7 (.t 21)),.o 10 (.alloc false [(.int .i64 0), (.int .i64 0), (.int .i64 0), (.int .i64 0), (.int .i64 0), (.int .u32 0), (.lst .nil [])]),⟨none, .store 7 (.t 10) (.t 22), none⟩]) (
  .seq (.region [.o 23 (.faddr 1 (.t 10)),.o 24 (.faddr 2 (.t 23)),.o 25 (.load 2 false 1 (.t 24)),.m 26 2,.o 27 (.bin .eql (.t 25) (.t 26)),.m 28 27,.g 29 (.faddr 0 (.t 10)) 28 true,.g 30 (.load 2 false 1 (.t 29)) 28 true,.g 31 (.move false (.t 1)) 28 true,.g 32 (.bin .leq (.t 30) (.t 31)) 28 true,.o 33 (.pick (.t 28) (.t 32) (.c (.bool false)))]) (
  .cond (.t 33) (.region [.o 34 (.move true (.t 7)),.o 35 (.load 2 true 7 (.t 10)),.o 36 (.buildS false 7 [(.t 35)]),.o 37 (.hop (.appendR 7 72 (.t 34) (.t 36))),.o 7 (.move true (.t 37))]) (.region [.o 38 (.move true (.t 8)),.o 39 (.load 2 true 7 (.t 10)),.o 40 (.buildS false 7 [(.t 39)]),.o 41 (.append 7 72 (.t 38) (.t 40)),.o 8 (.move true (.t 41))]))))) (
  .region [.o 42 (.bin .add (.t 19) (.c (.int .i64 1))),.m 19 42]))))))) (
  .seq (.region [.m 43 0,.o 44 (.move true (.t 8)),.o 45 (.nilck (.t 43)),.o 46 (.faddr 2 (.t 45)),⟨none, .store 1 (.t 46) (.t 44), none⟩]) (
  .seq (.region [.m 47 7,.o 48 (.call true F.slices_SortStableFunc_sent [(.t 47), (.c (.func 167 []))])]) (
  .seq (.region [.o 11 (.move false (.c (.lst .nil [])))]) (
  .seq (.seq (.region [.m 49 7,.o 50 (.len (.t 49)),.o 51 (.move false (.c (.int .i64 0)))]) (
  .block 2 (.loop (.seq (.region [.o 52 (.bin .lss (.t 51) (.t 50))]) (
  .seq (.cond (.t 52) (.skip) (.exit 2)) (
  .seq (.block 3 (.seq (.region [.o 53 (.iaddr 7 (.t 49) (.t 51)),.o 54 (.load 2 true 7 (.t 53)),.o 13 (.alloc false [(.int .i64 0), (.int .i64 0), (.int .i64 0), (.int .i64 0), (.int .i64 0), (.int .u32 0), (.lst .nil [])]),⟨none, .store 7 (.t 13) (.t 54), none⟩]) (
  .region [.o 55 (.move true (.t 11)),.o 56 (.faddr 1 (.t 13)),.o 57 (.load 2 true 6 (.t 56)),.o 58 (.buildS false 6 [(.t 57)]),.o 59 (.append 6 64 (.t 55) (.t 58)),.o 11 (.move true (.t 59))]))) (
  .region [.o 60 (.bin .add (.t 51) (.c (.int .i64 1))),.m 51 60]))))))) (
  .seq (.region [.o 61 (.move true (.t 11)),.o 6 (.move true (.t 61))]) (
  .ret))))))))
def R.net_Net_Take : List ARes := [.t 6]
set_option maxRecDepth 100000 in
theorem K.net_Net_Take : ckFun Try.prog Try.f87 C.net_Net_Take R.net_Net_Take = true := by kernel_rfl
def C.net_Net_Kept : ACode :=
  .seq (.region [.o 2 (.move false (.c (.int .i64 0)))]) (
  .seq (.region [.m 3 0,.o 4 (.nilck (.t 3)),.o 5 (.faddr 2 (.t 4)),.o 6 (.load 2 false 1 (.t 5)),.o 7 (.len (.t 6)),.m 2 7]) (
  .ret))
def R.net_Net_Kept : List ARes := [.t 2]
set_option maxRecDepth 100000 in
theorem K.net_Net_Kept : ckFun Try.prog Try.f90 C.net_Net_Kept R.net_Net_Kept = true := by kernel_rfl
end Go.Proofs.Ytpdajkbfemcdlaa
namespace Go.Proofs.Ytpdajkbfemcdlaa
open Go.Ge
def C.slices_Clone_Fault : ACode :=
  .seq (.region [.o 2 (.move false (.c (.lst .nil [])))]) (
  .seq (.seq (.region [.m 3 0,.o 4 (.isnil false false (.t 3))]) (
  .cond (.t 4) (.seq (.region [.o 2 (.move false (.c (.lst .nil [])))]) (
  .ret)) (.skip))) (
  .seq (.region [.o 5 (.buildS false 3 []),.m 6 0,.o 7 (.append 3 24 (.t 5) (.t 6)),.o 2 (.move true (.t 7))]) (
  .ret)))
def R.slices_Clone_Fault : List ARes := [.t 2]
set_option maxRecDepth 100000 in
theorem K.slices_Clone_Fault : ckFun Try.prog Try.f165 C.slices_Clone_Fault R.slices_Clone_Fault = true := by kernel_rfl
def C.net_New : ACode :=
  .seq (.region [.o 2 (.move false (.c .nilptr))]) (
  .seq (.region [.m 3 0,.o 4 (.call true F.slices_Clone_Fault [(.t 3)]),.o 5 (.build [(.lst .nil []), (.int .i64 0), (.lst .nil [])] [(0, 1, (.t 4))]),.o 6 (.bx true (.t 5)),.m 2 6]) (
  .prom 6 (.ret)))
def R.net_New : List ARes := [.t 2]
set_option maxRecDepth 100000 in
theorem K.net_New : ckFun Try.prog Try.f84 C.net_New R.net_New = true := by kernel_rfl
def C.net_Net_Send : ACode :=
  .seq (.region [.o 5 (.bx true (.t 2)),.o 6 (.move false (.c (.int .i64 0)))]) (
  .seq (.seq (.region [.m 12 1,.o 13 (.bin .lss (.t 12) (.c (.int .i64 0))),.m 14 13,.g 15 (.move false (.t 1)) 14 false,.g 16 (.bin .gtr (.t 15) (.c (.int .i64 2000))) 14 false,.o 17 (.pick (.t 14) (.c (.bool true)) (.t 16))]) (
  .cond (.t 17) (.seq (.region [.o 6 (.move false (.c (.int .i64 1)))]) (
  .ret)) (.skip))) (
  .seq (.seq (.region [.m 18 1,.m 19 0,.o 20 (.nilck (.t 19)),.o 21 (.faddr 1 (.t 20)),.o 22 (.load 2 false 1 (.t 21)),.o 23 (.bin .lss (.t 18) (.t 22))]) (
  .cond (.t 23) (.seq (.region [.o 6 (.move false (.c (.int .i64 9)))]) (
  .ret)) (.skip))) (
  .seq (.seq (.region [.o 24 (.load 2 true 6 (.t 5)),.o 25 (.call true F.msg_Check [(.t 24)]),.m 7 25]) (
  .seq (.region [.m 26 7,.o 27 (.bin .neq (.t 26) (.c (.int .i64 0)))]) (
  .cond (.t 27) (.seq (.region [.m 28 7,.m 6 28]) (
  .ret)) (.skip)))) (
  .seq (.region [.o 8 (.move false (.c (.int .i64 1))),.o 9 (.move false (.c (.int .i64 0)))]) (
  .seq (.seq (.region [.m 29 0,.o 30 (.nilck (.t 29)),.o 31 (.faddr 0 (.t 30)),.o 32 (.load 2 false 1 (.t 31)),.o 33 (.len (.t 32)),.o 34 (.move false (.c (.int .i64 0)))]) (
  .block 0 (.loop (.seq (.region [.o 35 (.bin .lss (.t 34) (.t 33))]) (
  .seq (.cond (.t 35) (.skip) (.exit 0)) (
  .seq (.block 1 (.seq (.region [.o 36 (.iaddr 3 (.t 32) (.t 34)),.o 37 (.load 2 true 3 (.t 36)),.o 11 (.alloc false [(.int .i64 0), (.int .i64 0), (.int .i64 0)]),⟨none, .store 3 (.t 11) (.t 37), none⟩]) (
  .seq (.seq (.region [.o 38 (.faddr 0 (.t 11)),.o 39 (.load 2 false 1 (.t 38)),.m 40 1,.o 41 (.bin .neq (.t 39) (.t 40))]) (
  .cond (.t 41) (.exit 1) (.skip))) (
  .seq (.block 2 (.seq (.region [.o 43 (.faddr 1 (.t 11)),.o 44 (.load 2 false 1 (.t 43)),.o 45 (.bin .eql (.t 44) (.c (.int .i64 0))),.m 46 45,.g 47 (.faddr 2 (.t 11)) 46 true,.g 48 (.load 2 false 1 (.t 47)) 46 true,.g 49 (.faddr 1 (.t 5)) 46 true,.g 50 (.load 2 false 1 (.t 49)) 46 true,.g 51 (.bin .eql (.t 48) (.t 50)) 46 true,.o 52 (.pick (.t 46) (.t 51) (.c (.bool false))),.m 42 52]) (
  .cond (.t 42) (.region [.o 8 (.move false (.c (.int .i64 0)))]) (.seq (.region [.o 54 (.faddr 1 (.t 11)),.o 55 (.load 2 false 1 (.t 54)),.o 56 (.bin .eql (.t 55) (.c (.int .i64 1))),.m 57 56,.g 58 (.faddr 2 (.t 11)) 57 true,.g 59 (.load 2 false 1 (.t 58)) 57 true,.g 60 (.faddr 1 (.t 5)) 57 true,.g 61 (.load 2 false 1 (.t 60)) 57 true,.g 62 (.bin .eql (.t 59) (.t 61)) 57 true,.o 63 (.pick (.t 57) (.t 62) (.c (.bool false))),.m 53 63]) (
  .cond (.t 53) (.region [.m 64 8,.o 65 (.bin .mul (.t 64) (.c (.int .i64 2))),.m 8 65]) (.seq (.region [.o 67 (.faddr 1 (.t 11)),.o 68 (.load 2 false 1 (.t 67)),.o 69 (.bin .eql (.t 68) (.c (.int .i64 2))),.m 70 69,.g 71 (.faddr 2 (.t 11)) 70 true,.g 72 (.load 2 false 1 (.t 71)) 70 true,.g 73 (.bin .gtr (.t 72) (.c (.int .i64 0))) 70 true,.o 74 (.pick (.t 70) (.t 73) (.c (.bool false))),.m 75 74,.g 76 (.faddr 2 (.t 11)) 75 true,.g 77 (.load 2 false 1 (.t 76)) 75 true,.g 78 (.bin .leq (.t 77) (.c (.int .i64 2000))) 75 true,.o 79 (.pick (.t 75) (.t 78) (.c (.bool false))),.m 66 79]) (
  .cond (.t 66) (.region [.m 80 9,.o 81 (.faddr 2 (.t 11)),.o 82 (.load 2 false 1 (.t 81)),.o 83 (.mx (.t 80) [(.t 82)]),.m 9 83]) (.skip)))))))) (
  .region [.m 84 8,.o 85 (.mn (.t 84) [(.c (.int .i64 2))]),.m 8 85]))))) (
  .region [.o 86 (.bin .add (.t 34) (.c (.int .i64 1))),.m 34 86]))))))) (
  .seq (.seq (.region [.m 87 0,.o 88 (.nilck (.t 87)),.o 89 (.faddr 2 (.t 88)),.o 90 (.load 2 false 1 (.t 89)),.o 91 (.len (.t 90)),.m 92 8,.o 93 (.bin .add (.t 91) (.t 92)),.o 94 (.bin .gtr (.t 93) (.c (.int .i64 1000)))]) (
  .cond (.t 94) (.seq (.region [.o 6 (.move false (.c (.int .i64 6)))]) (
  .ret)) (.skip))) (
  .seq (.region [.m 95 0,.m 96 1,.o 97 (.nilck (.t 95)),.o 98 (.faddr 1 (.t 97)),⟨none, .store 1 (.t 98) (.t 96), none⟩]) (
  .seq (.seq (.region [.m 99 8,.o 100 (.move false (.c (.int .i64 0)))]) (
  .block 3 (.loop (.seq (.region [.o 101 (.bin .lss (.t 100) (.t 99))]) (
  .seq (.cond (.t 101) (.skip) (.exit 3)) (
  .seq (.block 4 (.drawn [0, 1, 2, 3, 5, 6, 7, 8, 9, 4, 10, 11, 12, 13, 14, 15, 16] [0, 0, 2, 6, 14, 0, 32, 0, 224, 0, 512, 2016, 4064, 8190, 16383, 32767, 65535] [.m 102 0,.m 103 0,.o 104 (.nilck (.t 103)),.o 105 (.faddr 2 (.t 104)),.m 107 1,.o 108 (.bin .add (.t 107) (.c (.int .i64 1))),.m 109 9,.o 110 (.bin .add (.t 108) (.t 109)),.o 111 (.load 1 true 6 (.t 5)),.o 106 (.loadT (.t 105)),.o 112 (.hop (.callp F.msg_Copy [(.t 111)])),.o 113 (.build [(.int .i64 0), (.int .i64 0), (.int .i64 0), (.int .i64 0), (.int .i64 0), (.int .u32 0), (.lst .nil [])] [(0, 1, (.t 110)), (1, 6, (.t 112))]),.o 114 (.buildS false 7 [(.t 113)]),.o 115 (.append 7 72 (.t 106) (.t 114)),.o 116 (.nilck (.t 102)),.o 117 (.faddr 2 (.t 116)),⟨none, .store 1 (.t 117) (.t 115), none⟩])) (
  .region [.o 118 (.bin .add (.t 100) (.c (.int .i64 1))),.m 100 118]))))))) (
  .seq (.region [.o 6 (.move false (.c (.int .i64 0)))]) (
  .ret))))))))))
def R.net_Net_Send : List ARes := [.t 6]
set_option maxRecDepth 100000 in
theorem K.net_Net_Send : ckFun Try.prog Try.f85 C.net_Net_Send R.net_Net_Send = true := by kernel_rfl
end Go.Proofs.Ytpdajkbfemcdlaa
namespace Go.Proofs.Ytpdajkbfemcdlaa
open Go.Ge
def C.gantref5_Flights : ACode :=
  .seq (.region [.o 5 (.bx true (.t 2)),.o 6 (.move false (.c (.lst .nil [])))]) (
  .seq (.region [.o 7 (.move false (.c (.bool false))),.o 8 (.move false (.c (.bool false))),.o 9 (.move false (.c (.int .i64 0)))]) (
  .seq (.seq (.region [.m 13 0,.o 14 (.len (.t 13)),.o 15 (.move false (.c (.int .i64 0)))]) (
  .block 0 (.loop (.seq (.region [.o 16 (.bin .lss (.t 15) (.t 14))]) (
  .seq (.cond (.t 16) (.skip) (.exit 0)) (
  .seq (.block 1 (.seq (.region [.o 17 (.iaddr 3 (.t 13) (.t 15)),.o 18 (.load 2 true 3 (.t 17)),.o 11 (.alloc false [(.int .i64 0), (.int .i64 0), (.int .i64 0)]),⟨none, .store 3 (.t 11) (.t 18), none⟩]) (
  .seq (.region [.o 19 (.faddr 0 (.t 11)),.o 20 (.load 2 false 1 (.t 19)),.m 21 1,.o 22 (.bin .eql (.t 20) (.t 21))]) (
  .cond (.t 22) (.seq (.region [.m 23 7,.m 24 23,.g 25 (.faddr 1 (.t 11)) 24 false,.g 26 (.load 2 false 1 (.t 25)) 24 false,.g 27 (.bin .eql (.t 26) (.c (.int .i64 0))) 24 false,.g 28 (.move false (.t 27)) 24 false,.g 29 (.faddr 2 (.t 11)) 28 true,.g 30 (.load 2 false 1 (.t 29)) 28 true,.g 31 (.faddr 1 (.t 5)) 28 true,.g 32 (.load 2 false 1 (.t 31)) 28 true,.g 33 (.bin .eql (.t 30) (.t 32)) 28 true,.g 34 (.pick (.t 28) (.t 33) (.c (.bool false))) 24 false,.o 35 (.pick (.t 24) (.c (.bool true)) (.t 34)),.m 7 35]) (
  .seq (.region [.m 36 8,.m 37 36,.g 38 (.faddr 1 (.t 11)) 37 false,.g 39 (.load 2 false 1 (.t 38)) 37 false,.g 40 (.bin .eql (.t 39) (.c (.int .i64 1))) 37 false,.g 41 (.move false (.t 40)) 37 false,.g 42 (.faddr 2 (.t 11)) 41 true,.g 43 (.load 2 false 1 (.t 42)) 41 true,.g 44 (.faddr 1 (.t 5)) 41 true,.g 45 (.load 2 false 1 (.t 44)) 41 true,.g 46 (.bin .eql (.t 43) (.t 45)) 41 true,.g 47 (.pick (.t 41) (.t 46) (.c (.bool false))) 37 false,.o 48 (.pick (.t 37) (.c (.bool true)) (.t 47)),.m 8 48]) (
  .seq (.region [.o 49 (.faddr 1 (.t 11)),.o 50 (.load 2 false 1 (.t 49)),.o 51 (.bin .eql (.t 50) (.c (.int .i64 2))),.m 52 51,.g 53 (.faddr 2 (.t 11)) 52 true,.g 54 (.load 2 false 1 (.t 53)) 52 true,.g 55 (.bin .leq (.t 54) (.c (.int .i64 2000))) 52 true,.o 56 (.pick (.t 52) (.t 55) (.c (.bool false))),.m 57 56,.g 58 (.faddr 2 (.t 11)) 57 true,.g 59 (.load 2 false 1 (.t 58)) 57 true,.g 60 (.move false (.t 9)) 57 true,.g 61 (.bin .gtr (.t 59) (.t 60)) 57 true,.o 62 (.pick (.t 57) (.t 61) (.c (.bool false)))]) (
  .cond (.t 62) (.region [.o 63 (.faddr 2 (.t 11)),.o 64 (.load 2 false 1 (.t 63)),.m 9 64]) (.skip))))) (.skip))))) (
  .region [.o 65 (.bin .add (.t 15) (.c (.int .i64 1))),.m 15 65]))))))) (
  .seq (.region [.m 66 1,.o 67 (.bin .add (.t 66) (.c (.int .i64 1))),.m 68 9,.o 69 (.bin .add (.t 67) (.t 68)),.o 70 (.load 2 true 6 (.t 5)),.o 71 (.build [(.int .i64 0), (.int .i64 0), (.int .i64 0), (.int .i64 0), (.int .i64 0), (.int .u32 0), (.lst .nil [])] [(0, 1, (.t 69)), (1, 6, (.t 70))]),.o 12 (.alloc false [(.int .i64 0), (.int .i64 0), (.int .i64 0), (.int .i64 0), (.int .i64 0), (.int .u32 0), (.lst .nil [])]),⟨none, .store 7 (.t 12) (.t 71), none⟩]) (
  .seq (.block 2 (.seq (.region [.m 73 7,.m 72 73]) (
  .cond (.t 72) (.seq (.region [.o 6 (.move false (.c (.lst .nil [])))]) (
  .ret)) (.seq (.region [.m 75 8,.m 74 75]) (
  .cond (.t 74) (.seq (.region [.o 76 (.load 2 true 7 (.t 12)),.o 77 (.load 2 true 7 (.t 12)),.o 78 (.buildS false 7 [(.t 76), (.t 77)]),.o 6 (.move true (.t 78))]) (
  .ret)) (.skip)))))) (
  .seq (.region [.o 79 (.load 2 true 7 (.t 12)),.o 80 (.buildS false 7 [(.t 79)]),.o 6 (.move true (.t 80))]) (
  .ret))))))
def R.gantref5_Flights : List ARes := [.t 6]
set_option maxRecDepth 100000 in
theorem K.gantref5_Flights : ckFun Try.prog Try.f89 C.gantref5_Flights R.gantref5_Flights = true := by kernel_rfl
def C.gantlaw5_takes : ACode :=
  .seq (.region [.o 8 (.move false (.c (.bool false)))]) (
  .seq (.region [.o 9 (.move false (.c (.lst .nil []))),.o 10 (.move false (.c (.lst .nil [])))]) (
  .seq (.seq (.region [.m 17 1,.o 18 (.nilck (.t 17)),.o 19 (.load 2 false 1 (.t 18)),.o 20 (.len (.t 19)),.o 21 (.move false (.c (.int .i64 0)))]) (
  .block 0 (.loop (.seq (.region [.o 22 (.bin .lss (.t 21) (.t 20))]) (
  .seq (.cond (.t 22) (.skip) (.exit 0)) (
  .seq (.block 1 (.seq (.region [.o 23 (.iaddr 7 (.t 19) (.t 21)),.o 24 (.load 2 true 7 (.t 23)),.o 12 (.alloc false [(.int .i64 0), (.int .i64 0), (.int .i64 0), (.int .i64 0), (.int .i64 0), (.int .u32 0), (.lst .nil [])]),⟨none, .store 7 (.t 12) (.t 24), none⟩]) (
  .seq (.region [.o 25 (.faddr 1 (.t 12)),.o 26 (.faddr 2 (.t 25)),.o 27 (.load 2 false 1 (.t 26)),.m 28 3,.o 29 (.bin .eql (.t 27) (.t 28)),.m 30 29,.g 31 (.faddr 0 (.t 12)) 30 true,.g 32 (.load 2 false 1 (.t 31)) 30 true,.g 33 (.move false (.t 2)) 30 true,.g 34 (.bin .leq (.t 32) (.t 33)) 30 true,.o 35 (.pick (.t 30) (.t 34) (.c (.bool false)))]) (
  .cond (.t 35) (.region [.o 36 (.move true (.t 9)),.o 37 (.load 2 true 7 (.t 12)),.o 38 (.buildS false 7 [(.t 37)]),.o 39 (.append 7 72 (.t 36) (.t 38)),.o 9 (.move true (.t 39))]) (.region [.o 40 (.move true (.t 10)),.o 41 (.load 2 true 7 (.t 12)),.o 42 (.buildS false 7 [(.t 41)]),.o 43 (.append 7 72 (.t 40) (.t 42)),.o 10 (.move true (.t 43))]))))) (
  .region [.o 44 (.bin .add (.t 21) (.c (.int .i64 1))),.m 21 44]))))))) (
  .seq (.region [.o 13 (.move false (.c (.lst .nil [])))]) (
  .seq (.seq (.region [.o 14 (.move false (.c (.int .i64 0)))]) (
  .block 2 (.loop (.seq (.seq (.region [.m 45 14,.o 46 (.bin .leq (.t 45) (.c (.int .i64 5000)))]) (
  .cond (.t 46) (.skip) (.exit 2))) (
  .seq (.block 3 (.seq (.region [.m 49 9,.o 50 (.len (.t 49)),.o 51 (.move false (.c (.int .i64 0)))]) (
  .block 4 (.loop (.seq (.region [.o 52 (.bin .lss (.t 51) (.t 50))]) (
  .seq (.cond (.t 52) (.skip) (.exit 4)) (
  .seq (.block 5 (.seq (.region [.o 53 (.iaddr 7 (.t 49) (.t 51)),.o 54 (.load 2 true 7 (.t 53)),.o 16 (.alloc false [(.int .i64 0), (.int .i64 0), (.int .i64 0), (.int .i64 0), (.int .i64 0), (.int .u32 0), (.lst .nil [])]),⟨none, .store 7 (.t 16) (.t 54), none⟩]) (
  .seq (.region [.o 55 (.faddr 0 (.t 16)),.o 56 (.load 2 false 1 (.t 55)),.m 57 14,.o 58 (.bin .eql (.t 56) (.t 57))]) (
  .cond (.t 58) (.region [.o 59 (.move true (.t 13)),.o 60 (.faddr 1 (.t 16)),.o 61 (.load 2 true 6 (.t 60)),.o 62 (.buildS false 6 [(.t 61)]),.o 63 (.append 6 64 (.t 59) (.t 62)),.o 13 (.move true (.t 63))]) (.skip))))) (
  .region [.o 64 (.bin .add (.t 51) (.c (.int .i64 1))),.m 51 64])))))))) (
  .region [.m 47 14,.o 48 (.bin .add (.t 47) (.c (.int .i64 1))),.m 14 48])))))) (
  .seq (.region [.m 65 1,.o 66 (.move true (.t 10)),.o 67 (.nilck (.t 65)),⟨none, .store 1 (.t 67) (.t 66), none⟩]) (
  .seq (.region [.m 68 0,.m 69 2,.m 70 3,.o 71 (.call true F.net_Net_Take [(.t 68), (.t 69), (.t 70)]),.m 72 13,.o 73 (.call true F.slices_EqualFunc_Msg [(.t 71), (.t 72), (.c (.func 48 []))]),.m 74 73,.g 75 (.move false (.t 0)) 74 true,.g 76 (.call true F.net_Net_Kept [(.t 75)]) 74 true,.g 77 (.move false (.t 10)) 74 true,.g 78 (.len (.t 77)) 74 true,.g 79 (.bin .eql (.t 76) (.t 78)) 74 true,.o 80 (.pick (.t 74) (.t 79) (.c (.bool false))),.m 8 80]) (
  .ret)))))))
def R.gantlaw5_takes : List ARes := [.t 8]
set_option maxRecDepth 100000 in
theorem K.gantlaw5_takes : ckFun Try.prog Try.f88 C.gantlaw5_takes R.gantlaw5_takes = true := by kernel_rfl
def C.gantlaw5_NetPlays : ACode :=
  .seq (.region [.o 6 (.move false (.c (.bool false)))]) (
  .seq (.region [.m 15 0,.o 16 (.call true F.net_New [(.t 15)]),.m 7 16]) (
  .seq (.seq (.region [.m 17 7,.o 18 (.pnil false (.t 17)),.m 19 18,.g 20 (.move false (.t 7)) 19 false,.g 21 (.build [(.int .i64 0), (.int .i64 0), (.int .i64 0), (.int .i64 0), (.int .u32 0), (.lst .nil [])] [(0, 1, (.c (.int .i64 9)))]) 19 false,.g 22 (.call true F.net_Net_Send [(.t 20), (.c (.int .i64 0)), (.t 21)]) 19 false,.g 23 (.bin .neq (.t 22) (.c (.int .i64 1))) 19 false,.o 24 (.pick (.t 19) (.c (.bool true)) (.t 23))]) (
  .cond (.t 24) (.seq (.region [.o 6 (.move false (.c (.bool false)))]) (
  .ret)) (.skip))) (
  .seq (.region [.o 8 (.alloc false [(.lst .nil [])])]) (
  .seq (.prom 8 (.region [.o 9 (.move false (.c (.int .i64 0)))])) (
  .seq (.seq (.region [.m 25 1,.o 26 (.len (.t 25)),.o 27 (.move false (.c (.int .i64 0)))]) (
  .block 0 (.loop (.seq (.region [.o 28 (.bin .lss (.t 27) (.t 26))]) (
  .seq (.cond (.t 28) (.skip) (.exit 0)) (
  .seq (.block 1 (.seq (.region [.o 29 (.iaddr 3 (.t 25) (.t 27)),.o 30 (.load 2 true 3 (.t 29)),.o 11 (.alloc false [(.int .i64 0), (.int .i64 0), (.int .i64 0)]),⟨none, .store 3 (.t 11) (.t 30), none⟩]) (
  .seq (.region [.o 31 (.aaddr 3 1 (.t 11) (.c (.int .i64 1))),.o 32 (.load 2 false 1 (.t 31)),.m 12 32]) (
  .seq (.seq (.region [.o 33 (.aaddr 3 1 (.t 11) (.c (.int .i64 0))),.o 34 (.load 2 false 1 (.t 33)),.o 35 (.bin .rem (.t 34) (.c (.int .i64 2))),.o 36 (.bin .eql (.t 35) (.c (.int .i64 0)))]) (
  .cond (.t 36) (.seq (.seq (.region [.m 37 7,.m 38 12,.o 39 (.aaddr 3 1 (.t 11) (.c (.int .i64 2))),.o 40 (.load 2 false 1 (.t 39)),.o 41 (.call true F.gantlaw5_takes [(.t 37), (.t 8), (.t 38), (.t 40)]),.o 42 (.un .not (.t 41))]) (
  .cond (.t 42) (.seq (.region [.o 6 (.move false (.c (.bool false)))]) (
  .ret)) (.skip))) (
  .exit 1)) (.skip))) (
  .seq (.region [.o 43 (.build [(.int .i64 0), (.int .i64 0), (.int .i64 0), (.int .i64 0), (.int .u32 0), (.lst .nil [])] [(1, 1, (.c (.int .i64 1)))]),.o 13 (.alloc false [(.int .i64 0), (.int .i64 0), (.int .i64 0), (.int .i64 0), (.int .u32 0), (.lst .nil [])]),⟨none, .store 6 (.t 13) (.t 43), none⟩]) (
  .seq (.seq (.region [.m 44 2,.o 45 (.len (.t 44)),.o 46 (.bin .gtr (.t 45) (.c (.int .i64 0)))]) (
  .cond (.t 46) (.region [.m 47 2,.o 48 (.aaddr 3 1 (.t 11) (.c (.int .i64 2))),.o 49 (.load 2 false 1 (.t 48)),.m 50 2,.o 51 (.len (.t 50)),.o 52 (.bin .rem (.t 49) (.t 51)),.m 53 2,.o 54 (.len (.t 53)),.o 55 (.bin .add (.t 52) (.t 54)),.m 56 2,.o 57 (.len (.t 56)),.o 58 (.bin .rem (.t 55) (.t 57)),.o 59 (.iaddr 6 (.t 47) (.t 58)),.o 60 (.load 2 true 6 (.t 59)),⟨none, .store 6 (.t 13) (.t 60), none⟩]) (.skip))) (
  .seq (.region [.o 14 (.move false (.c (.int .i64 0)))]) (
  .seq (.block 2 (.seq (.region [.m 62 12,.o 63 (.bin .lss (.t 62) (.c (.int .i64 0))),.m 64 63,.g 65 (.move false (.t 12)) 64 false,.g 66 (.bin .gtr (.t 65) (.c (.int .i64 2000))) 64 false,.o 67 (.pick (.t 64) (.c (.bool true)) (.t 66)),.m 61 67]) (
  .cond (.t 61) (.region [.o 14 (.move false (.c (.int .i64 1)))]) (.seq (.region [.m 69 12,.m 70 9,.o 71 (.bin .lss (.t 69) (.t 70)),.m 68 71]) (
  .cond (.t 68) (.region [.o 14 (.move false (.c (.int .i64 9)))]) (.seq (.region [.o 73 (.load 2 true 6 (.t 13)),.o 74 (.call true F.gantref5_MsgFault [(.t 73)]),.o 75 (.bin .neq (.t 74) (.c (.int .i64 0))),.m 72 75]) (
  .cond (.t 72) (.region [.o 76 (.load 2 true 6 (.t 13)),.o 77 (.call true F.gantref5_MsgFault [(.t 76)]),.m 14 77]) (.seq (.region [.o 79 (.faddr 5 (.t 13)),.o 80 (.load 2 false 1 (.t 79)),.o 81 (.call true F.gantref5_CellsFault [(.t 80)]),.o 82 (.bin .neq (.t 81) (.c (.int .i64 0))),.m 78 82]) (
  .cond (.t 78) (.region [.o 83 (.faddr 5 (.t 13)),.o 84 (.load 2 false 1 (.t 83)),.o 85 (.call true F.gantref5_CellsFault [(.t 84)]),.m 14 85]) (.seq (.drawn [0, 1, 2, 3, 4, 5, 6, 7, 8, 9] [0, 1, 0, 0, 0, 28, 60, 127, 255, 511] [.o 87 (.load 2 false 1 (.t 8)),.o 88 (.len (.t 87)),.m 89 0,.m 90 12,.o 91 (.load 1 true 6 (.t 13)),.o 92 (.hop (.callp F.gantref5_Flights [(.t 89), (.t 90), (.t 91)])),.o 93 (.len (.t 92)),.o 94 (.bin .add (.t 88) (.t 93)),.o 95 (.bin .gtr (.t 94) (.c (.int .i64 1000))),.m 86 95]) (
  .cond (.t 86) (.region [.o 14 (.move false (.c (.int .i64 6)))]) (.skip)))))))))))) (
  .seq (.seq (.region [.m 96 7,.m 97 12,.o 98 (.load 2 true 6 (.t 13)),.o 99 (.call true F.net_Net_Send [(.t 96), (.t 97), (.t 98)]),.m 100 14,.o 101 (.bin .neq (.t 99) (.t 100))]) (
  .cond (.t 101) (.seq (.region [.o 6 (.move false (.c (.bool false)))]) (
  .ret)) (.skip))) (
  .seq (.seq (.region [.m 102 14,.o 103 (.bin .eql (.t 102) (.c (.int .i64 0)))]) (
  .cond (.t 103) (.seq (.region [.m 104 12,.m 9 104]) (
  .drawn [1, 2, 3, 0, 4, 5, 6] [0, 0, 0, 0, 14, 31, 63] [.m 106 0,.m 107 12,.o 108 (.load 1 true 6 (.t 13)),.o 105 (.loadT (.t 8)),.o 109 (.hop (.callp F.gantref5_Flights [(.t 106), (.t 107), (.t 108)])),.o 110 (.append 7 72 (.t 105) (.t 109)),⟨none, .store 1 (.t 8) (.t 110), none⟩])) (.skip))) (
  .seq (.drawn [0, 2, 3, 1, 4] [0, 1, 0, 4, 15] [.m 111 7,.o 113 (.load 2 false 1 (.t 8)),.o 114 (.len (.t 113)),.o 112 (.hop (.callq F.net_Net_Kept [(.t 111)])),.o 115 (.bin .neq (.t 112) (.t 114))]) (
  .cond (.t 115) (.seq (.region [.o 6 (.move false (.c (.bool false)))]) (
  .ret)) (.skip))))))))))))) (
  .region [.o 116 (.bin .add (.t 27) (.c (.int .i64 1))),.m 27 116]))))))) (
  .seq (.region [.o 6 (.move false (.c (.bool true)))]) (
  .ret)))))))
def R.gantlaw5_NetPlays : List ARes := [.t 6]
set_option maxRecDepth 100000 in
theorem K.gantlaw5_NetPlays : ckFun Try.prog Try.f18 C.gantlaw5_NetPlays R.gantlaw5_NetPlays = true := by kernel_rfl
end Go.Proofs.Ytpdajkbfemcdlaa
