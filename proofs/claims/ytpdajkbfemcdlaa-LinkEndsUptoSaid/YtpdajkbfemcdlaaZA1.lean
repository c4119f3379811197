import Derived.Test.YtpdajkbfemcdlaaGeD
import Derived.Test.YtpdajkbfemcdlaaChecked
import Derived.Test.YtpdajkbfemcdlaaFn
import Derived.KernelRfl
/- Annotated code of functions, checked against the program. -/
namespace Go.Proofs.Ytpdajkbfemcdlaa
open Go.Ge
/-- gantry/msg.Check -/
def C.msg_Check : ACode :=
  .seq (.region [
    ⟨some 1, .bx true (.t 0), none⟩, 
    ⟨some 2, .move false (.c (.int .i64 0)), none⟩]) (
  .seq (.block 0 (.seq (.region [
    ⟨some 4, .faddr 0 (.t 1), none⟩, 
    ⟨some 5, .load 2 false 1 (.t 4), none⟩, 
    ⟨some 6, .bin .lss (.t 5) (.c (.int .i64 0)), none⟩, 
    ⟨some 7, .move false (.t 6), none⟩, 
    ⟨some 8, .faddr 0 (.t 1), (some (7, false))⟩, 
    ⟨some 9, .load 2 false 1 (.t 8), (some (7, false))⟩, 
    ⟨some 10, .bin .gtr (.t 9) (.c (.int .i64 3)), (some (7, false))⟩, 
    ⟨some 11, .pick (.t 7) (.c (.bool true)) (.t 10), none⟩, 
    ⟨some 3, .move false (.t 11), none⟩]) (
  .cond (.t 3) (.seq (.region [
    ⟨some 2, .move false (.c (.int .i64 1)), none⟩]) (
  .ret)) (.seq (.region [
    ⟨some 13, .faddr 1 (.t 1), none⟩, 
    ⟨some 14, .load 2 false 1 (.t 13), none⟩, 
    ⟨some 15, .faddr 2 (.t 1), none⟩, 
    ⟨some 16, .load 2 false 1 (.t 15), none⟩, 
    ⟨some 17, .mn (.t 14) [(.t 16)], none⟩, 
    ⟨some 18, .bin .lss (.t 17) (.c (.int .i64 0)), none⟩, 
    ⟨some 19, .move false (.t 18), none⟩, 
    ⟨some 20, .faddr 1 (.t 1), (some (19, false))⟩, 
    ⟨some 21, .load 2 false 1 (.t 20), (some (19, false))⟩, 
    ⟨some 22, .faddr 2 (.t 1), (some (19, false))⟩, 
    ⟨some 23, .load 2 false 1 (.t 22), (some (19, false))⟩, 
    ⟨some 24, .mx (.t 21) [(.t 23)], (some (19, false))⟩, 
    ⟨some 25, .bin .gtr (.t 24) (.c (.int .i64 4)), (some (19, false))⟩, 
    ⟨some 26, .pick (.t 19) (.c (.bool true)) (.t 25), none⟩, 
    ⟨some 27, .move false (.t 26), none⟩, 
    ⟨some 28, .faddr 1 (.t 1), (some (27, false))⟩, 
    ⟨some 29, .load 2 false 1 (.t 28), (some (27, false))⟩, 
    ⟨some 30, .faddr 2 (.t 1), (some (27, false))⟩, 
    ⟨some 31, .load 2 false 1 (.t 30), (some (27, false))⟩, 
    ⟨some 32, .bin .eql (.t 29) (.t 31), (some (27, false))⟩, 
    ⟨some 33, .pick (.t 27) (.c (.bool true)) (.t 32), none⟩, 
    ⟨some 12, .move false (.t 33), none⟩]) (
  .cond (.t 12) (.seq (.region [
    ⟨some 2, .move false (.c (.int .i64 16)), none⟩]) (
  .ret)) (.seq (.region [
    ⟨some 35, .faddr 3 (.t 1), none⟩, 
    ⟨some 36, .load 2 false 1 (.t 35), none⟩, 
    ⟨some 37, .bin .lss (.t 36) (.c (.int .i64 0)), none⟩, 
    ⟨some 38, .move false (.t 37), none⟩, 
    ⟨some 39, .faddr 3 (.t 1), (some (38, false))⟩, 
    ⟨some 40, .load 2 false 1 (.t 39), (some (38, false))⟩, 
    ⟨some 41, .bin .gtr (.t 40) (.c (.int .i64 2147483647)), (some (38, false))⟩, 
    ⟨some 42, .pick (.t 38) (.c (.bool true)) (.t 41), none⟩, 
    ⟨some 34, .move false (.t 42), none⟩]) (
  .cond (.t 34) (.seq (.region [
    ⟨some 2, .move false (.c (.int .i64 2)), none⟩]) (
  .ret)) (.seq (.region [
    ⟨some 44, .faddr 0 (.t 1), none⟩, 
    ⟨some 45, .load 2 false 1 (.t 44), none⟩, 
    ⟨some 46, .bin .eql (.t 45) (.c (.int .i64 3)), none⟩, 
    ⟨some 47, .move false (.t 46), none⟩, 
    ⟨some 48, .faddr 5 (.t 1), (some (47, true))⟩, 
    ⟨some 49, .load 2 false 1 (.t 48), (some (47, true))⟩, 
    ⟨some 50, .len (.t 49), (some (47, true))⟩, 
    ⟨some 51, .bin .gtr (.t 50) (.c (.int .i64 0)), (some (47, true))⟩, 
    ⟨some 52, .pick (.t 47) (.t 51) (.c (.bool false)), none⟩, 
    ⟨some 43, .move false (.t 52), none⟩]) (
  .cond (.t 43) (.seq (.region [
    ⟨some 2, .move false (.c (.int .i64 3)), none⟩]) (
  .ret)) (.skip)))))))))) (
  .seq (.region [
    ⟨some 53, .faddr 5 (.t 1), none⟩, 
    ⟨some 54, .load 2 false 1 (.t 53), none⟩, 
    ⟨some 55, .call true F.grid_Check [(.t 54)], none⟩, 
    ⟨some 2, .move false (.t 55), none⟩]) (
  .ret)))
def R.msg_Check : List ARes := [.t 2]
set_option maxRecDepth 100000 in
theorem K.msg_Check : ckFun Try.prog Try.f74 C.msg_Check R.msg_Check = true := by kernel_rfl
/-- gantry/grid.Check -/
def C.grid_Check : ACode :=
  .seq (.region [
    ⟨some 2, .move false (.c (.int .i64 0)), none⟩]) (
  .seq (.seq (.region [
    ⟨some 5, .move false (.t 0), none⟩, 
    ⟨some 6, .len (.t 5), none⟩, 
    ⟨some 7, .bin .gtr (.t 6) (.c (.int .i64 400)), none⟩]) (
  .cond (.t 7) (.seq (.region [
    ⟨some 2, .move false (.c (.int .i64 2)), none⟩]) (
  .ret)) (.skip))) (
  .seq (.seq (.region [
    ⟨some 8, .move false (.t 0), none⟩, 
    ⟨some 9, .len (.t 8), none⟩, 
    ⟨some 10, .move false (.c (.int .i64 0)), none⟩]) (
  .block 0 (.loop (.seq (.region [
    ⟨some 11, .bin .lss (.t 10) (.t 9), none⟩]) (
  .seq (.cond (.t 11) (.skip) (.exit 0)) (
  .seq (.block 1 (.seq (.region [
    ⟨some 12, .move false (.t 10), none⟩, 
    ⟨some 13, .iaddr 2 (.t 8) (.t 10), none⟩, 
    ⟨some 14, .load 2 true 2 (.t 13), none⟩, 
    ⟨some 4, .alloc false [(.int .i64 0), (.int .i64 0)], none⟩, 
    ⟨some 3, .move false (.t 12), none⟩, 
    ⟨none, .store 2 (.t 4) (.t 14), none⟩]) (
  .seq (.seq (.region [
    ⟨some 15, .faddr 0 (.t 4), none⟩, 
    ⟨some 16, .load 2 false 1 (.t 15), none⟩, 
    ⟨some 17, .call true F.grid_on [(.t 16)], none⟩, 
    ⟨some 18, .un .not (.t 17), none⟩, 
    ⟨some 19, .move false (.t 18), none⟩, 
    ⟨some 20, .faddr 1 (.t 4), (some (19, false))⟩, 
    ⟨some 21, .load 2 false 1 (.t 20), (some (19, false))⟩, 
    ⟨some 22, .call true F.grid_on [(.t 21)], (some (19, false))⟩, 
    ⟨some 23, .un .not (.t 22), (some (19, false))⟩, 
    ⟨some 24, .pick (.t 19) (.c (.bool true)) (.t 23), none⟩]) (
  .cond (.t 24) (.seq (.region [
    ⟨some 2, .move false (.c (.int .i64 17)), none⟩]) (
  .ret)) (.skip))) (
  .seq (.drawn [0, 1, 2, 3, 4, 5, 6, 7, 8, 9, 10, 11] [0, 1, 3, 7, 7, 23, 63, 127, 7, 511, 1023, 2047] [
    ⟨some 25, .move false (.t 3), none⟩, 
    ⟨some 26, .bin .gtr (.t 25) (.c (.int .i64 0)), none⟩, 
    ⟨some 27, .move false (.t 26), none⟩, 
    ⟨some 28, .move false (.t 0), (some (27, true))⟩, 
    ⟨some 29, .move false (.t 3), (some (27, true))⟩, 
    ⟨some 30, .bin .sub (.t 29) (.c (.int .i64 1)), (some (27, true))⟩, 
    ⟨some 31, .iaddr 2 (.t 28) (.t 30), (some (27, true))⟩, 
    ⟨some 32, .load 0 true 2 (.t 31), (some (27, true))⟩, 
    ⟨some 33, .load 1 true 2 (.t 4), (some (27, true))⟩, 
    ⟨some 34, .call false F.grid_order [(.t 32), (.t 33)], (some (27, true))⟩, 
    ⟨some 35, .bin .geq (.t 34) (.c (.int .i64 0)), (some (27, true))⟩, 
    ⟨some 36, .pick (.t 27) (.t 35) (.c (.bool false)), none⟩]) (
  .cond (.t 36) (.seq (.region [
    ⟨some 2, .move false (.c (.int .i64 9)), none⟩]) (
  .ret)) (.skip)))))) (
  .region [
    ⟨some 37, .bin .add (.t 10) (.c (.int .i64 1)), none⟩, 
    ⟨some 10, .move false (.t 37), none⟩]))))))) (
  .seq (.region [
    ⟨some 2, .move false (.c (.int .i64 0)), none⟩]) (
  .ret))))
def R.grid_Check : List ARes := [.t 2]
set_option maxRecDepth 100000 in
theorem K.grid_Check : ckFun Try.prog Try.f158 C.grid_Check R.grid_Check = true := by kernel_rfl
/-- gantry/grid.on -/
def C.grid_on : ACode :=
  .seq (.region [
    ⟨some 2, .move false (.c (.bool false)), none⟩]) (
  .seq (.region [
    ⟨some 3, .move false (.t 0), none⟩, 
    ⟨some 4, .bin .geq (.t 3) (.c (.int .i64 (-64))), none⟩, 
    ⟨some 5, .move false (.t 4), none⟩, 
    ⟨some 6, .move false (.t 0), (some (5, true))⟩, 
    ⟨some 7, .bin .lss (.t 6) (.c (.int .i64 64)), (some (5, true))⟩, 
    ⟨some 8, .pick (.t 5) (.t 7) (.c (.bool false)), none⟩, 
    ⟨some 2, .move false (.t 8), none⟩]) (
  .ret))
def R.grid_on : List ARes := [.t 2]
set_option maxRecDepth 100000 in
theorem K.grid_on : ckFun Try.prog Try.f197 C.grid_on R.grid_on = true := by kernel_rfl
/-- gantry/grid.order -/
def C.grid_order : ACode :=
  .seq (.region [
    ⟨some 2, .bx false (.t 0), none⟩, 
    ⟨some 3, .bx false (.t 1), none⟩, 
    ⟨some 4, .move false (.c (.int .i64 0)), none⟩]) (
  .seq (.seq (.region [
    ⟨some 6, .faddr 1 (.t 2), none⟩, 
    ⟨some 7, .load 2 false 1 (.t 6), none⟩, 
    ⟨some 8, .faddr 1 (.t 3), none⟩, 
    ⟨some 9, .load 2 false 1 (.t 8), none⟩, 
    ⟨some 10, .call true F.cmp_Compare_int [(.t 7), (.t 9)], none⟩, 
    ⟨some 5, .move false (.t 10), none⟩]) (
  .seq (.region [
    ⟨some 11, .move false (.t 5), none⟩, 
    ⟨some 12, .bin .neq (.t 11) (.c (.int .i64 0)), none⟩]) (
  .cond (.t 12) (.seq (.region [
    ⟨some 13, .move false (.t 5), none⟩, 
    ⟨some 4, .move false (.t 13), none⟩]) (
  .ret)) (.skip)))) (
  .seq (.region [
    ⟨some 14, .faddr 0 (.t 2), none⟩, 
    ⟨some 15, .load 2 false 1 (.t 14), none⟩, 
    ⟨some 16, .faddr 0 (.t 3), none⟩, 
    ⟨some 17, .load 2 false 1 (.t 16), none⟩, 
    ⟨some 18, .call true F.cmp_Compare_int [(.t 15), (.t 17)], none⟩, 
    ⟨some 4, .move false (.t 18), none⟩]) (
  .ret)))
def R.grid_order : List ARes := [.t 4]
set_option maxRecDepth 100000 in
theorem K.grid_order : ckFun Try.prog Try.f198 C.grid_order R.grid_order = true := by kernel_rfl
/-- cmp.Compare[int] -/
def C.cmp_Compare_int : ACode :=
  .seq (.region [
    ⟨some 4, .move false (.c (.int .i64 0)), none⟩]) (
  .seq (.region [
    ⟨some 7, .move false (.t 0), none⟩, 
    ⟨some 8, .call true F.cmp_isNaN_int [(.t 7)], none⟩, 
    ⟨some 5, .move false (.t 8), none⟩]) (
  .seq (.region [
    ⟨some 9, .move false (.t 1), none⟩, 
    ⟨some 10, .call true F.cmp_isNaN_int [(.t 9)], none⟩, 
    ⟨some 6, .move false (.t 10), none⟩]) (
  .seq (.seq (.region [
    ⟨some 11, .move false (.t 5), none⟩]) (
  .cond (.t 11) (.seq (.seq (.region [
    ⟨some 12, .move false (.t 6), none⟩]) (
  .cond (.t 12) (.seq (.region [
    ⟨some 4, .move false (.c (.int .i64 0)), none⟩]) (
  .ret)) (.skip))) (
  .seq (.region [
    ⟨some 4, .move false (.c (.int .i64 (-1))), none⟩]) (
  .ret))) (.skip))) (
  .seq (.seq (.region [
    ⟨some 13, .move false (.t 6), none⟩]) (
  .cond (.t 13) (.seq (.region [
    ⟨some 4, .move false (.c (.int .i64 1)), none⟩]) (
  .ret)) (.skip))) (
  .seq (.seq (.region [
    ⟨some 14, .move false (.t 0), none⟩, 
    ⟨some 15, .move false (.t 1), none⟩, 
    ⟨some 16, .bin .lss (.t 14) (.t 15), none⟩]) (
  .cond (.t 16) (.seq (.region [
    ⟨some 4, .move false (.c (.int .i64 (-1))), none⟩]) (
  .ret)) (.skip))) (
  .seq (.seq (.region [
    ⟨some 17, .move false (.t 0), none⟩, 
    ⟨some 18, .move false (.t 1), none⟩, 
    ⟨some 19, .bin .gtr (.t 17) (.t 18), none⟩]) (
  .cond (.t 19) (.seq (.region [
    ⟨some 4, .move false (.c (.int .i64 1)), none⟩]) (
  .ret)) (.skip))) (
  .seq (.region [
    ⟨some 4, .move false (.c (.int .i64 0)), none⟩]) (
  .ret))))))))
def R.cmp_Compare_int : List ARes := [.t 4]
set_option maxRecDepth 100000 in
theorem K.cmp_Compare_int : ckFun Try.prog Try.f215 C.cmp_Compare_int R.cmp_Compare_int = true := by kernel_rfl
/-- cmp.isNaN[int] -/
def C.cmp_isNaN_int : ACode :=
  .seq (.region [
    ⟨some 2, .move false (.c (.bool false)), none⟩]) (
  .seq (.region [
    ⟨some 3, .move false (.t 0), none⟩, 
    ⟨some 4, .move false (.t 0), none⟩, 
    ⟨some 5, .bin .neq (.t 3) (.t 4), none⟩, 
    ⟨some 2, .move false (.t 5), none⟩]) (
  .ret))
def R.cmp_isNaN_int : List ARes := [.t 2]
set_option maxRecDepth 100000 in
theorem K.cmp_isNaN_int : ckFun Try.prog Try.f230 C.cmp_isNaN_int R.cmp_isNaN_int = true := by kernel_rfl
/-- gantry/gantref5.MsgFault -/
def C.gantref5_MsgFault : ACode :=
  .seq (.region [
    ⟨some 1, .bx true (.t 0), none⟩, 
    ⟨some 2, .move false (.c (.int .i64 0)), none⟩]) (
  .seq (.seq (.region [
    ⟨some 3, .faddr 0 (.t 1), none⟩, 
    ⟨some 4, .load 2 false 1 (.t 3), none⟩, 
    ⟨some 5, .bin .lss (.t 4) (.c (.int .i64 0)), none⟩, 
    ⟨some 6, .move false (.t 5), none⟩, 
    ⟨some 7, .faddr 0 (.t 1), (some (6, false))⟩, 
    ⟨some 8, .load 2 false 1 (.t 7), (some (6, false))⟩, 
    ⟨some 9, .bin .gtr (.t 8) (.c (.int .i64 3)), (some (6, false))⟩, 
    ⟨some 10, .pick (.t 6) (.c (.bool true)) (.t 9), none⟩]) (
  .cond (.t 10) (.seq (.region [
    ⟨some 2, .move false (.c (.int .i64 1)), none⟩]) (
  .ret)) (.skip))) (
  .seq (.seq (.region [
    ⟨some 11, .faddr 1 (.t 1), none⟩, 
    ⟨some 12, .load 2 false 1 (.t 11), none⟩, 
    ⟨some 13, .bin .lss (.t 12) (.c (.int .i64 0)), none⟩, 
    ⟨some 14, .move false (.t 13), none⟩, 
    ⟨some 15, .faddr 1 (.t 1), (some (14, false))⟩, 
    ⟨some 16, .load 2 false 1 (.t 15), (some (14, false))⟩, 
    ⟨some 17, .bin .gtr (.t 16) (.c (.int .i64 4)), (some (14, false))⟩, 
    ⟨some 18, .pick (.t 14) (.c (.bool true)) (.t 17), none⟩, 
    ⟨some 19, .move false (.t 18), none⟩, 
    ⟨some 20, .faddr 2 (.t 1), (some (19, false))⟩, 
    ⟨some 21, .load 2 false 1 (.t 20), (some (19, false))⟩, 
    ⟨some 22, .bin .lss (.t 21) (.c (.int .i64 0)), (some (19, false))⟩, 
    ⟨some 23, .pick (.t 19) (.c (.bool true)) (.t 22), none⟩, 
    ⟨some 24, .move false (.t 23), none⟩, 
    ⟨some 25, .faddr 2 (.t 1), (some (24, false))⟩, 
    ⟨some 26, .load 2 false 1 (.t 25), (some (24, false))⟩, 
    ⟨some 27, .bin .gtr (.t 26) (.c (.int .i64 4)), (some (24, false))⟩, 
    ⟨some 28, .pick (.t 24) (.c (.bool true)) (.t 27), none⟩, 
    ⟨some 29, .move false (.t 28), none⟩, 
    ⟨some 30, .faddr 1 (.t 1), (some (29, false))⟩, 
    ⟨some 31, .load 2 false 1 (.t 30), (some (29, false))⟩, 
    ⟨some 32, .faddr 2 (.t 1), (some (29, false))⟩, 
    ⟨some 33, .load 2 false 1 (.t 32), (some (29, false))⟩, 
    ⟨some 34, .bin .eql (.t 31) (.t 33), (some (29, false))⟩, 
    ⟨some 35, .pick (.t 29) (.c (.bool true)) (.t 34), none⟩]) (
  .cond (.t 35) (.seq (.region [
    ⟨some 2, .move false (.c (.int .i64 16)), none⟩]) (
  .ret)) (.skip))) (
  .seq (.seq (.region [
    ⟨some 36, .faddr 3 (.t 1), none⟩, 
    ⟨some 37, .load 2 false 1 (.t 36), none⟩, 
    ⟨some 38, .bin .lss (.t 37) (.c (.int .i64 0)), none⟩, 
    ⟨some 39, .move false (.t 38), none⟩, 
    ⟨some 40, .faddr 3 (.t 1), (some (39, false))⟩, 
    ⟨some 41, .load 2 false 1 (.t 40), (some (39, false))⟩, 
    ⟨some 42, .bin .geq (.t 41) (.c (.int .i64 2147483648)), (some (39, false))⟩, 
    ⟨some 43, .pick (.t 39) (.c (.bool true)) (.t 42), none⟩]) (
  .cond (.t 43) (.seq (.region [
    ⟨some 2, .move false (.c (.int .i64 2)), none⟩]) (
  .ret)) (.skip))) (
  .seq (.seq (.region [
    ⟨some 44, .faddr 0 (.t 1), none⟩, 
    ⟨some 45, .load 2 false 1 (.t 44), none⟩, 
    ⟨some 46, .bin .eql (.t 45) (.c (.int .i64 3)), none⟩, 
    ⟨some 47, .move false (.t 46), none⟩, 
    ⟨some 48, .faddr 5 (.t 1), (some (47, true))⟩, 
    ⟨some 49, .load 2 false 1 (.t 48), (some (47, true))⟩, 
    ⟨some 50, .len (.t 49), (some (47, true))⟩, 
    ⟨some 51, .bin .neq (.t 50) (.c (.int .i64 0)), (some (47, true))⟩, 
    ⟨some 52, .pick (.t 47) (.t 51) (.c (.bool false)), none⟩]) (
  .cond (.t 52) (.seq (.region [
    ⟨some 2, .move false (.c (.int .i64 3)), none⟩]) (
  .ret)) (.skip))) (
  .seq (.region [
    ⟨some 2, .move false (.c (.int .i64 0)), none⟩]) (
  .ret))))))
def R.gantref5_MsgFault : List ARes := [.t 2]
set_option maxRecDepth 100000 in
theorem K.gantref5_MsgFault : ckFun Try.prog Try.f58 C.gantref5_MsgFault R.gantref5_MsgFault = true := by kernel_rfl
/-- gantry/gantref5.CellsFault -/
def C.gantref5_CellsFault : ACode :=
  .seq (.region [
    ⟨some 2, .move false (.c (.int .i64 0)), none⟩]) (
  .seq (.seq (.region [
    ⟨some 5, .move false (.t 0), none⟩, 
    ⟨some 6, .len (.t 5), none⟩, 
    ⟨some 7, .bin .gtr (.t 6) (.c (.int .i64 400)), none⟩]) (
  .cond (.t 7) (.seq (.region [
    ⟨some 2, .move false (.c (.int .i64 2)), none⟩]) (
  .ret)) (.skip))) (
  .seq (.seq (.region [
    ⟨some 8, .move false (.t 0), none⟩, 
    ⟨some 9, .len (.t 8), none⟩, 
    ⟨some 10, .move false (.c (.int .i64 0)), none⟩]) (
  .block 0 (.loop (.seq (.region [
    ⟨some 11, .bin .lss (.t 10) (.t 9), none⟩]) (
  .seq (.cond (.t 11) (.skip) (.exit 0)) (
  .seq (.block 1 (.seq (.region [
    ⟨some 12, .move false (.t 10), none⟩, 
    ⟨some 13, .iaddr 2 (.t 8) (.t 10), none⟩, 
    ⟨some 14, .load 2 true 2 (.t 13), none⟩, 
    ⟨some 4, .alloc false [(.int .i64 0), (.int .i64 0)], none⟩, 
    ⟨some 3, .move false (.t 12), none⟩, 
    ⟨none, .store 2 (.t 4) (.t 14), none⟩]) (
  .seq (.seq (.region [
    ⟨some 15, .faddr 0 (.t 4), none⟩, 
    ⟨some 16, .load 2 false 1 (.t 15), none⟩, 
    ⟨some 17, .bin .lss (.t 16) (.c (.int .i64 (-64))), none⟩, 
    ⟨some 18, .move false (.t 17), none⟩, 
    ⟨some 19, .faddr 0 (.t 4), (some (18, false))⟩, 
    ⟨some 20, .load 2 false 1 (.t 19), (some (18, false))⟩, 
    ⟨some 21, .bin .gtr (.t 20) (.c (.int .i64 63)), (some (18, false))⟩, 
    ⟨some 22, .pick (.t 18) (.c (.bool true)) (.t 21), none⟩, 
    ⟨some 23, .move false (.t 22), none⟩, 
    ⟨some 24, .faddr 1 (.t 4), (some (23, false))⟩, 
    ⟨some 25, .load 2 false 1 (.t 24), (some (23, false))⟩, 
    ⟨some 26, .bin .lss (.t 25) (.c (.int .i64 (-64))), (some (23, false))⟩, 
    ⟨some 27, .pick (.t 23) (.c (.bool true)) (.t 26), none⟩, 
    ⟨some 28, .move false (.t 27), none⟩, 
    ⟨some 29, .faddr 1 (.t 4), (some (28, false))⟩, 
    ⟨some 30, .load 2 false 1 (.t 29), (some (28, false))⟩, 
    ⟨some 31, .bin .gtr (.t 30) (.c (.int .i64 63)), (some (28, false))⟩, 
    ⟨some 32, .pick (.t 28) (.c (.bool true)) (.t 31), none⟩]) (
  .cond (.t 32) (.seq (.region [
    ⟨some 2, .move false (.c (.int .i64 17)), none⟩]) (
  .ret)) (.skip))) (
  .seq (.drawn [0, 1, 2, 3, 4, 5, 6, 7, 8, 9, 10, 11, 12, 13, 14, 15, 16, 17, 18, 19, 20, 21, 22, 23, 24, 25, 26, 27, 28, 29, 30, 31, 32, 33, 34] [0, 1, 3, 7, 7, 23, 63, 127, 255, 7, 519, 2047, 4095, 8191, 8191, 24575, 65535, 131071, 262143, 8191, 532479, 2097151, 4194303, 8388607, 8388607, 25165823, 67108863, 134217727, 268435455, 8388607, 545259519, 2147483647, 4294967295, 8589934591, 17179869183] [
    ⟨some 33, .move false (.t 3), none⟩, 
    ⟨some 34, .bin .gtr (.t 33) (.c (.int .i64 0)), none⟩, 
    ⟨some 35, .move false (.t 34), none⟩, 
    ⟨some 36, .move false (.t 0), (some (35, true))⟩, 
    ⟨some 37, .move false (.t 3), (some (35, true))⟩, 
    ⟨some 38, .bin .sub (.t 37) (.c (.int .i64 1)), (some (35, true))⟩, 
    ⟨some 39, .iaddr 2 (.t 36) (.t 38), (some (35, true))⟩, 
    ⟨some 40, .faddr 1 (.t 39), (some (35, true))⟩, 
    ⟨some 41, .load 0 false 1 (.t 40), (some (35, true))⟩, 
    ⟨some 42, .faddr 1 (.t 4), (some (35, true))⟩, 
    ⟨some 43, .load 1 false 1 (.t 42), (some (35, true))⟩, 
    ⟨some 44, .bin .gtr (.t 41) (.t 43), (some (35, true))⟩, 
    ⟨some 45, .move false (.t 44), (some (35, true))⟩, 
    ⟨some 46, .move false (.t 0), (some (45, false))⟩, 
    ⟨some 47, .move false (.t 3), (some (45, false))⟩, 
    ⟨some 48, .bin .sub (.t 47) (.c (.int .i64 1)), (some (45, false))⟩, 
    ⟨some 49, .iaddr 2 (.t 46) (.t 48), (some (45, false))⟩, 
    ⟨some 50, .faddr 1 (.t 49), (some (45, false))⟩, 
    ⟨some 51, .load 0 false 1 (.t 50), (some (45, false))⟩, 
    ⟨some 52, .faddr 1 (.t 4), (some (45, false))⟩, 
    ⟨some 53, .load 1 false 1 (.t 52), (some (45, false))⟩, 
    ⟨some 54, .bin .eql (.t 51) (.t 53), (some (45, false))⟩, 
    ⟨some 55, .move false (.t 54), (some (45, false))⟩, 
    ⟨some 56, .move false (.t 0), (some (55, true))⟩, 
    ⟨some 57, .move false (.t 3), (some (55, true))⟩, 
    ⟨some 58, .bin .sub (.t 57) (.c (.int .i64 1)), (some (55, true))⟩, 
    ⟨some 59, .iaddr 2 (.t 56) (.t 58), (some (55, true))⟩, 
    ⟨some 60, .faddr 0 (.t 59), (some (55, true))⟩, 
    ⟨some 61, .load 0 false 1 (.t 60), (some (55, true))⟩, 
    ⟨some 62, .faddr 0 (.t 4), (some (55, true))⟩, 
    ⟨some 63, .load 1 false 1 (.t 62), (some (55, true))⟩, 
    ⟨some 64, .bin .geq (.t 61) (.t 63), (some (55, true))⟩, 
    ⟨some 65, .pick (.t 55) (.t 64) (.c (.bool false)), (some (45, false))⟩, 
    ⟨some 66, .pick (.t 45) (.c (.bool true)) (.t 65), (some (35, true))⟩, 
    ⟨some 67, .pick (.t 35) (.t 66) (.c (.bool false)), none⟩]) (
  .cond (.t 67) (.seq (.region [
    ⟨some 2, .move false (.c (.int .i64 9)), none⟩]) (
  .ret)) (.skip)))))) (
  .region [
    ⟨some 68, .bin .add (.t 10) (.c (.int .i64 1)), none⟩, 
    ⟨some 10, .move false (.t 68), none⟩]))))))) (
  .seq (.region [
    ⟨some 2, .move false (.c (.int .i64 0)), none⟩]) (
  .ret))))
def R.gantref5_CellsFault : List ARes := [.t 2]
set_option maxRecDepth 100000 in
theorem K.gantref5_CellsFault : ckFun Try.prog Try.f59 C.gantref5_CellsFault R.gantref5_CellsFault = true := by kernel_rfl
end Go.Proofs.Ytpdajkbfemcdlaa
/- Contracts: cells and messages are checked. -/
set_option linter.unusedSimpArgs false
set_option linter.unusedVariables false
set_option maxRecDepth 10000
namespace Go.Proofs.Ytpdajkbfemcdlaa
open Go.Ge
def cmpI (a b : Int) : Int := if a < b then -1 else if a > b then 1 else 0
def orderC (a b : Cell) : Int := if cmpI a.Y b.Y ≠ 0 then cmpI a.Y b.Y else cmpI a.X b.X
def cellLt (a b : Cell) : Prop := a.Y < b.Y ∨ a.Y = b.Y ∧ a.X < b.X
instance (a b : Cell) : Decidable (cellLt a b) := by unfold cellLt; exact inferInstance
theorem orderC_lt (a b : Cell) : orderC a b ≥ 0 ↔ ¬cellLt a b := by
  unfold orderC cmpI cellLt
  split <;> (repeat split) <;> (repeat split at *) <;> omega
def onG (n : Int) : Prop := -64 ≤ n ∧ n < 64
instance (n : Int) : Decidable (onG n) := by unfold onG; exact inferInstance
def cellsF : Option Cell → List Cell → Int
  | _, [] => 0
  | p, c :: r => if ¬onG c.X ∨ ¬onG c.Y then 17 else if (∃ q ∈ p, ¬cellLt q c) then 9 else cellsF (some c) r
/-- The fault of a set of cells. -/
def cellsFault (l : List Cell) : Int := if l.length > 400 then 2 else cellsF none l
def prevC (l : List Cell) (i : Nat) : Option Cell := if i = 0 then none else l[i - 1]?
theorem cellsF_step {l : List Cell} {i : Nat} (h : i < l.length) : cellsF (prevC l i) (l.drop i) = if ¬onG l[i].X ∨ ¬onG l[i].Y then 17 else if (∃ q ∈ prevC l i, ¬cellLt q l[i]) then 9 else cellsF (prevC l (i + 1)) (l.drop (i + 1)) := by
  rw [List.drop_eq_getElem_cons h, cellsF]
  have : prevC l (i + 1) = some l[i] := by unfold prevC; simp [h]
  rw [this]
def msgFault (m : Msg) : Int :=
  if m.Kind < 0 ∨ m.Kind > 3 then 1 else if m.From < 0 ∨ m.From > 4 ∨ m.To < 0 ∨ m.To > 4 ∨ m.From = m.To then 16
  else if m.Seq < 0 ∨ m.Seq > 2147483647 then 2 else if m.Kind = 3 ∧ m.Cells.length ≠ 0 then 3 else 0
/-- The fault of a message. -/
def checkF (m : Msg) : Int := if msgFault m ≠ 0 then msgFault m else cellsFault m.Cells
theorem isNaN_ok (a : Int) (h : List HObj) : ACalls Try.prog F.cmp_isNaN_int [.int .i64 a] h (fun r h' => r = .bool false ∧ h' = h) := by
  refine ACalls.of_aw Try.func230 K.cmp_isNaN_int (by simp [Try.f230]) ?_
  generalize hQ : retQ R.cmp_isNaN_int _ = Q
  simp (disch := first | assumption | omega) only [C.cmp_isNaN_int, go_sem, ↓reduceIte, Nat.reduceEqDiff, reduceCtorEq, Nat.reduceAdd, Nat.reduceLeDiff, Nat.reduceLT, wrapU32, reduceIte, Int.natCast_nonneg, Int.ofNat_lt, Int.ofNat_le, cond_true, cond_false, Int.reduceBEq, Int.reduceBNe, Int.reduceLT, Int.reduceLE, Int.reduceAdd, Int.reduceSub, Int.reduceMul, Int.reduceNeg, Int.reduceEq, Int.reduceNe, Nat.reduceMul, Nat.reduceSub, decide_true, decide_false, not_true_eq_false, not_false_eq_true, Bool.true_and, Bool.false_and, Bool.and_false, aggEq, scEq, hasSh, alS, List.filterMap_nil, int_beq, int_bne, eq_self]
  subst hQ
  simp (disch := first | assumption | omega) only [R.cmp_isNaN_int, go_sem, ↓reduceIte, Nat.reduceEqDiff, reduceCtorEq, Nat.reduceAdd, Nat.reduceLeDiff, Nat.reduceLT, wrapU32, reduceIte, Int.natCast_nonneg, Int.ofNat_lt, Int.ofNat_le, cond_true, cond_false, Int.reduceBEq, Int.reduceBNe, Int.reduceLT, Int.reduceLE, Int.reduceAdd, Int.reduceSub, Int.reduceMul, Int.reduceNeg, Int.reduceEq, Int.reduceNe, Nat.reduceMul, Nat.reduceSub, decide_true, decide_false, not_true_eq_false, not_false_eq_true, Bool.true_and, Bool.false_and, Bool.and_false, aggEq, scEq, hasSh, alS, List.filterMap_nil, int_beq, int_bne, eq_self]
theorem Compare_ok (a b : Int) (h : List HObj) : ACalls Try.prog F.cmp_Compare_int [.int .i64 a, .int .i64 b] h (fun r h' => r = .int .i64 (cmpI a b) ∧ h' = h) := by
  refine ACalls.of_aw Try.func215 K.cmp_Compare_int (by simp [Try.f215]) ?_
  generalize hQ : retQ R.cmp_Compare_int _ = Q
  simp (disch := first | assumption | omega) only [C.cmp_Compare_int, go_sem, ↓reduceIte, Nat.reduceEqDiff, reduceCtorEq, Nat.reduceAdd, Nat.reduceLeDiff, Nat.reduceLT, wrapU32, reduceIte, Int.natCast_nonneg, Int.ofNat_lt, Int.ofNat_le, cond_true, cond_false, Int.reduceBEq, Int.reduceBNe, Int.reduceLT, Int.reduceLE, Int.reduceAdd, Int.reduceSub, Int.reduceMul, Int.reduceNeg, Int.reduceEq, Int.reduceNe, Nat.reduceMul, Nat.reduceSub, decide_true, decide_false, not_true_eq_false, not_false_eq_true, Bool.true_and, Bool.false_and, Bool.and_false, aggEq, scEq, hasSh, alS, List.filterMap_nil, int_beq, int_bne, eq_self]
  refine callG_ok (isNaN_ok a _) (by simp (disch := first | assumption | omega) only [go_sem, ↓reduceIte, Nat.reduceEqDiff, reduceCtorEq, Nat.reduceAdd, Nat.reduceLeDiff, Nat.reduceLT, wrapU32, reduceIte, Int.natCast_nonneg, Int.ofNat_lt, Int.ofNat_le, cond_true, cond_false, Int.reduceBEq, Int.reduceBNe, Int.reduceLT, Int.reduceLE, Int.reduceAdd, Int.reduceSub, Int.reduceMul, Int.reduceNeg, Int.reduceEq, Int.reduceNe, Nat.reduceMul, Nat.reduceSub, decide_true, decide_false, not_true_eq_false, not_false_eq_true, Bool.true_and, Bool.false_and, Bool.and_false, aggEq, scEq, hasSh, alS, List.filterMap_nil, int_beq, int_bne, eq_self]) ?_
  rintro _ _ ⟨rfl, hhh⟩
  try rw [hhh]
  clear hhh
  simp (disch := first | assumption | omega) only [go_sem, ↓reduceIte, Nat.reduceEqDiff, reduceCtorEq, Nat.reduceAdd, Nat.reduceLeDiff, Nat.reduceLT, wrapU32, reduceIte, Int.natCast_nonneg, Int.ofNat_lt, Int.ofNat_le, cond_true, cond_false, Int.reduceBEq, Int.reduceBNe, Int.reduceLT, Int.reduceLE, Int.reduceAdd, Int.reduceSub, Int.reduceMul, Int.reduceNeg, Int.reduceEq, Int.reduceNe, Nat.reduceMul, Nat.reduceSub, decide_true, decide_false, not_true_eq_false, not_false_eq_true, Bool.true_and, Bool.false_and, Bool.and_false, aggEq, scEq, hasSh, alS, List.filterMap_nil, int_beq, int_bne, eq_self]
  refine callG_ok (isNaN_ok b _) (by simp (disch := first | assumption | omega) only [go_sem, ↓reduceIte, Nat.reduceEqDiff, reduceCtorEq, Nat.reduceAdd, Nat.reduceLeDiff, Nat.reduceLT, wrapU32, reduceIte, Int.natCast_nonneg, Int.ofNat_lt, Int.ofNat_le, cond_true, cond_false, Int.reduceBEq, Int.reduceBNe, Int.reduceLT, Int.reduceLE, Int.reduceAdd, Int.reduceSub, Int.reduceMul, Int.reduceNeg, Int.reduceEq, Int.reduceNe, Nat.reduceMul, Nat.reduceSub, decide_true, decide_false, not_true_eq_false, not_false_eq_true, Bool.true_and, Bool.false_and, Bool.and_false, aggEq, scEq, hasSh, alS, List.filterMap_nil, int_beq, int_bne, eq_self]) ?_
  rintro _ _ ⟨rfl, hhh⟩
  try rw [hhh]
  clear hhh
  simp (disch := first | assumption | omega) only [go_sem, ↓reduceIte, Nat.reduceEqDiff, reduceCtorEq, Nat.reduceAdd, Nat.reduceLeDiff, Nat.reduceLT, wrapU32, reduceIte, Int.natCast_nonneg, Int.ofNat_lt, Int.ofNat_le, cond_true, cond_false, Int.reduceBEq, Int.reduceBNe, Int.reduceLT, Int.reduceLE, Int.reduceAdd, Int.reduceSub, Int.reduceMul, Int.reduceNeg, Int.reduceEq, Int.reduceNe, Nat.reduceMul, Nat.reduceSub, decide_true, decide_false, not_true_eq_false, not_false_eq_true, Bool.true_and, Bool.false_and, Bool.and_false, aggEq, scEq, hasSh, alS, List.filterMap_nil, int_beq, int_bne, eq_self]
  refine condG_if (fun hlt => ?_) fun hge => ?_
  · simp (disch := first | assumption | omega) only [go_sem, ↓reduceIte, Nat.reduceEqDiff, reduceCtorEq, Nat.reduceAdd, Nat.reduceLeDiff, Nat.reduceLT, wrapU32, reduceIte, Int.natCast_nonneg, Int.ofNat_lt, Int.ofNat_le, cond_true, cond_false, Int.reduceBEq, Int.reduceBNe, Int.reduceLT, Int.reduceLE, Int.reduceAdd, Int.reduceSub, Int.reduceMul, Int.reduceNeg, Int.reduceEq, Int.reduceNe, Nat.reduceMul, Nat.reduceSub, decide_true, decide_false, not_true_eq_false, not_false_eq_true, Bool.true_and, Bool.false_and, Bool.and_false, aggEq, scEq, hasSh, alS, List.filterMap_nil, int_beq, int_bne, eq_self]
    subst hQ
    simp (disch := first | assumption | omega) only [R.cmp_Compare_int, go_sem, ↓reduceIte, Nat.reduceEqDiff, reduceCtorEq, Nat.reduceAdd, Nat.reduceLeDiff, Nat.reduceLT, wrapU32, reduceIte, Int.natCast_nonneg, Int.ofNat_lt, Int.ofNat_le, cond_true, cond_false, Int.reduceBEq, Int.reduceBNe, Int.reduceLT, Int.reduceLE, Int.reduceAdd, Int.reduceSub, Int.reduceMul, Int.reduceNeg, Int.reduceEq, Int.reduceNe, Nat.reduceMul, Nat.reduceSub, decide_true, decide_false, not_true_eq_false, not_false_eq_true, Bool.true_and, Bool.false_and, Bool.and_false, aggEq, scEq, hasSh, alS, List.filterMap_nil, int_beq, int_bne, eq_self]
    rw [cmpI, if_pos hlt]
  · simp (disch := first | assumption | omega) only [go_sem, ↓reduceIte, Nat.reduceEqDiff, reduceCtorEq, Nat.reduceAdd, Nat.reduceLeDiff, Nat.reduceLT, wrapU32, reduceIte, Int.natCast_nonneg, Int.ofNat_lt, Int.ofNat_le, cond_true, cond_false, Int.reduceBEq, Int.reduceBNe, Int.reduceLT, Int.reduceLE, Int.reduceAdd, Int.reduceSub, Int.reduceMul, Int.reduceNeg, Int.reduceEq, Int.reduceNe, Nat.reduceMul, Nat.reduceSub, decide_true, decide_false, not_true_eq_false, not_false_eq_true, Bool.true_and, Bool.false_and, Bool.and_false, aggEq, scEq, hasSh, alS, List.filterMap_nil, int_beq, int_bne, eq_self]
    refine condG_if (fun hlt2 => ?_) fun hge2 => ?_
    · simp (disch := first | assumption | omega) only [go_sem, ↓reduceIte, Nat.reduceEqDiff, reduceCtorEq, Nat.reduceAdd, Nat.reduceLeDiff, Nat.reduceLT, wrapU32, reduceIte, Int.natCast_nonneg, Int.ofNat_lt, Int.ofNat_le, cond_true, cond_false, Int.reduceBEq, Int.reduceBNe, Int.reduceLT, Int.reduceLE, Int.reduceAdd, Int.reduceSub, Int.reduceMul, Int.reduceNeg, Int.reduceEq, Int.reduceNe, Nat.reduceMul, Nat.reduceSub, decide_true, decide_false, not_true_eq_false, not_false_eq_true, Bool.true_and, Bool.false_and, Bool.and_false, aggEq, scEq, hasSh, alS, List.filterMap_nil, int_beq, int_bne, eq_self]
      subst hQ
      simp (disch := first | assumption | omega) only [R.cmp_Compare_int, go_sem, ↓reduceIte, Nat.reduceEqDiff, reduceCtorEq, Nat.reduceAdd, Nat.reduceLeDiff, Nat.reduceLT, wrapU32, reduceIte, Int.natCast_nonneg, Int.ofNat_lt, Int.ofNat_le, cond_true, cond_false, Int.reduceBEq, Int.reduceBNe, Int.reduceLT, Int.reduceLE, Int.reduceAdd, Int.reduceSub, Int.reduceMul, Int.reduceNeg, Int.reduceEq, Int.reduceNe, Nat.reduceMul, Nat.reduceSub, decide_true, decide_false, not_true_eq_false, not_false_eq_true, Bool.true_and, Bool.false_and, Bool.and_false, aggEq, scEq, hasSh, alS, List.filterMap_nil, int_beq, int_bne, eq_self]
      rw [cmpI, if_neg hge, if_pos hlt2]
    · simp (disch := first | assumption | omega) only [go_sem, ↓reduceIte, Nat.reduceEqDiff, reduceCtorEq, Nat.reduceAdd, Nat.reduceLeDiff, Nat.reduceLT, wrapU32, reduceIte, Int.natCast_nonneg, Int.ofNat_lt, Int.ofNat_le, cond_true, cond_false, Int.reduceBEq, Int.reduceBNe, Int.reduceLT, Int.reduceLE, Int.reduceAdd, Int.reduceSub, Int.reduceMul, Int.reduceNeg, Int.reduceEq, Int.reduceNe, Nat.reduceMul, Nat.reduceSub, decide_true, decide_false, not_true_eq_false, not_false_eq_true, Bool.true_and, Bool.false_and, Bool.and_false, aggEq, scEq, hasSh, alS, List.filterMap_nil, int_beq, int_bne, eq_self]
      subst hQ
      simp (disch := first | assumption | omega) only [R.cmp_Compare_int, go_sem, ↓reduceIte, Nat.reduceEqDiff, reduceCtorEq, Nat.reduceAdd, Nat.reduceLeDiff, Nat.reduceLT, wrapU32, reduceIte, Int.natCast_nonneg, Int.ofNat_lt, Int.ofNat_le, cond_true, cond_false, Int.reduceBEq, Int.reduceBNe, Int.reduceLT, Int.reduceLE, Int.reduceAdd, Int.reduceSub, Int.reduceMul, Int.reduceNeg, Int.reduceEq, Int.reduceNe, Nat.reduceMul, Nat.reduceSub, decide_true, decide_false, not_true_eq_false, not_false_eq_true, Bool.true_and, Bool.false_and, Bool.and_false, aggEq, scEq, hasSh, alS, List.filterMap_nil, int_beq, int_bne, eq_self]
      rw [cmpI, if_neg hge, if_neg hge2]
theorem order_ok (a b : Cell) (h : List HObj) : ACalls Try.prog F.grid_order [cellA a, cellA b] h (fun r h' => r = .int .i64 (orderC a b) ∧ h' = h) := by
  refine ACalls.of_aw Try.func198 K.grid_order (by simp [Try.f198]) ?_
  generalize hQ : retQ R.grid_order _ = Q
  simp (disch := first | assumption | omega) only [C.grid_order, go_sem, ↓reduceIte, Nat.reduceEqDiff, reduceCtorEq, Nat.reduceAdd, Nat.reduceLeDiff, Nat.reduceLT, wrapU32, reduceIte, Int.natCast_nonneg, Int.ofNat_lt, Int.ofNat_le, cond_true, cond_false, Int.reduceBEq, Int.reduceBNe, Int.reduceLT, Int.reduceLE, Int.reduceAdd, Int.reduceSub, Int.reduceMul, Int.reduceNeg, Int.reduceEq, Int.reduceNe, Nat.reduceMul, Nat.reduceSub, decide_true, decide_false, not_true_eq_false, not_false_eq_true, Bool.true_and, Bool.false_and, Bool.and_false, aggEq, scEq, hasSh, alS, List.filterMap_nil, int_beq, int_bne, eq_self]
  simp (disch := first | assumption | omega) only [cellA, go_sem, ↓reduceIte, Nat.reduceEqDiff, reduceCtorEq, Nat.reduceAdd, Nat.reduceLeDiff, Nat.reduceLT, wrapU32, reduceIte, Int.natCast_nonneg, Int.ofNat_lt, Int.ofNat_le, cond_true, cond_false, Int.reduceBEq, Int.reduceBNe, Int.reduceLT, Int.reduceLE, Int.reduceAdd, Int.reduceSub, Int.reduceMul, Int.reduceNeg, Int.reduceEq, Int.reduceNe, Nat.reduceMul, Nat.reduceSub, decide_true, decide_false, not_true_eq_false, not_false_eq_true, Bool.true_and, Bool.false_and, Bool.and_false, aggEq, scEq, hasSh, alS, List.filterMap_nil, int_beq, int_bne, eq_self]
  refine callG_ok (Compare_ok a.Y b.Y _) (by simp (disch := first | assumption | omega) only [go_sem, ↓reduceIte, Nat.reduceEqDiff, reduceCtorEq, Nat.reduceAdd, Nat.reduceLeDiff, Nat.reduceLT, wrapU32, reduceIte, Int.natCast_nonneg, Int.ofNat_lt, Int.ofNat_le, cond_true, cond_false, Int.reduceBEq, Int.reduceBNe, Int.reduceLT, Int.reduceLE, Int.reduceAdd, Int.reduceSub, Int.reduceMul, Int.reduceNeg, Int.reduceEq, Int.reduceNe, Nat.reduceMul, Nat.reduceSub, decide_true, decide_false, not_true_eq_false, not_false_eq_true, Bool.true_and, Bool.false_and, Bool.and_false, aggEq, scEq, hasSh, alS, List.filterMap_nil, int_beq, int_bne, eq_self]) ?_
  rintro _ _ ⟨rfl, hhh⟩
  try rw [hhh]
  clear hhh
  simp (disch := first | assumption | omega) only [go_sem, ↓reduceIte, Nat.reduceEqDiff, reduceCtorEq, Nat.reduceAdd, Nat.reduceLeDiff, Nat.reduceLT, wrapU32, reduceIte, Int.natCast_nonneg, Int.ofNat_lt, Int.ofNat_le, cond_true, cond_false, Int.reduceBEq, Int.reduceBNe, Int.reduceLT, Int.reduceLE, Int.reduceAdd, Int.reduceSub, Int.reduceMul, Int.reduceNeg, Int.reduceEq, Int.reduceNe, Nat.reduceMul, Nat.reduceSub, decide_true, decide_false, not_true_eq_false, not_false_eq_true, Bool.true_and, Bool.false_and, Bool.and_false, aggEq, scEq, hasSh, alS, List.filterMap_nil, int_beq, int_bne, eq_self]
  refine condG_ifn (fun hb => ?_) fun hb => ?_
  · simp (disch := first | assumption | omega) only [go_sem, ↓reduceIte, Nat.reduceEqDiff, reduceCtorEq, Nat.reduceAdd, Nat.reduceLeDiff, Nat.reduceLT, wrapU32, reduceIte, Int.natCast_nonneg, Int.ofNat_lt, Int.ofNat_le, cond_true, cond_false, Int.reduceBEq, Int.reduceBNe, Int.reduceLT, Int.reduceLE, Int.reduceAdd, Int.reduceSub, Int.reduceMul, Int.reduceNeg, Int.reduceEq, Int.reduceNe, Nat.reduceMul, Nat.reduceSub, decide_true, decide_false, not_true_eq_false, not_false_eq_true, Bool.true_and, Bool.false_and, Bool.and_false, aggEq, scEq, hasSh, alS, List.filterMap_nil, int_beq, int_bne, eq_self]
    subst hQ
    simp (disch := first | assumption | omega) only [R.grid_order, go_sem, ↓reduceIte, Nat.reduceEqDiff, reduceCtorEq, Nat.reduceAdd, Nat.reduceLeDiff, Nat.reduceLT, wrapU32, reduceIte, Int.natCast_nonneg, Int.ofNat_lt, Int.ofNat_le, cond_true, cond_false, Int.reduceBEq, Int.reduceBNe, Int.reduceLT, Int.reduceLE, Int.reduceAdd, Int.reduceSub, Int.reduceMul, Int.reduceNeg, Int.reduceEq, Int.reduceNe, Nat.reduceMul, Nat.reduceSub, decide_true, decide_false, not_true_eq_false, not_false_eq_true, Bool.true_and, Bool.false_and, Bool.and_false, aggEq, scEq, hasSh, alS, List.filterMap_nil, int_beq, int_bne, eq_self]
    rw [orderC, if_pos hb]
  · simp (disch := first | assumption | omega) only [go_sem, ↓reduceIte, Nat.reduceEqDiff, reduceCtorEq, Nat.reduceAdd, Nat.reduceLeDiff, Nat.reduceLT, wrapU32, reduceIte, Int.natCast_nonneg, Int.ofNat_lt, Int.ofNat_le, cond_true, cond_false, Int.reduceBEq, Int.reduceBNe, Int.reduceLT, Int.reduceLE, Int.reduceAdd, Int.reduceSub, Int.reduceMul, Int.reduceNeg, Int.reduceEq, Int.reduceNe, Nat.reduceMul, Nat.reduceSub, decide_true, decide_false, not_true_eq_false, not_false_eq_true, Bool.true_and, Bool.false_and, Bool.and_false, aggEq, scEq, hasSh, alS, List.filterMap_nil, int_beq, int_bne, eq_self]
    refine callG_ok (Compare_ok a.X b.X _) (by simp (disch := first | assumption | omega) only [go_sem, ↓reduceIte, Nat.reduceEqDiff, reduceCtorEq, Nat.reduceAdd, Nat.reduceLeDiff, Nat.reduceLT, wrapU32, reduceIte, Int.natCast_nonneg, Int.ofNat_lt, Int.ofNat_le, cond_true, cond_false, Int.reduceBEq, Int.reduceBNe, Int.reduceLT, Int.reduceLE, Int.reduceAdd, Int.reduceSub, Int.reduceMul, Int.reduceNeg, Int.reduceEq, Int.reduceNe, Nat.reduceMul, Nat.reduceSub, decide_true, decide_false, not_true_eq_false, not_false_eq_true, Bool.true_and, Bool.false_and, Bool.and_false, aggEq, scEq, hasSh, alS, List.filterMap_nil, int_beq, int_bne, eq_self]) ?_
    rintro _ _ ⟨rfl, hhh⟩
    try rw [hhh]
    clear hhh
    simp (disch := first | assumption | omega) only [go_sem, ↓reduceIte, Nat.reduceEqDiff, reduceCtorEq, Nat.reduceAdd, Nat.reduceLeDiff, Nat.reduceLT, wrapU32, reduceIte, Int.natCast_nonneg, Int.ofNat_lt, Int.ofNat_le, cond_true, cond_false, Int.reduceBEq, Int.reduceBNe, Int.reduceLT, Int.reduceLE, Int.reduceAdd, Int.reduceSub, Int.reduceMul, Int.reduceNeg, Int.reduceEq, Int.reduceNe, Nat.reduceMul, Nat.reduceSub, decide_true, decide_false, not_true_eq_false, not_false_eq_true, Bool.true_and, Bool.false_and, Bool.and_false, aggEq, scEq, hasSh, alS, List.filterMap_nil, int_beq, int_bne, eq_self]
    subst hQ
    simp (disch := first | assumption | omega) only [R.grid_order, go_sem, ↓reduceIte, Nat.reduceEqDiff, reduceCtorEq, Nat.reduceAdd, Nat.reduceLeDiff, Nat.reduceLT, wrapU32, reduceIte, Int.natCast_nonneg, Int.ofNat_lt, Int.ofNat_le, cond_true, cond_false, Int.reduceBEq, Int.reduceBNe, Int.reduceLT, Int.reduceLE, Int.reduceAdd, Int.reduceSub, Int.reduceMul, Int.reduceNeg, Int.reduceEq, Int.reduceNe, Nat.reduceMul, Nat.reduceSub, decide_true, decide_false, not_true_eq_false, not_false_eq_true, Bool.true_and, Bool.false_and, Bool.and_false, aggEq, scEq, hasSh, alS, List.filterMap_nil, int_beq, int_bne, eq_self]
    rw [orderC, if_neg (by simp [hb])]
theorem on_ok (n : Int) (h : List HObj) : ACalls Try.prog F.grid_on [.int .i64 n] h (fun r h' => r = .bool (decide (onG n)) ∧ h' = h) := by
  refine ACalls.of_aw Try.func197 K.grid_on (by simp [Try.f197]) ?_
  generalize hQ : retQ R.grid_on _ = Q
  simp (disch := first | assumption | omega) only [C.grid_on, go_sem, ↓reduceIte, Nat.reduceEqDiff, reduceCtorEq, Nat.reduceAdd, Nat.reduceLeDiff, Nat.reduceLT, wrapU32, reduceIte, Int.natCast_nonneg, Int.ofNat_lt, Int.ofNat_le, cond_true, cond_false, Int.reduceBEq, Int.reduceBNe, Int.reduceLT, Int.reduceLE, Int.reduceAdd, Int.reduceSub, Int.reduceMul, Int.reduceNeg, Int.reduceEq, Int.reduceNe, Nat.reduceMul, Nat.reduceSub, decide_true, decide_false, not_true_eq_false, not_false_eq_true, Bool.true_and, Bool.false_and, Bool.and_false, aggEq, scEq, hasSh, alS, List.filterMap_nil, int_beq, int_bne, eq_self]
  refine aopsG_if (fun h1 => ?_) fun h1 => ?_
  · simp (disch := first | assumption | omega) only [h1, go_sem, ↓reduceIte, Nat.reduceEqDiff, reduceCtorEq, Nat.reduceAdd, Nat.reduceLeDiff, Nat.reduceLT, wrapU32, reduceIte, Int.natCast_nonneg, Int.ofNat_lt, Int.ofNat_le, cond_true, cond_false, Int.reduceBEq, Int.reduceBNe, Int.reduceLT, Int.reduceLE, Int.reduceAdd, Int.reduceSub, Int.reduceMul, Int.reduceNeg, Int.reduceEq, Int.reduceNe, Nat.reduceMul, Nat.reduceSub, decide_true, decide_false, not_true_eq_false, not_false_eq_true, Bool.true_and, Bool.false_and, Bool.and_false, aggEq, scEq, hasSh, alS, List.filterMap_nil, int_beq, int_bne, eq_self]
    subst hQ
    simp (disch := first | assumption | omega) only [R.grid_on, go_sem, ↓reduceIte, Nat.reduceEqDiff, reduceCtorEq, Nat.reduceAdd, Nat.reduceLeDiff, Nat.reduceLT, wrapU32, reduceIte, Int.natCast_nonneg, Int.ofNat_lt, Int.ofNat_le, cond_true, cond_false, Int.reduceBEq, Int.reduceBNe, Int.reduceLT, Int.reduceLE, Int.reduceAdd, Int.reduceSub, Int.reduceMul, Int.reduceNeg, Int.reduceEq, Int.reduceNe, Nat.reduceMul, Nat.reduceSub, decide_true, decide_false, not_true_eq_false, not_false_eq_true, Bool.true_and, Bool.false_and, Bool.and_false, aggEq, scEq, hasSh, alS, List.filterMap_nil, int_beq, int_bne, eq_self]
    have : decide (n < 64) = decide (onG n) := by
      unfold onG; by_cases h2 : n < 64 <;> simp [h1, h2]
    rw [this]
  · simp (disch := first | assumption | omega) only [h1, go_sem, ↓reduceIte, Nat.reduceEqDiff, reduceCtorEq, Nat.reduceAdd, Nat.reduceLeDiff, Nat.reduceLT, wrapU32, reduceIte, Int.natCast_nonneg, Int.ofNat_lt, Int.ofNat_le, cond_true, cond_false, Int.reduceBEq, Int.reduceBNe, Int.reduceLT, Int.reduceLE, Int.reduceAdd, Int.reduceSub, Int.reduceMul, Int.reduceNeg, Int.reduceEq, Int.reduceNe, Nat.reduceMul, Nat.reduceSub, decide_true, decide_false, not_true_eq_false, not_false_eq_true, Bool.true_and, Bool.false_and, Bool.and_false, aggEq, scEq, hasSh, alS, List.filterMap_nil, int_beq, int_bne, eq_self]
    subst hQ
    simp (disch := first | assumption | omega) only [R.grid_on, go_sem, ↓reduceIte, Nat.reduceEqDiff, reduceCtorEq, Nat.reduceAdd, Nat.reduceLeDiff, Nat.reduceLT, wrapU32, reduceIte, Int.natCast_nonneg, Int.ofNat_lt, Int.ofNat_le, cond_true, cond_false, Int.reduceBEq, Int.reduceBNe, Int.reduceLT, Int.reduceLE, Int.reduceAdd, Int.reduceSub, Int.reduceMul, Int.reduceNeg, Int.reduceEq, Int.reduceNe, Nat.reduceMul, Nat.reduceSub, decide_true, decide_false, not_true_eq_false, not_false_eq_true, Bool.true_and, Bool.false_and, Bool.and_false, aggEq, scEq, hasSh, alS, List.filterMap_nil, int_beq, int_bne, eq_self]
    have : ¬ onG n := by unfold onG; omega
    simp [this]
theorem gridCheck_ok (o : Own) (l : List Cell) (ho : Rdo o) (hl : l.length < 4611686018427387904) (h : List HObj) : ACalls Try.prog F.grid_Check [.lst o (cellsA l)] h (fun r h' => r = .int .i64 (cellsFault l) ∧ h' = h) := by
  refine ACalls.of_aw Try.func158 K.grid_Check (by simp [Try.f158]) ?_
  generalize hQ : retQ R.grid_Check _ = Q
  simp (disch := first | assumption | omega) only [C.grid_Check, go_sem, ↓reduceIte, Nat.reduceEqDiff, reduceCtorEq, Nat.reduceAdd, Nat.reduceLeDiff, Nat.reduceLT, wrapU32, reduceIte, Int.natCast_nonneg, Int.ofNat_lt, Int.ofNat_le, cond_true, cond_false, Int.reduceBEq, Int.reduceBNe, Int.reduceLT, Int.reduceLE, Int.reduceAdd, Int.reduceSub, Int.reduceMul, Int.reduceNeg, Int.reduceEq, Int.reduceNe, Nat.reduceMul, Nat.reduceSub, decide_true, decide_false, not_true_eq_false, not_false_eq_true, Bool.true_and, Bool.false_and, Bool.and_false, aggEq, scEq, hasSh, alS, List.filterMap_nil, int_beq, int_bne, eq_self]
  refine condG_if (fun h4 => ?_) fun h4 => ?_
  · simp (disch := first | assumption | omega) only [go_sem, ↓reduceIte, Nat.reduceEqDiff, reduceCtorEq, Nat.reduceAdd, Nat.reduceLeDiff, Nat.reduceLT, wrapU32, reduceIte, Int.natCast_nonneg, Int.ofNat_lt, Int.ofNat_le, cond_true, cond_false, Int.reduceBEq, Int.reduceBNe, Int.reduceLT, Int.reduceLE, Int.reduceAdd, Int.reduceSub, Int.reduceMul, Int.reduceNeg, Int.reduceEq, Int.reduceNe, Nat.reduceMul, Nat.reduceSub, decide_true, decide_false, not_true_eq_false, not_false_eq_true, Bool.true_and, Bool.false_and, Bool.and_false, aggEq, scEq, hasSh, alS, List.filterMap_nil, int_beq, int_bne, eq_self]
    subst hQ
    simp (disch := first | assumption | omega) only [R.grid_Check, go_sem, ↓reduceIte, Nat.reduceEqDiff, reduceCtorEq, Nat.reduceAdd, Nat.reduceLeDiff, Nat.reduceLT, wrapU32, reduceIte, Int.natCast_nonneg, Int.ofNat_lt, Int.ofNat_le, cond_true, cond_false, Int.reduceBEq, Int.reduceBNe, Int.reduceLT, Int.reduceLE, Int.reduceAdd, Int.reduceSub, Int.reduceMul, Int.reduceNeg, Int.reduceEq, Int.reduceNe, Nat.reduceMul, Nat.reduceSub, decide_true, decide_false, not_true_eq_false, not_false_eq_true, Bool.true_and, Bool.false_and, Bool.and_false, aggEq, scEq, hasSh, alS, List.filterMap_nil, int_beq, int_bne, eq_self]
    rw [cellsFault, if_pos (by omega)]
  · have h5 : ¬ l.length > 400 := by omega
    simp (disch := first | assumption | omega) only [go_sem, ↓reduceIte, Nat.reduceEqDiff, reduceCtorEq, Nat.reduceAdd, Nat.reduceLeDiff, Nat.reduceLT, wrapU32, reduceIte, Int.natCast_nonneg, Int.ofNat_lt, Int.ofNat_le, cond_true, cond_false, Int.reduceBEq, Int.reduceBNe, Int.reduceLT, Int.reduceLE, Int.reduceAdd, Int.reduceSub, Int.reduceMul, Int.reduceNeg, Int.reduceEq, Int.reduceNe, Nat.reduceMul, Nat.reduceSub, decide_true, decide_false, not_true_eq_false, not_false_eq_true, Bool.true_and, Bool.false_and, Bool.and_false, aggEq, scEq, hasSh, alS, List.filterMap_nil, int_beq, int_bne, eq_self]
    refine aw_count (fun d S => ∃ (i : Nat), i + d = l.length ∧ S.env 10 = .int .i64 i ∧ S.env 9 = .int .i64 l.length ∧ S.env 8 = .lst o (cellsA l) ∧ S.env 0 = .lst o (cellsA l) ∧ cellsF none l = cellsF (prevC l i) (l.drop i) ∧ S.heap = h) (n := l.length) ⟨0, by simp [go_sem, prevC]⟩ ?_
    rintro d S ⟨i, hi, e10, e9, e8, e0, hf, eh⟩
    simp (disch := first | assumption | omega) only [e10, e9, e8, e0, eh, go_sem, ↓reduceIte, Nat.reduceEqDiff, reduceCtorEq, Nat.reduceAdd, Nat.reduceLeDiff, Nat.reduceLT, wrapU32, reduceIte, Int.natCast_nonneg, Int.ofNat_lt, Int.ofNat_le, cond_true, cond_false, Int.reduceBEq, Int.reduceBNe, Int.reduceLT, Int.reduceLE, Int.reduceAdd, Int.reduceSub, Int.reduceMul, Int.reduceNeg, Int.reduceEq, Int.reduceNe, Nat.reduceMul, Nat.reduceSub, decide_true, decide_false, not_true_eq_false, not_false_eq_true, Bool.true_and, Bool.false_and, Bool.and_false, aggEq, scEq, hasSh, alS, List.filterMap_nil, int_beq, int_bne, eq_self]
    refine condG_if (fun hlt => ?_) fun hge => ?_
    · have hlt : i < l.length := by omega
      have hat := at_cells hlt
      rw [cellsF_step hlt] at hf
      simp (disch := first | assumption | omega) only [e10, e9, e8, e0, eh, hat, cellA, hlt, go_sem, ↓reduceIte, Nat.reduceEqDiff, reduceCtorEq, Nat.reduceAdd, Nat.reduceLeDiff, Nat.reduceLT, wrapU32, reduceIte, Int.natCast_nonneg, Int.ofNat_lt, Int.ofNat_le, cond_true, cond_false, Int.reduceBEq, Int.reduceBNe, Int.reduceLT, Int.reduceLE, Int.reduceAdd, Int.reduceSub, Int.reduceMul, Int.reduceNeg, Int.reduceEq, Int.reduceNe, Nat.reduceMul, Nat.reduceSub, decide_true, decide_false, not_true_eq_false, not_false_eq_true, Bool.true_and, Bool.false_and, Bool.and_false, aggEq, scEq, hasSh, alS, List.filterMap_nil, int_beq, int_bne, eq_self]
      by_cases hx : onG l[i].X
      · refine callG_ok (on_ok l[i].X _) (by simp (disch := first | assumption | omega) only [go_sem, ↓reduceIte, Nat.reduceEqDiff, reduceCtorEq, Nat.reduceAdd, Nat.reduceLeDiff, Nat.reduceLT, wrapU32, reduceIte, Int.natCast_nonneg, Int.ofNat_lt, Int.ofNat_le, cond_true, cond_false, Int.reduceBEq, Int.reduceBNe, Int.reduceLT, Int.reduceLE, Int.reduceAdd, Int.reduceSub, Int.reduceMul, Int.reduceNeg, Int.reduceEq, Int.reduceNe, Nat.reduceMul, Nat.reduceSub, decide_true, decide_false, not_true_eq_false, not_false_eq_true, Bool.true_and, Bool.false_and, Bool.and_false, aggEq, scEq, hasSh, alS, List.filterMap_nil, int_beq, int_bne, eq_self]) ?_
        rintro _ _ ⟨rfl, hhh⟩
        try rw [hhh]
        clear hhh
        simp (disch := first | assumption | omega) only [e10, e9, e8, e0, eh, hx, go_sem, ↓reduceIte, Nat.reduceEqDiff, reduceCtorEq, Nat.reduceAdd, Nat.reduceLeDiff, Nat.reduceLT, wrapU32, reduceIte, Int.natCast_nonneg, Int.ofNat_lt, Int.ofNat_le, cond_true, cond_false, Int.reduceBEq, Int.reduceBNe, Int.reduceLT, Int.reduceLE, Int.reduceAdd, Int.reduceSub, Int.reduceMul, Int.reduceNeg, Int.reduceEq, Int.reduceNe, Nat.reduceMul, Nat.reduceSub, decide_true, decide_false, not_true_eq_false, not_false_eq_true, Bool.true_and, Bool.false_and, Bool.and_false, aggEq, scEq, hasSh, alS, List.filterMap_nil, int_beq, int_bne, eq_self]
        by_cases hy : onG l[i].Y
        · refine callG_ok (on_ok l[i].Y _) (by simp (disch := first | assumption | omega) only [go_sem, ↓reduceIte, Nat.reduceEqDiff, reduceCtorEq, Nat.reduceAdd, Nat.reduceLeDiff, Nat.reduceLT, wrapU32, reduceIte, Int.natCast_nonneg, Int.ofNat_lt, Int.ofNat_le, cond_true, cond_false, Int.reduceBEq, Int.reduceBNe, Int.reduceLT, Int.reduceLE, Int.reduceAdd, Int.reduceSub, Int.reduceMul, Int.reduceNeg, Int.reduceEq, Int.reduceNe, Nat.reduceMul, Nat.reduceSub, decide_true, decide_false, not_true_eq_false, not_false_eq_true, Bool.true_and, Bool.false_and, Bool.and_false, aggEq, scEq, hasSh, alS, List.filterMap_nil, int_beq, int_bne, eq_self]) ?_
          rintro _ _ ⟨rfl, hhh⟩
          try rw [hhh]
          clear hhh
          simp (disch := first | assumption | omega) only [e10, e9, e8, e0, eh, hy, go_sem, ↓reduceIte, Nat.reduceEqDiff, reduceCtorEq, Nat.reduceAdd, Nat.reduceLeDiff, Nat.reduceLT, wrapU32, reduceIte, Int.natCast_nonneg, Int.ofNat_lt, Int.ofNat_le, cond_true, cond_false, Int.reduceBEq, Int.reduceBNe, Int.reduceLT, Int.reduceLE, Int.reduceAdd, Int.reduceSub, Int.reduceMul, Int.reduceNeg, Int.reduceEq, Int.reduceNe, Nat.reduceMul, Nat.reduceSub, decide_true, decide_false, not_true_eq_false, not_false_eq_true, Bool.true_and, Bool.false_and, Bool.and_false, aggEq, scEq, hasSh, alS, List.filterMap_nil, int_beq, int_bne, eq_self]
          rw [if_neg (by simp [hx, hy])] at hf
          refine aopsG_if (fun h0 => ?_) fun h0 => ?_
          · have hi0 := h0
            have h0 : 0 < i := by omega
            have hat2 := at_cells (l := l) (i := i - 1) (by omega)
            have ei : ((i - 1 : Nat) : Int) = (i : Int) - 1 := by omega
            rw [ei] at hat2
            have hp : prevC l i = some l[i - 1] := by unfold prevC; rw [if_neg (by omega), List.getElem?_eq_getElem (by omega)]
            have hlt2 : i - 1 < l.length := by omega
            simp (disch := first | assumption | omega) only [e10, e9, e8, e0, eh, hat2, h0, hi0, hlt2, cellA, go_sem, ↓reduceIte, Nat.reduceEqDiff, reduceCtorEq, Nat.reduceAdd, Nat.reduceLeDiff, Nat.reduceLT, wrapU32, reduceIte, Int.natCast_nonneg, Int.ofNat_lt, Int.ofNat_le, cond_true, cond_false, Int.reduceBEq, Int.reduceBNe, Int.reduceLT, Int.reduceLE, Int.reduceAdd, Int.reduceSub, Int.reduceMul, Int.reduceNeg, Int.reduceEq, Int.reduceNe, Nat.reduceMul, Nat.reduceSub, decide_true, decide_false, not_true_eq_false, not_false_eq_true, Bool.true_and, Bool.false_and, Bool.and_false, aggEq, scEq, hasSh, alS, List.filterMap_nil, int_beq, int_bne, eq_self]
            refine ⟨⟨by omega, by omega⟩, ?_⟩
            refine callG_ok (order_ok l[i - 1] l[i] _) (by simp (disch := first | assumption | omega) only [go_sem, ↓reduceIte, Nat.reduceEqDiff, reduceCtorEq, Nat.reduceAdd, Nat.reduceLeDiff, Nat.reduceLT, wrapU32, reduceIte, Int.natCast_nonneg, Int.ofNat_lt, Int.ofNat_le, cond_true, cond_false, Int.reduceBEq, Int.reduceBNe, Int.reduceLT, Int.reduceLE, Int.reduceAdd, Int.reduceSub, Int.reduceMul, Int.reduceNeg, Int.reduceEq, Int.reduceNe, Nat.reduceMul, Nat.reduceSub, decide_true, decide_false, not_true_eq_false, not_false_eq_true, Bool.true_and, Bool.false_and, Bool.and_false, aggEq, scEq, hasSh, alS, List.filterMap_nil, int_beq, int_bne, eq_self]) ?_
            rintro _ _ ⟨rfl, hhh⟩
            try rw [hhh]
            clear hhh
            simp (disch := first | assumption | omega) only [e10, e9, e8, e0, eh, go_sem, ↓reduceIte, Nat.reduceEqDiff, reduceCtorEq, Nat.reduceAdd, Nat.reduceLeDiff, Nat.reduceLT, wrapU32, reduceIte, Int.natCast_nonneg, Int.ofNat_lt, Int.ofNat_le, cond_true, cond_false, Int.reduceBEq, Int.reduceBNe, Int.reduceLT, Int.reduceLE, Int.reduceAdd, Int.reduceSub, Int.reduceMul, Int.reduceNeg, Int.reduceEq, Int.reduceNe, Nat.reduceMul, Nat.reduceSub, decide_true, decide_false, not_true_eq_false, not_false_eq_true, Bool.true_and, Bool.false_and, Bool.and_false, aggEq, scEq, hasSh, alS, List.filterMap_nil, int_beq, int_bne, eq_self]
            refine condG_if (fun hc => ?_) fun hc => ?_
            · simp (disch := first | assumption | omega) only [e10, e9, e8, e0, eh, go_sem, ↓reduceIte, Nat.reduceEqDiff, reduceCtorEq, Nat.reduceAdd, Nat.reduceLeDiff, Nat.reduceLT, wrapU32, reduceIte, Int.natCast_nonneg, Int.ofNat_lt, Int.ofNat_le, cond_true, cond_false, Int.reduceBEq, Int.reduceBNe, Int.reduceLT, Int.reduceLE, Int.reduceAdd, Int.reduceSub, Int.reduceMul, Int.reduceNeg, Int.reduceEq, Int.reduceNe, Nat.reduceMul, Nat.reduceSub, decide_true, decide_false, not_true_eq_false, not_false_eq_true, Bool.true_and, Bool.false_and, Bool.and_false, aggEq, scEq, hasSh, alS, List.filterMap_nil, int_beq, int_bne, eq_self]
              subst hQ
              simp (disch := first | assumption | omega) only [R.grid_Check, go_sem, ↓reduceIte, Nat.reduceEqDiff, reduceCtorEq, Nat.reduceAdd, Nat.reduceLeDiff, Nat.reduceLT, wrapU32, reduceIte, Int.natCast_nonneg, Int.ofNat_lt, Int.ofNat_le, cond_true, cond_false, Int.reduceBEq, Int.reduceBNe, Int.reduceLT, Int.reduceLE, Int.reduceAdd, Int.reduceSub, Int.reduceMul, Int.reduceNeg, Int.reduceEq, Int.reduceNe, Nat.reduceMul, Nat.reduceSub, decide_true, decide_false, not_true_eq_false, not_false_eq_true, Bool.true_and, Bool.false_and, Bool.and_false, aggEq, scEq, hasSh, alS, List.filterMap_nil, int_beq, int_bne, eq_self]
              rw [cellsFault, if_neg h5, hf, hp, if_pos ⟨_, rfl, (orderC_lt _ _).1 hc⟩]
              exact ⟨rfl, eh⟩
            · simp (disch := first | assumption | omega) only [e10, e9, e8, e0, eh, go_sem, ↓reduceIte, Nat.reduceEqDiff, reduceCtorEq, Nat.reduceAdd, Nat.reduceLeDiff, Nat.reduceLT, wrapU32, reduceIte, Int.natCast_nonneg, Int.ofNat_lt, Int.ofNat_le, cond_true, cond_false, Int.reduceBEq, Int.reduceBNe, Int.reduceLT, Int.reduceLE, Int.reduceAdd, Int.reduceSub, Int.reduceMul, Int.reduceNeg, Int.reduceEq, Int.reduceNe, Nat.reduceMul, Nat.reduceSub, decide_true, decide_false, not_true_eq_false, not_false_eq_true, Bool.true_and, Bool.false_and, Bool.and_false, aggEq, scEq, hasSh, alS, List.filterMap_nil, int_beq, int_bne, eq_self]
              rw [hp, if_neg (by rintro ⟨q, hq, hq2⟩; cases hq; exact hc ((orderC_lt _ _).2 hq2))] at hf
              exact ⟨d - 1, by omega, i + 1, by omega, by simp, hf⟩
          · have hp : prevC l i = none := by unfold prevC; rw [if_pos (by omega)]
            rw [hp, if_neg (by simp)] at hf
            simp (disch := first | assumption | omega) only [e10, e9, e8, e0, eh, h0, go_sem, ↓reduceIte, Nat.reduceEqDiff, reduceCtorEq, Nat.reduceAdd, Nat.reduceLeDiff, Nat.reduceLT, wrapU32, reduceIte, Int.natCast_nonneg, Int.ofNat_lt, Int.ofNat_le, cond_true, cond_false, Int.reduceBEq, Int.reduceBNe, Int.reduceLT, Int.reduceLE, Int.reduceAdd, Int.reduceSub, Int.reduceMul, Int.reduceNeg, Int.reduceEq, Int.reduceNe, Nat.reduceMul, Nat.reduceSub, decide_true, decide_false, not_true_eq_false, not_false_eq_true, Bool.true_and, Bool.false_and, Bool.and_false, aggEq, scEq, hasSh, alS, List.filterMap_nil, int_beq, int_bne, eq_self]
            exact ⟨d - 1, by omega, i + 1, by omega, by simp, hf⟩
        · refine callG_ok (on_ok l[i].Y _) (by simp (disch := first | assumption | omega) only [go_sem, ↓reduceIte, Nat.reduceEqDiff, reduceCtorEq, Nat.reduceAdd, Nat.reduceLeDiff, Nat.reduceLT, wrapU32, reduceIte, Int.natCast_nonneg, Int.ofNat_lt, Int.ofNat_le, cond_true, cond_false, Int.reduceBEq, Int.reduceBNe, Int.reduceLT, Int.reduceLE, Int.reduceAdd, Int.reduceSub, Int.reduceMul, Int.reduceNeg, Int.reduceEq, Int.reduceNe, Nat.reduceMul, Nat.reduceSub, decide_true, decide_false, not_true_eq_false, not_false_eq_true, Bool.true_and, Bool.false_and, Bool.and_false, aggEq, scEq, hasSh, alS, List.filterMap_nil, int_beq, int_bne, eq_self]) ?_
          rintro _ _ ⟨rfl, hhh⟩
          try rw [hhh]
          clear hhh
          simp (disch := first | assumption | omega) only [e10, e9, e8, e0, eh, hy, go_sem, ↓reduceIte, Nat.reduceEqDiff, reduceCtorEq, Nat.reduceAdd, Nat.reduceLeDiff, Nat.reduceLT, wrapU32, reduceIte, Int.natCast_nonneg, Int.ofNat_lt, Int.ofNat_le, cond_true, cond_false, Int.reduceBEq, Int.reduceBNe, Int.reduceLT, Int.reduceLE, Int.reduceAdd, Int.reduceSub, Int.reduceMul, Int.reduceNeg, Int.reduceEq, Int.reduceNe, Nat.reduceMul, Nat.reduceSub, decide_true, decide_false, not_true_eq_false, not_false_eq_true, Bool.true_and, Bool.false_and, Bool.and_false, aggEq, scEq, hasSh, alS, List.filterMap_nil, int_beq, int_bne, eq_self]
          subst hQ
          simp (disch := first | assumption | omega) only [R.grid_Check, go_sem, ↓reduceIte, Nat.reduceEqDiff, reduceCtorEq, Nat.reduceAdd, Nat.reduceLeDiff, Nat.reduceLT, wrapU32, reduceIte, Int.natCast_nonneg, Int.ofNat_lt, Int.ofNat_le, cond_true, cond_false, Int.reduceBEq, Int.reduceBNe, Int.reduceLT, Int.reduceLE, Int.reduceAdd, Int.reduceSub, Int.reduceMul, Int.reduceNeg, Int.reduceEq, Int.reduceNe, Nat.reduceMul, Nat.reduceSub, decide_true, decide_false, not_true_eq_false, not_false_eq_true, Bool.true_and, Bool.false_and, Bool.and_false, aggEq, scEq, hasSh, alS, List.filterMap_nil, int_beq, int_bne, eq_self]
          rw [cellsFault, if_neg h5, hf, if_pos (.inr hy)]
          exact ⟨rfl, eh⟩
      · refine callG_ok (on_ok l[i].X _) (by simp (disch := first | assumption | omega) only [go_sem, ↓reduceIte, Nat.reduceEqDiff, reduceCtorEq, Nat.reduceAdd, Nat.reduceLeDiff, Nat.reduceLT, wrapU32, reduceIte, Int.natCast_nonneg, Int.ofNat_lt, Int.ofNat_le, cond_true, cond_false, Int.reduceBEq, Int.reduceBNe, Int.reduceLT, Int.reduceLE, Int.reduceAdd, Int.reduceSub, Int.reduceMul, Int.reduceNeg, Int.reduceEq, Int.reduceNe, Nat.reduceMul, Nat.reduceSub, decide_true, decide_false, not_true_eq_false, not_false_eq_true, Bool.true_and, Bool.false_and, Bool.and_false, aggEq, scEq, hasSh, alS, List.filterMap_nil, int_beq, int_bne, eq_self]) ?_
        rintro _ _ ⟨rfl, hhh⟩
        try rw [hhh]
        clear hhh
        simp (disch := first | assumption | omega) only [e10, e9, e8, e0, eh, hx, go_sem, ↓reduceIte, Nat.reduceEqDiff, reduceCtorEq, Nat.reduceAdd, Nat.reduceLeDiff, Nat.reduceLT, wrapU32, reduceIte, Int.natCast_nonneg, Int.ofNat_lt, Int.ofNat_le, cond_true, cond_false, Int.reduceBEq, Int.reduceBNe, Int.reduceLT, Int.reduceLE, Int.reduceAdd, Int.reduceSub, Int.reduceMul, Int.reduceNeg, Int.reduceEq, Int.reduceNe, Nat.reduceMul, Nat.reduceSub, decide_true, decide_false, not_true_eq_false, not_false_eq_true, Bool.true_and, Bool.false_and, Bool.and_false, aggEq, scEq, hasSh, alS, List.filterMap_nil, int_beq, int_bne, eq_self]
        subst hQ
        simp (disch := first | assumption | omega) only [R.grid_Check, go_sem, ↓reduceIte, Nat.reduceEqDiff, reduceCtorEq, Nat.reduceAdd, Nat.reduceLeDiff, Nat.reduceLT, wrapU32, reduceIte, Int.natCast_nonneg, Int.ofNat_lt, Int.ofNat_le, cond_true, cond_false, Int.reduceBEq, Int.reduceBNe, Int.reduceLT, Int.reduceLE, Int.reduceAdd, Int.reduceSub, Int.reduceMul, Int.reduceNeg, Int.reduceEq, Int.reduceNe, Nat.reduceMul, Nat.reduceSub, decide_true, decide_false, not_true_eq_false, not_false_eq_true, Bool.true_and, Bool.false_and, Bool.and_false, aggEq, scEq, hasSh, alS, List.filterMap_nil, int_beq, int_bne, eq_self]
        rw [cellsFault, if_neg h5, hf, if_pos (.inl hx)]
        exact ⟨rfl, eh⟩
    · obtain rfl : i = l.length := by omega
      rw [List.drop_length, cellsF] at hf
      simp (disch := first | assumption | omega) only [e10, e9, e8, e0, eh, go_sem, ↓reduceIte, Nat.reduceEqDiff, reduceCtorEq, Nat.reduceAdd, Nat.reduceLeDiff, Nat.reduceLT, wrapU32, reduceIte, Int.natCast_nonneg, Int.ofNat_lt, Int.ofNat_le, cond_true, cond_false, Int.reduceBEq, Int.reduceBNe, Int.reduceLT, Int.reduceLE, Int.reduceAdd, Int.reduceSub, Int.reduceMul, Int.reduceNeg, Int.reduceEq, Int.reduceNe, Nat.reduceMul, Nat.reduceSub, decide_true, decide_false, not_true_eq_false, not_false_eq_true, Bool.true_and, Bool.false_and, Bool.and_false, aggEq, scEq, hasSh, alS, List.filterMap_nil, int_beq, int_bne, eq_self]
      subst hQ
      simp (disch := first | assumption | omega) only [R.grid_Check, go_sem, ↓reduceIte, Nat.reduceEqDiff, reduceCtorEq, Nat.reduceAdd, Nat.reduceLeDiff, Nat.reduceLT, wrapU32, reduceIte, Int.natCast_nonneg, Int.ofNat_lt, Int.ofNat_le, cond_true, cond_false, Int.reduceBEq, Int.reduceBNe, Int.reduceLT, Int.reduceLE, Int.reduceAdd, Int.reduceSub, Int.reduceMul, Int.reduceNeg, Int.reduceEq, Int.reduceNe, Nat.reduceMul, Nat.reduceSub, decide_true, decide_false, not_true_eq_false, not_false_eq_true, Bool.true_and, Bool.false_and, Bool.and_false, aggEq, scEq, hasSh, alS, List.filterMap_nil, int_beq, int_bne, eq_self]
      rw [cellsFault, if_neg h5, hf]
      exact ⟨rfl, eh⟩
theorem MsgFault_ok (o : Own) (m : Msg) (ho : Rdo o) (hl : m.Cells.length < 4611686018427387904) (h : List HObj) : ACalls Try.prog F.gantref5_MsgFault [msgA o m] h (fun r h' => r = .int .i64 (msgFault m) ∧ h' = h) := by
  refine ACalls.of_aw Try.func58 K.gantref5_MsgFault (by simp [Try.f58]) ?_
  generalize hQ : retQ R.gantref5_MsgFault _ = Q
  simp (disch := first | assumption | omega) only [C.gantref5_MsgFault, go_sem, ↓reduceIte, Nat.reduceEqDiff, reduceCtorEq, Nat.reduceAdd, Nat.reduceLeDiff, Nat.reduceLT, wrapU32, reduceIte, Int.natCast_nonneg, Int.ofNat_lt, Int.ofNat_le, cond_true, cond_false, Int.reduceBEq, Int.reduceBNe, Int.reduceLT, Int.reduceLE, Int.reduceAdd, Int.reduceSub, Int.reduceMul, Int.reduceNeg, Int.reduceEq, Int.reduceNe, Nat.reduceMul, Nat.reduceSub, decide_true, decide_false, not_true_eq_false, not_false_eq_true, Bool.true_and, Bool.false_and, Bool.and_false, aggEq, scEq, hasSh, alS, List.filterMap_nil, int_beq, int_bne, eq_self]
  simp (disch := first | assumption | omega) only [msgA, msgC, go_sem, ↓reduceIte, Nat.reduceEqDiff, reduceCtorEq, Nat.reduceAdd, Nat.reduceLeDiff, Nat.reduceLT, wrapU32, reduceIte, Int.natCast_nonneg, Int.ofNat_lt, Int.ofNat_le, cond_true, cond_false, Int.reduceBEq, Int.reduceBNe, Int.reduceLT, Int.reduceLE, Int.reduceAdd, Int.reduceSub, Int.reduceMul, Int.reduceNeg, Int.reduceEq, Int.reduceNe, Nat.reduceMul, Nat.reduceSub, decide_true, decide_false, not_true_eq_false, not_false_eq_true, Bool.true_and, Bool.false_and, Bool.and_false, aggEq, scEq, hasSh, alS, List.filterMap_nil, int_beq, int_bne, eq_self]
  iterate 16 (all_goals (try ((first | refine aopsG_ifn (fun hb => ?_) (fun hb => ?_) | refine condG_ifn (fun hb => ?_) (fun hb => ?_) | refine aopsG_if (fun hb => ?_) (fun hb => ?_) | refine condG_if (fun hb => ?_) (fun hb => ?_) | refine aopsG_split (fun hb => ?_) (fun hb => ?_) | refine condG_split (fun hb => ?_) (fun hb => ?_)) <;> simp (disch := first | assumption | omega) only [hb, msgA, msgC, go_sem, ↓reduceIte, Nat.reduceEqDiff, reduceCtorEq, Nat.reduceAdd, Nat.reduceLeDiff, Nat.reduceLT, wrapU32, reduceIte, Int.natCast_nonneg, Int.ofNat_lt, Int.ofNat_le, cond_true, cond_false, Int.reduceBEq, Int.reduceBNe, Int.reduceLT, Int.reduceLE, Int.reduceAdd, Int.reduceSub, Int.reduceMul, Int.reduceNeg, Int.reduceEq, Int.reduceNe, Nat.reduceMul, Nat.reduceSub, decide_true, decide_false, not_true_eq_false, not_false_eq_true, Bool.true_and, Bool.false_and, Bool.and_false, aggEq, scEq, hasSh, alS, List.filterMap_nil, int_beq, int_bne, eq_self])))
  all_goals (try omega)
  all_goals (subst hQ; simp (disch := first | assumption | omega) only [R.gantref5_MsgFault, go_sem, ↓reduceIte, Nat.reduceEqDiff, reduceCtorEq, Nat.reduceAdd, Nat.reduceLeDiff, Nat.reduceLT, wrapU32, reduceIte, Int.natCast_nonneg, Int.ofNat_lt, Int.ofNat_le, cond_true, cond_false, Int.reduceBEq, Int.reduceBNe, Int.reduceLT, Int.reduceLE, Int.reduceAdd, Int.reduceSub, Int.reduceMul, Int.reduceNeg, Int.reduceEq, Int.reduceNe, Nat.reduceMul, Nat.reduceSub, decide_true, decide_false, not_true_eq_false, not_false_eq_true, Bool.true_and, Bool.false_and, Bool.and_false, aggEq, scEq, hasSh, alS, List.filterMap_nil, int_beq, int_bne, eq_self]; refine congrArg (AVal.int .i64) ?_; unfold msgFault; (repeat split) <;> omega)
theorem CellsFault_ok (o : Own) (l : List Cell) (ho : Rdo o) (hl : l.length < 4611686018427387904) (h : List HObj) : ACalls Try.prog F.gantref5_CellsFault [.lst o (cellsA l)] h (fun r h' => r = .int .i64 (cellsFault l) ∧ h' = h) := by
  refine ACalls.of_aw Try.func59 K.gantref5_CellsFault (by simp [Try.f59]) ?_
  generalize hQ : retQ R.gantref5_CellsFault _ = Q
  simp (disch := first | assumption | omega) only [C.gantref5_CellsFault, go_sem, ↓reduceIte, Nat.reduceEqDiff, reduceCtorEq, Nat.reduceAdd, Nat.reduceLeDiff, Nat.reduceLT, wrapU32, reduceIte, Int.natCast_nonneg, Int.ofNat_lt, Int.ofNat_le, cond_true, cond_false, Int.reduceBEq, Int.reduceBNe, Int.reduceLT, Int.reduceLE, Int.reduceAdd, Int.reduceSub, Int.reduceMul, Int.reduceNeg, Int.reduceEq, Int.reduceNe, Nat.reduceMul, Nat.reduceSub, decide_true, decide_false, not_true_eq_false, not_false_eq_true, Bool.true_and, Bool.false_and, Bool.and_false, aggEq, scEq, hasSh, alS, List.filterMap_nil, int_beq, int_bne, eq_self]
  refine condG_if (fun h4 => ?_) fun h4 => ?_
  · simp (disch := first | assumption | omega) only [go_sem, ↓reduceIte, Nat.reduceEqDiff, reduceCtorEq, Nat.reduceAdd, Nat.reduceLeDiff, Nat.reduceLT, wrapU32, reduceIte, Int.natCast_nonneg, Int.ofNat_lt, Int.ofNat_le, cond_true, cond_false, Int.reduceBEq, Int.reduceBNe, Int.reduceLT, Int.reduceLE, Int.reduceAdd, Int.reduceSub, Int.reduceMul, Int.reduceNeg, Int.reduceEq, Int.reduceNe, Nat.reduceMul, Nat.reduceSub, decide_true, decide_false, not_true_eq_false, not_false_eq_true, Bool.true_and, Bool.false_and, Bool.and_false, aggEq, scEq, hasSh, alS, List.filterMap_nil, int_beq, int_bne, eq_self]
    subst hQ
    simp (disch := first | assumption | omega) only [R.gantref5_CellsFault, go_sem, ↓reduceIte, Nat.reduceEqDiff, reduceCtorEq, Nat.reduceAdd, Nat.reduceLeDiff, Nat.reduceLT, wrapU32, reduceIte, Int.natCast_nonneg, Int.ofNat_lt, Int.ofNat_le, cond_true, cond_false, Int.reduceBEq, Int.reduceBNe, Int.reduceLT, Int.reduceLE, Int.reduceAdd, Int.reduceSub, Int.reduceMul, Int.reduceNeg, Int.reduceEq, Int.reduceNe, Nat.reduceMul, Nat.reduceSub, decide_true, decide_false, not_true_eq_false, not_false_eq_true, Bool.true_and, Bool.false_and, Bool.and_false, aggEq, scEq, hasSh, alS, List.filterMap_nil, int_beq, int_bne, eq_self]
    rw [cellsFault, if_pos (by omega)]
  · have h5 : ¬ l.length > 400 := by omega
    simp (disch := first | assumption | omega) only [go_sem, ↓reduceIte, Nat.reduceEqDiff, reduceCtorEq, Nat.reduceAdd, Nat.reduceLeDiff, Nat.reduceLT, wrapU32, reduceIte, Int.natCast_nonneg, Int.ofNat_lt, Int.ofNat_le, cond_true, cond_false, Int.reduceBEq, Int.reduceBNe, Int.reduceLT, Int.reduceLE, Int.reduceAdd, Int.reduceSub, Int.reduceMul, Int.reduceNeg, Int.reduceEq, Int.reduceNe, Nat.reduceMul, Nat.reduceSub, decide_true, decide_false, not_true_eq_false, not_false_eq_true, Bool.true_and, Bool.false_and, Bool.and_false, aggEq, scEq, hasSh, alS, List.filterMap_nil, int_beq, int_bne, eq_self]
    refine aw_count (fun d S => ∃ (i : Nat), i + d = l.length ∧ S.env 10 = .int .i64 i ∧ S.env 9 = .int .i64 l.length ∧ S.env 8 = .lst o (cellsA l) ∧ S.env 0 = .lst o (cellsA l) ∧ cellsF none l = cellsF (prevC l i) (l.drop i) ∧ S.heap = h) (n := l.length) ⟨0, by simp [go_sem, prevC]⟩ ?_
    rintro d S ⟨i, hi, e10, e9, e8, e0, hf, eh⟩
    simp (disch := first | assumption | omega) only [e10, e9, e8, e0, eh, go_sem, ↓reduceIte, Nat.reduceEqDiff, reduceCtorEq, Nat.reduceAdd, Nat.reduceLeDiff, Nat.reduceLT, wrapU32, reduceIte, Int.natCast_nonneg, Int.ofNat_lt, Int.ofNat_le, cond_true, cond_false, Int.reduceBEq, Int.reduceBNe, Int.reduceLT, Int.reduceLE, Int.reduceAdd, Int.reduceSub, Int.reduceMul, Int.reduceNeg, Int.reduceEq, Int.reduceNe, Nat.reduceMul, Nat.reduceSub, decide_true, decide_false, not_true_eq_false, not_false_eq_true, Bool.true_and, Bool.false_and, Bool.and_false, aggEq, scEq, hasSh, alS, List.filterMap_nil, int_beq, int_bne, eq_self]
    refine condG_if (fun hlt => ?_) fun hge => ?_
    · have hlt : i < l.length := by omega
      have hat := at_cells hlt
      rw [cellsF_step hlt] at hf
      simp (disch := first | assumption | omega) only [e10, e9, e8, e0, eh, hat, cellA, hlt, go_sem, ↓reduceIte, Nat.reduceEqDiff, reduceCtorEq, Nat.reduceAdd, Nat.reduceLeDiff, Nat.reduceLT, wrapU32, reduceIte, Int.natCast_nonneg, Int.ofNat_lt, Int.ofNat_le, cond_true, cond_false, Int.reduceBEq, Int.reduceBNe, Int.reduceLT, Int.reduceLE, Int.reduceAdd, Int.reduceSub, Int.reduceMul, Int.reduceNeg, Int.reduceEq, Int.reduceNe, Nat.reduceMul, Nat.reduceSub, decide_true, decide_false, not_true_eq_false, not_false_eq_true, Bool.true_and, Bool.false_and, Bool.and_false, aggEq, scEq, hasSh, alS, List.filterMap_nil, int_beq, int_bne, eq_self]
      by_cases hx : onG l[i].X
      · by_cases hy : onG l[i].Y
        · rw [if_neg (by simp [hx, hy])] at hf
          have q1 : ¬ l[i].X < -64 := by unfold onG at hx; omega
          have q2 : ¬ 63 < l[i].X := by unfold onG at hx; omega
          have q3 : ¬ l[i].Y < -64 := by unfold onG at hy; omega
          have q4 : ¬ 63 < l[i].Y := by unfold onG at hy; omega
          simp (disch := first | assumption | omega) only [e10, e9, e8, e0, eh, q1, q2, q3, q4, go_sem, ↓reduceIte, Nat.reduceEqDiff, reduceCtorEq, Nat.reduceAdd, Nat.reduceLeDiff, Nat.reduceLT, wrapU32, reduceIte, Int.natCast_nonneg, Int.ofNat_lt, Int.ofNat_le, cond_true, cond_false, Int.reduceBEq, Int.reduceBNe, Int.reduceLT, Int.reduceLE, Int.reduceAdd, Int.reduceSub, Int.reduceMul, Int.reduceNeg, Int.reduceEq, Int.reduceNe, Nat.reduceMul, Nat.reduceSub, decide_true, decide_false, not_true_eq_false, not_false_eq_true, Bool.true_and, Bool.false_and, Bool.and_false, aggEq, scEq, hasSh, alS, List.filterMap_nil, int_beq, int_bne, eq_self]
          refine aopsG_if (fun h0 => ?_) fun h0 => ?_
          · have hi0 := h0
            have h0 : 0 < i := by omega
            have hat2 := at_cells (l := l) (i := i - 1) (by omega)
            have ei : ((i - 1 : Nat) : Int) = (i : Int) - 1 := by omega
            rw [ei] at hat2
            have hp : prevC l i = some l[i - 1] := by unfold prevC; rw [if_neg (by omega), List.getElem?_eq_getElem (by omega)]
            have hlt2 : i - 1 < l.length := by omega
            rw [hp] at hf
            have hx1 : (0 : Int) ≤ (i : Int) - 1 := by omega
            have hx2 : (i : Int) - 1 < l.length := by omega
            simp (disch := first | assumption | omega) only [e10, e9, e8, e0, eh, hat2, h0, hi0, hlt2, cellA, hx1, hx2, go_sem, ↓reduceIte, Nat.reduceEqDiff, reduceCtorEq, Nat.reduceAdd, Nat.reduceLeDiff, Nat.reduceLT, wrapU32, reduceIte, Int.natCast_nonneg, Int.ofNat_lt, Int.ofNat_le, cond_true, cond_false, Int.reduceBEq, Int.reduceBNe, Int.reduceLT, Int.reduceLE, Int.reduceAdd, Int.reduceSub, Int.reduceMul, Int.reduceNeg, Int.reduceEq, Int.reduceNe, Nat.reduceMul, Nat.reduceSub, decide_true, decide_false, not_true_eq_false, not_false_eq_true, Bool.true_and, Bool.false_and, Bool.and_false, aggEq, scEq, hasSh, alS, List.filterMap_nil, int_beq, int_bne, eq_self]
            iterate 3 (all_goals (try ((first | refine aopsG_ifn (fun hb => ?_) (fun hb => ?_) | refine condG_ifn (fun hb => ?_) (fun hb => ?_) | refine aopsG_if (fun hb => ?_) (fun hb => ?_) | refine condG_if (fun hb => ?_) (fun hb => ?_) | refine aopsG_split (fun hb => ?_) (fun hb => ?_) | refine condG_split (fun hb => ?_) (fun hb => ?_)) <;> simp (disch := first | assumption | omega) only [hb, e10, e9, e8, e0, eh, hat2, h0, hi0, hlt2, cellA, hx1, hx2, go_sem, ↓reduceIte, Nat.reduceEqDiff, reduceCtorEq, Nat.reduceAdd, Nat.reduceLeDiff, Nat.reduceLT, wrapU32, reduceIte, Int.natCast_nonneg, Int.ofNat_lt, Int.ofNat_le, cond_true, cond_false, Int.reduceBEq, Int.reduceBNe, Int.reduceLT, Int.reduceLE, Int.reduceAdd, Int.reduceSub, Int.reduceMul, Int.reduceNeg, Int.reduceEq, Int.reduceNe, Nat.reduceMul, Nat.reduceSub, decide_true, decide_false, not_true_eq_false, not_false_eq_true, Bool.true_and, Bool.false_and, Bool.and_false, aggEq, scEq, hasSh, alS, List.filterMap_nil, int_beq, int_bne, eq_self])))
            all_goals first
              | (rw [if_neg (by rintro ⟨q, hq, hq2⟩; cases hq; exact hq2 (by unfold cellLt; omega))] at hf
                 exact ⟨d - 1, by omega, i + 1, by omega, by simp, hf⟩)
              | (rw [if_pos ⟨_, rfl, by unfold cellLt; omega⟩] at hf
                 subst hQ
                 simp (disch := first | assumption | omega) only [R.gantref5_CellsFault, e10, e9, e8, e0, eh, go_sem, ↓reduceIte, Nat.reduceEqDiff, reduceCtorEq, Nat.reduceAdd, Nat.reduceLeDiff, Nat.reduceLT, wrapU32, reduceIte, Int.natCast_nonneg, Int.ofNat_lt, Int.ofNat_le, cond_true, cond_false, Int.reduceBEq, Int.reduceBNe, Int.reduceLT, Int.reduceLE, Int.reduceAdd, Int.reduceSub, Int.reduceMul, Int.reduceNeg, Int.reduceEq, Int.reduceNe, Nat.reduceMul, Nat.reduceSub, decide_true, decide_false, not_true_eq_false, not_false_eq_true, Bool.true_and, Bool.false_and, Bool.and_false, aggEq, scEq, hasSh, alS, List.filterMap_nil, int_beq, int_bne, eq_self]
                 rw [cellsFault, if_neg h5, hf])
          · have hp : prevC l i = none := by unfold prevC; rw [if_pos (by omega)]
            rw [hp, if_neg (by simp)] at hf
            simp (disch := first | assumption | omega) only [e10, e9, e8, e0, eh, h0, go_sem, ↓reduceIte, Nat.reduceEqDiff, reduceCtorEq, Nat.reduceAdd, Nat.reduceLeDiff, Nat.reduceLT, wrapU32, reduceIte, Int.natCast_nonneg, Int.ofNat_lt, Int.ofNat_le, cond_true, cond_false, Int.reduceBEq, Int.reduceBNe, Int.reduceLT, Int.reduceLE, Int.reduceAdd, Int.reduceSub, Int.reduceMul, Int.reduceNeg, Int.reduceEq, Int.reduceNe, Nat.reduceMul, Nat.reduceSub, decide_true, decide_false, not_true_eq_false, not_false_eq_true, Bool.true_and, Bool.false_and, Bool.and_false, aggEq, scEq, hasSh, alS, List.filterMap_nil, int_beq, int_bne, eq_self]
            exact ⟨d - 1, by omega, i + 1, by omega, by simp, hf⟩
        · have q : l[i].Y < -64 ∨ 63 < l[i].Y := by unfold onG at hy; omega
          rw [if_pos (.inr hy)] at hf
          iterate 4 (all_goals (try ((first | refine aopsG_ifn (fun hb => ?_) (fun hb => ?_) | refine condG_ifn (fun hb => ?_) (fun hb => ?_) | refine aopsG_if (fun hb => ?_) (fun hb => ?_) | refine condG_if (fun hb => ?_) (fun hb => ?_) | refine aopsG_split (fun hb => ?_) (fun hb => ?_) | refine condG_split (fun hb => ?_) (fun hb => ?_)) <;> simp (disch := first | assumption | omega) only [hb, e10, e9, e8, e0, eh, go_sem, ↓reduceIte, Nat.reduceEqDiff, reduceCtorEq, Nat.reduceAdd, Nat.reduceLeDiff, Nat.reduceLT, wrapU32, reduceIte, Int.natCast_nonneg, Int.ofNat_lt, Int.ofNat_le, cond_true, cond_false, Int.reduceBEq, Int.reduceBNe, Int.reduceLT, Int.reduceLE, Int.reduceAdd, Int.reduceSub, Int.reduceMul, Int.reduceNeg, Int.reduceEq, Int.reduceNe, Nat.reduceMul, Nat.reduceSub, decide_true, decide_false, not_true_eq_false, not_false_eq_true, Bool.true_and, Bool.false_and, Bool.and_false, aggEq, scEq, hasSh, alS, List.filterMap_nil, int_beq, int_bne, eq_self])))
          all_goals (subst hQ; simp (disch := first | assumption | omega) only [R.gantref5_CellsFault, go_sem, ↓reduceIte, Nat.reduceEqDiff, reduceCtorEq, Nat.reduceAdd, Nat.reduceLeDiff, Nat.reduceLT, wrapU32, reduceIte, Int.natCast_nonneg, Int.ofNat_lt, Int.ofNat_le, cond_true, cond_false, Int.reduceBEq, Int.reduceBNe, Int.reduceLT, Int.reduceLE, Int.reduceAdd, Int.reduceSub, Int.reduceMul, Int.reduceNeg, Int.reduceEq, Int.reduceNe, Nat.reduceMul, Nat.reduceSub, decide_true, decide_false, not_true_eq_false, not_false_eq_true, Bool.true_and, Bool.false_and, Bool.and_false, aggEq, scEq, hasSh, alS, List.filterMap_nil, int_beq, int_bne, eq_self]; first | omega | (rw [cellsFault, if_neg h5, hf]; exact ⟨rfl, eh⟩))
      · have q : l[i].X < -64 ∨ 63 < l[i].X := by unfold onG at hx; omega
        rw [if_pos (.inl hx)] at hf
        iterate 4 (all_goals (try ((first | refine aopsG_ifn (fun hb => ?_) (fun hb => ?_) | refine condG_ifn (fun hb => ?_) (fun hb => ?_) | refine aopsG_if (fun hb => ?_) (fun hb => ?_) | refine condG_if (fun hb => ?_) (fun hb => ?_) | refine aopsG_split (fun hb => ?_) (fun hb => ?_) | refine condG_split (fun hb => ?_) (fun hb => ?_)) <;> simp (disch := first | assumption | omega) only [hb, e10, e9, e8, e0, eh, go_sem, ↓reduceIte, Nat.reduceEqDiff, reduceCtorEq, Nat.reduceAdd, Nat.reduceLeDiff, Nat.reduceLT, wrapU32, reduceIte, Int.natCast_nonneg, Int.ofNat_lt, Int.ofNat_le, cond_true, cond_false, Int.reduceBEq, Int.reduceBNe, Int.reduceLT, Int.reduceLE, Int.reduceAdd, Int.reduceSub, Int.reduceMul, Int.reduceNeg, Int.reduceEq, Int.reduceNe, Nat.reduceMul, Nat.reduceSub, decide_true, decide_false, not_true_eq_false, not_false_eq_true, Bool.true_and, Bool.false_and, Bool.and_false, aggEq, scEq, hasSh, alS, List.filterMap_nil, int_beq, int_bne, eq_self])))
        all_goals (subst hQ; simp (disch := first | assumption | omega) only [R.gantref5_CellsFault, go_sem, ↓reduceIte, Nat.reduceEqDiff, reduceCtorEq, Nat.reduceAdd, Nat.reduceLeDiff, Nat.reduceLT, wrapU32, reduceIte, Int.natCast_nonneg, Int.ofNat_lt, Int.ofNat_le, cond_true, cond_false, Int.reduceBEq, Int.reduceBNe, Int.reduceLT, Int.reduceLE, Int.reduceAdd, Int.reduceSub, Int.reduceMul, Int.reduceNeg, Int.reduceEq, Int.reduceNe, Nat.reduceMul, Nat.reduceSub, decide_true, decide_false, not_true_eq_false, not_false_eq_true, Bool.true_and, Bool.false_and, Bool.and_false, aggEq, scEq, hasSh, alS, List.filterMap_nil, int_beq, int_bne, eq_self]; first | omega | (rw [cellsFault, if_neg h5, hf]; exact ⟨rfl, eh⟩))
    · obtain rfl : i = l.length := by omega
      rw [List.drop_length, cellsF] at hf
      simp (disch := first | assumption | omega) only [e10, e9, e8, e0, eh, go_sem, ↓reduceIte, Nat.reduceEqDiff, reduceCtorEq, Nat.reduceAdd, Nat.reduceLeDiff, Nat.reduceLT, wrapU32, reduceIte, Int.natCast_nonneg, Int.ofNat_lt, Int.ofNat_le, cond_true, cond_false, Int.reduceBEq, Int.reduceBNe, Int.reduceLT, Int.reduceLE, Int.reduceAdd, Int.reduceSub, Int.reduceMul, Int.reduceNeg, Int.reduceEq, Int.reduceNe, Nat.reduceMul, Nat.reduceSub, decide_true, decide_false, not_true_eq_false, not_false_eq_true, Bool.true_and, Bool.false_and, Bool.and_false, aggEq, scEq, hasSh, alS, List.filterMap_nil, int_beq, int_bne, eq_self]
      subst hQ
      simp (disch := first | assumption | omega) only [R.gantref5_CellsFault, go_sem, ↓reduceIte, Nat.reduceEqDiff, reduceCtorEq, Nat.reduceAdd, Nat.reduceLeDiff, Nat.reduceLT, wrapU32, reduceIte, Int.natCast_nonneg, Int.ofNat_lt, Int.ofNat_le, cond_true, cond_false, Int.reduceBEq, Int.reduceBNe, Int.reduceLT, Int.reduceLE, Int.reduceAdd, Int.reduceSub, Int.reduceMul, Int.reduceNeg, Int.reduceEq, Int.reduceNe, Nat.reduceMul, Nat.reduceSub, decide_true, decide_false, not_true_eq_false, not_false_eq_true, Bool.true_and, Bool.false_and, Bool.and_false, aggEq, scEq, hasSh, alS, List.filterMap_nil, int_beq, int_bne, eq_self]
      rw [cellsFault, if_neg h5, hf]
      exact ⟨rfl, eh⟩
theorem Check_ok (o : Own) (m : Msg) (ho : Rdo o) (hl : m.Cells.length < 4611686018427387904) (h : List HObj) : ACalls Try.prog F.msg_Check [msgA o m] h (fun r h' => r = .int .i64 (checkF m) ∧ h' = h) := by
  refine ACalls.of_aw Try.func74 K.msg_Check (by simp [Try.f74]) ?_
  generalize hQ : retQ R.msg_Check _ = Q
  simp (disch := first | assumption | omega) only [C.msg_Check, go_sem, ↓reduceIte, Nat.reduceEqDiff, reduceCtorEq, Nat.reduceAdd, Nat.reduceLeDiff, Nat.reduceLT, wrapU32, reduceIte, Int.natCast_nonneg, Int.ofNat_lt, Int.ofNat_le, cond_true, cond_false, Int.reduceBEq, Int.reduceBNe, Int.reduceLT, Int.reduceLE, Int.reduceAdd, Int.reduceSub, Int.reduceMul, Int.reduceNeg, Int.reduceEq, Int.reduceNe, Nat.reduceMul, Nat.reduceSub, decide_true, decide_false, not_true_eq_false, not_false_eq_true, Bool.true_and, Bool.false_and, Bool.and_false, aggEq, scEq, hasSh, alS, List.filterMap_nil, int_beq, int_bne, eq_self]
  simp (disch := first | assumption | omega) only [msgA, msgC, go_sem, ↓reduceIte, Nat.reduceEqDiff, reduceCtorEq, Nat.reduceAdd, Nat.reduceLeDiff, Nat.reduceLT, wrapU32, reduceIte, Int.natCast_nonneg, Int.ofNat_lt, Int.ofNat_le, cond_true, cond_false, Int.reduceBEq, Int.reduceBNe, Int.reduceLT, Int.reduceLE, Int.reduceAdd, Int.reduceSub, Int.reduceMul, Int.reduceNeg, Int.reduceEq, Int.reduceNe, Nat.reduceMul, Nat.reduceSub, decide_true, decide_false, not_true_eq_false, not_false_eq_true, Bool.true_and, Bool.false_and, Bool.and_false, aggEq, scEq, hasSh, alS, List.filterMap_nil, int_beq, int_bne, eq_self]
  iterate 14 (all_goals (try ((first | refine aopsG_ifn (fun hb => ?_) (fun hb => ?_) | refine condG_ifn (fun hb => ?_) (fun hb => ?_) | refine aopsG_if (fun hb => ?_) (fun hb => ?_) | refine condG_if (fun hb => ?_) (fun hb => ?_) | refine aopsG_split (fun hb => ?_) (fun hb => ?_) | refine condG_split (fun hb => ?_) (fun hb => ?_)) <;> simp (disch := first | assumption | omega) only [hb, msgA, msgC, go_sem, ↓reduceIte, Nat.reduceEqDiff, reduceCtorEq, Nat.reduceAdd, Nat.reduceLeDiff, Nat.reduceLT, wrapU32, reduceIte, Int.natCast_nonneg, Int.ofNat_lt, Int.ofNat_le, cond_true, cond_false, Int.reduceBEq, Int.reduceBNe, Int.reduceLT, Int.reduceLE, Int.reduceAdd, Int.reduceSub, Int.reduceMul, Int.reduceNeg, Int.reduceEq, Int.reduceNe, Nat.reduceMul, Nat.reduceSub, decide_true, decide_false, not_true_eq_false, not_false_eq_true, Bool.true_and, Bool.false_and, Bool.and_false, aggEq, scEq, hasSh, alS, List.filterMap_nil, int_beq, int_bne, eq_self])))
  all_goals (try omega)
  all_goals first
    | (refine callG_ok (gridCheck_ok o m.Cells ho hl _) (by simp (disch := first | assumption | omega) only [go_sem, ↓reduceIte, Nat.reduceEqDiff, reduceCtorEq, Nat.reduceAdd, Nat.reduceLeDiff, Nat.reduceLT, wrapU32, reduceIte, Int.natCast_nonneg, Int.ofNat_lt, Int.ofNat_le, cond_true, cond_false, Int.reduceBEq, Int.reduceBNe, Int.reduceLT, Int.reduceLE, Int.reduceAdd, Int.reduceSub, Int.reduceMul, Int.reduceNeg, Int.reduceEq, Int.reduceNe, Nat.reduceMul, Nat.reduceSub, decide_true, decide_false, not_true_eq_false, not_false_eq_true, Bool.true_and, Bool.false_and, Bool.and_false, aggEq, scEq, hasSh, alS, List.filterMap_nil, int_beq, int_bne, eq_self]) ?_
       rintro _ _ ⟨rfl, hhh⟩
       rw [hhh]
       clear hhh
       simp (disch := first | assumption | omega) only [go_sem, ↓reduceIte, Nat.reduceEqDiff, reduceCtorEq, Nat.reduceAdd, Nat.reduceLeDiff, Nat.reduceLT, wrapU32, reduceIte, Int.natCast_nonneg, Int.ofNat_lt, Int.ofNat_le, cond_true, cond_false, Int.reduceBEq, Int.reduceBNe, Int.reduceLT, Int.reduceLE, Int.reduceAdd, Int.reduceSub, Int.reduceMul, Int.reduceNeg, Int.reduceEq, Int.reduceNe, Nat.reduceMul, Nat.reduceSub, decide_true, decide_false, not_true_eq_false, not_false_eq_true, Bool.true_and, Bool.false_and, Bool.and_false, aggEq, scEq, hasSh, alS, List.filterMap_nil, int_beq, int_bne, eq_self]
       subst hQ
       simp (disch := first | assumption | omega) only [R.msg_Check, go_sem, ↓reduceIte, Nat.reduceEqDiff, reduceCtorEq, Nat.reduceAdd, Nat.reduceLeDiff, Nat.reduceLT, wrapU32, reduceIte, Int.natCast_nonneg, Int.ofNat_lt, Int.ofNat_le, cond_true, cond_false, Int.reduceBEq, Int.reduceBNe, Int.reduceLT, Int.reduceLE, Int.reduceAdd, Int.reduceSub, Int.reduceMul, Int.reduceNeg, Int.reduceEq, Int.reduceNe, Nat.reduceMul, Nat.reduceSub, decide_true, decide_false, not_true_eq_false, not_false_eq_true, Bool.true_and, Bool.false_and, Bool.and_false, aggEq, scEq, hasSh, alS, List.filterMap_nil, int_beq, int_bne, eq_self]
       have : msgFault m = 0 := by unfold msgFault; (repeat split) <;> omega
       rw [checkF, if_neg (by simp [this])])
    | (subst hQ
       simp (disch := first | assumption | omega) only [R.msg_Check, go_sem, ↓reduceIte, Nat.reduceEqDiff, reduceCtorEq, Nat.reduceAdd, Nat.reduceLeDiff, Nat.reduceLT, wrapU32, reduceIte, Int.natCast_nonneg, Int.ofNat_lt, Int.ofNat_le, cond_true, cond_false, Int.reduceBEq, Int.reduceBNe, Int.reduceLT, Int.reduceLE, Int.reduceAdd, Int.reduceSub, Int.reduceMul, Int.reduceNeg, Int.reduceEq, Int.reduceNe, Nat.reduceMul, Nat.reduceSub, decide_true, decide_false, not_true_eq_false, not_false_eq_true, Bool.true_and, Bool.false_and, Bool.and_false, aggEq, scEq, hasSh, alS, List.filterMap_nil, int_beq, int_bne, eq_self]
       refine congrArg (AVal.int .i64) ?_
       have : msgFault m ≠ 0 := by unfold msgFault; (repeat split) <;> omega
       rw [checkF, if_pos this]
       unfold msgFault; (repeat split) <;> omega)
end Go.Proofs.Ytpdajkbfemcdlaa
/- Annotated code of functions, checked against the program. -/
namespace Go.Proofs.Ytpdajkbfemcdlaa
open Go.Ge
/-- gantry/msg.Copy -/
def C.msg_Copy : ACode :=
  .seq (.region [
    ⟨some 1, .bx true (.t 0), none⟩, 
    ⟨some 2, .alloc false [(.int .i64 0), (.int .i64 0), (.int .i64 0), (.int .i64 0), (.int .u32 0), (.lst .nil [])], none⟩]) (
  .seq (.region [
    ⟨some 3, .faddr 5 (.t 1), none⟩, 
    ⟨some 4, .load 2 false 1 (.t 3), none⟩, 
    ⟨some 5, .call true F.slices_Clone_Cell [(.t 4)], none⟩, 
    ⟨some 6, .faddr 5 (.t 1), none⟩, 
    ⟨none, .store 1 (.t 6) (.t 5), none⟩]) (
  .seq (.region [
    ⟨some 7, .load 2 true 6 (.t 1), none⟩, 
    ⟨none, .store 6 (.t 2) (.t 7), none⟩]) (
  .ret)))
def R.msg_Copy : List ARes := [.c 2 true 6]
set_option maxRecDepth 100000 in
theorem K.msg_Copy : ckFun Try.prog Try.f49 C.msg_Copy R.msg_Copy = true := by kernel_rfl
/-- gantry/gantlaw5.same -/
def C.gantlaw5_same : ACode :=
  .seq (.region [
    ⟨some 2, .bx true (.t 0), none⟩, 
    ⟨some 3, .bx true (.t 1), none⟩, 
    ⟨some 4, .move false (.c (.bool false)), none⟩]) (
  .seq (.region [
    ⟨some 5, .faddr 0 (.t 2), none⟩, 
    ⟨some 6, .load 2 false 1 (.t 5), none⟩, 
    ⟨some 7, .faddr 0 (.t 3), none⟩, 
    ⟨some 8, .load 2 false 1 (.t 7), none⟩, 
    ⟨some 9, .bin .eql (.t 6) (.t 8), none⟩, 
    ⟨some 10, .move false (.t 9), none⟩, 
    ⟨some 11, .faddr 1 (.t 2), (some (10, true))⟩, 
    ⟨some 12, .load 2 false 1 (.t 11), (some (10, true))⟩, 
    ⟨some 13, .faddr 1 (.t 3), (some (10, true))⟩, 
    ⟨some 14, .load 2 false 1 (.t 13), (some (10, true))⟩, 
    ⟨some 15, .bin .eql (.t 12) (.t 14), (some (10, true))⟩, 
    ⟨some 16, .pick (.t 10) (.t 15) (.c (.bool false)), none⟩, 
    ⟨some 17, .move false (.t 16), none⟩, 
    ⟨some 18, .faddr 2 (.t 2), (some (17, true))⟩, 
    ⟨some 19, .load 2 false 1 (.t 18), (some (17, true))⟩, 
    ⟨some 20, .faddr 2 (.t 3), (some (17, true))⟩, 
    ⟨some 21, .load 2 false 1 (.t 20), (some (17, true))⟩, 
    ⟨some 22, .bin .eql (.t 19) (.t 21), (some (17, true))⟩, 
    ⟨some 23, .pick (.t 17) (.t 22) (.c (.bool false)), none⟩, 
    ⟨some 24, .move false (.t 23), none⟩, 
    ⟨some 25, .faddr 3 (.t 2), (some (24, true))⟩, 
    ⟨some 26, .load 2 false 1 (.t 25), (some (24, true))⟩, 
    ⟨some 27, .faddr 3 (.t 3), (some (24, true))⟩, 
    ⟨some 28, .load 2 false 1 (.t 27), (some (24, true))⟩, 
    ⟨some 29, .bin .eql (.t 26) (.t 28), (some (24, true))⟩, 
    ⟨some 30, .pick (.t 24) (.t 29) (.c (.bool false)), none⟩, 
    ⟨some 31, .move false (.t 30), none⟩, 
    ⟨some 32, .faddr 4 (.t 2), (some (31, true))⟩, 
    ⟨some 33, .load 2 false 1 (.t 32), (some (31, true))⟩, 
    ⟨some 34, .faddr 4 (.t 3), (some (31, true))⟩, 
    ⟨some 35, .load 2 false 1 (.t 34), (some (31, true))⟩, 
    ⟨some 36, .bin .eql (.t 33) (.t 35), (some (31, true))⟩, 
    ⟨some 37, .pick (.t 31) (.t 36) (.c (.bool false)), none⟩, 
    ⟨some 38, .move false (.t 37), none⟩, 
    ⟨some 39, .faddr 5 (.t 2), (some (38, true))⟩, 
    ⟨some 40, .load 2 false 1 (.t 39), (some (38, true))⟩, 
    ⟨some 41, .faddr 5 (.t 3), (some (38, true))⟩, 
    ⟨some 42, .load 2 false 1 (.t 41), (some (38, true))⟩, 
    ⟨some 43, .call true F.slices_Equal_Cell [(.t 40), (.t 42)], (some (38, true))⟩, 
    ⟨some 44, .pick (.t 38) (.t 43) (.c (.bool false)), none⟩, 
    ⟨some 4, .move false (.t 44), none⟩]) (
  .ret))
def R.gantlaw5_same : List ARes := [.t 4]
set_option maxRecDepth 100000 in
theorem K.gantlaw5_same : ckFun Try.prog Try.f48 C.gantlaw5_same R.gantlaw5_same = true := by kernel_rfl
/-- slices.Equal[[]gantry/api.Cell,gantry/api.Cell] -/
def C.slices_Equal_Cell : ACode :=
  .seq (.region [
    ⟨some 4, .move false (.c (.bool false)), none⟩]) (
  .seq (.seq (.region [
    ⟨some 6, .move false (.t 0), none⟩, 
    ⟨some 7, .len (.t 6), none⟩, 
    ⟨some 8, .move false (.t 1), none⟩, 
    ⟨some 9, .len (.t 8), none⟩, 
    ⟨some 10, .bin .neq (.t 7) (.t 9), none⟩]) (
  .cond (.t 10) (.seq (.region [
    ⟨some 4, .move false (.c (.bool false)), none⟩]) (
  .ret)) (.skip))) (
  .seq (.seq (.region [
    ⟨some 11, .move false (.t 0), none⟩, 
    ⟨some 12, .len (.t 11), none⟩, 
    ⟨some 13, .move false (.c (.int .i64 0)), none⟩]) (
  .block 0 (.loop (.seq (.region [
    ⟨some 14, .bin .lss (.t 13) (.t 12), none⟩]) (
  .seq (.cond (.t 14) (.skip) (.exit 0)) (
  .seq (.block 1 (.seq (.region [
    ⟨some 15, .move false (.t 13), none⟩, 
    ⟨some 5, .move false (.t 15), none⟩]) (
  .seq (.drawn [0, 1, 2, 3, 4, 5, 6, 7, 8] [0, 0, 3, 7, 0, 0, 48, 112, 255] [
    ⟨some 16, .move false (.t 0), none⟩, 
    ⟨some 17, .move false (.t 5), none⟩, 
    ⟨some 18, .iaddr 2 (.t 16) (.t 17), none⟩, 
    ⟨some 19, .load 0 true 2 (.t 18), none⟩, 
    ⟨some 20, .move false (.t 1), none⟩, 
    ⟨some 21, .move false (.t 5), none⟩, 
    ⟨some 22, .iaddr 2 (.t 20) (.t 21), none⟩, 
    ⟨some 23, .load 0 true 2 (.t 22), none⟩, 
    ⟨some 24, .eqs true [.i .i64, .i .i64] (.t 19) (.t 23), none⟩]) (
  .cond (.t 24) (.seq (.region [
    ⟨some 4, .move false (.c (.bool false)), none⟩]) (
  .ret)) (.skip))))) (
  .region [
    ⟨some 25, .bin .add (.t 13) (.c (.int .i64 1)), none⟩, 
    ⟨some 13, .move false (.t 25), none⟩]))))))) (
  .seq (.region [
    ⟨some 4, .move false (.c (.bool true)), none⟩]) (
  .ret))))
def R.slices_Equal_Cell : List ARes := [.t 4]
set_option maxRecDepth 100000 in
theorem K.slices_Equal_Cell : ckFun Try.prog Try.f123 C.slices_Equal_Cell R.slices_Equal_Cell = true := by kernel_rfl
/-- slices.Clone[[]gantry/api.Cell,gantry/api.Cell] -/
def C.slices_Clone_Cell : ACode :=
  .seq (.region [
    ⟨some 2, .move false (.c (.lst .nil [])), none⟩]) (
  .seq (.seq (.region [
    ⟨some 3, .move false (.t 0), none⟩, 
    ⟨some 4, .isnil false false (.t 3), none⟩]) (
  .cond (.t 4) (.seq (.region [
    ⟨some 2, .move false (.c (.lst .nil [])), none⟩]) (
  .ret)) (.skip))) (
  .seq (.region [
    ⟨some 5, .buildS false 2 [], none⟩, 
    ⟨some 6, .move false (.t 0), none⟩, 
    ⟨some 7, .append 2 16 (.t 5) (.t 6), none⟩, 
    ⟨some 2, .move true (.t 7), none⟩]) (
  .ret)))
def R.slices_Clone_Cell : List ARes := [.t 2]
set_option maxRecDepth 100000 in
theorem K.slices_Clone_Cell : ckFun Try.prog Try.f148 C.slices_Clone_Cell R.slices_Clone_Cell = true := by kernel_rfl
end Go.Proofs.Ytpdajkbfemcdlaa
/- Contracts: messages, the same and copied. -/
set_option linter.unusedSimpArgs false
set_option linter.unusedVariables false
set_option maxRecDepth 10000
namespace Go.Proofs.Ytpdajkbfemcdlaa
open Go.Ge
theorem EqualCell_ok (o1 o2 : Own) (a b : List Cell) (h1 : Rdo o1) (h2 : Rdo o2) (hl : a.length < 4611686018427387904) (hl2 : b.length < 4611686018427387904) (h : List HObj) :
    ACalls Try.prog F.slices_Equal_Cell [.lst o1 (cellsA a), .lst o2 (cellsA b)] h (fun r h' => r = .bool (decide (a = b)) ∧ h' = h) := by
  refine ACalls.of_aw Try.func123 K.slices_Equal_Cell (by simp [Try.f123]) ?_
  generalize hQ : retQ R.slices_Equal_Cell _ = Q
  simp (disch := first | assumption | omega) only [C.slices_Equal_Cell, go_sem, ↓reduceIte, Nat.reduceEqDiff, reduceCtorEq, Nat.reduceAdd, Nat.reduceLeDiff, Nat.reduceLT, wrapU32, reduceIte, Int.natCast_nonneg, Int.ofNat_lt, Int.ofNat_le, cond_true, cond_false, Int.reduceBEq, Int.reduceBNe, Int.reduceLT, Int.reduceLE, Int.reduceAdd, Int.reduceSub, Int.reduceMul, Int.reduceNeg, Int.reduceEq, Int.reduceNe, Nat.reduceMul, Nat.reduceSub, decide_true, decide_false, not_true_eq_false, not_false_eq_true, Bool.true_and, Bool.false_and, Bool.and_false, aggEq, scEq, hasSh, alS, List.filterMap_nil]
  by_cases he : a.length = b.length
  · simp (disch := first | assumption | omega) only [he, go_sem, ↓reduceIte, Nat.reduceEqDiff, reduceCtorEq, Nat.reduceAdd, Nat.reduceLeDiff, Nat.reduceLT, wrapU32, reduceIte, Int.natCast_nonneg, Int.ofNat_lt, Int.ofNat_le, cond_true, cond_false, Int.reduceBEq, Int.reduceBNe, Int.reduceLT, Int.reduceLE, Int.reduceAdd, Int.reduceSub, Int.reduceMul, Int.reduceNeg, Int.reduceEq, Int.reduceNe, Nat.reduceMul, Nat.reduceSub, decide_true, decide_false, not_true_eq_false, not_false_eq_true, Bool.true_and, Bool.false_and, Bool.and_false, aggEq, scEq, hasSh, alS, List.filterMap_nil]
    refine aw_count (fun d S => ∃ (i : Nat), i + d = a.length ∧ S.env 13 = .int .i64 i ∧ S.env 12 = .int .i64 b.length ∧ S.env 0 = .lst o1 (cellsA a) ∧ S.env 1 = .lst o2 (cellsA b) ∧ a.take i = b.take i ∧ S.heap = h) (n := a.length) ⟨0, by simp [go_sem]⟩ ?_
    rintro d S ⟨i, hi, e13, e12, e0, e1, ht, eh⟩
    simp (disch := first | assumption | omega) only [e13, e12, e0, e1, eh, go_sem, ↓reduceIte, Nat.reduceEqDiff, reduceCtorEq, Nat.reduceAdd, Nat.reduceLeDiff, Nat.reduceLT, wrapU32, reduceIte, Int.natCast_nonneg, Int.ofNat_lt, Int.ofNat_le, cond_true, cond_false, Int.reduceBEq, Int.reduceBNe, Int.reduceLT, Int.reduceLE, Int.reduceAdd, Int.reduceSub, Int.reduceMul, Int.reduceNeg, Int.reduceEq, Int.reduceNe, Nat.reduceMul, Nat.reduceSub, decide_true, decide_false, not_true_eq_false, not_false_eq_true, Bool.true_and, Bool.false_and, Bool.and_false, aggEq, scEq, hasSh, alS, List.filterMap_nil]
    refine condG_if (fun hlt => ?_) fun hge => ?_
    · have hlt1 : i < a.length := by omega
      have hlt2 : i < b.length := by omega
      have hat1 := at_cells hlt1
      have hat2 := at_cells hlt2
      simp (disch := first | assumption | omega) only [e13, e12, e0, e1, eh, hat1, hat2, cellA, hlt1, hlt2, go_sem, ↓reduceIte, Nat.reduceEqDiff, reduceCtorEq, Nat.reduceAdd, Nat.reduceLeDiff, Nat.reduceLT, wrapU32, reduceIte, Int.natCast_nonneg, Int.ofNat_lt, Int.ofNat_le, cond_true, cond_false, Int.reduceBEq, Int.reduceBNe, Int.reduceLT, Int.reduceLE, Int.reduceAdd, Int.reduceSub, Int.reduceMul, Int.reduceNeg, Int.reduceEq, Int.reduceNe, Nat.reduceMul, Nat.reduceSub, decide_true, decide_false, not_true_eq_false, not_false_eq_true, Bool.true_and, Bool.false_and, Bool.and_false, aggEq, scEq, hasSh, alS, List.filterMap_nil]
      refine condG_split (fun hb => ?_) fun hb => ?_
      · simp (disch := first | assumption | omega) only [e13, e12, e0, e1, eh, go_sem, ↓reduceIte, Nat.reduceEqDiff, reduceCtorEq, Nat.reduceAdd, Nat.reduceLeDiff, Nat.reduceLT, wrapU32, reduceIte, Int.natCast_nonneg, Int.ofNat_lt, Int.ofNat_le, cond_true, cond_false, Int.reduceBEq, Int.reduceBNe, Int.reduceLT, Int.reduceLE, Int.reduceAdd, Int.reduceSub, Int.reduceMul, Int.reduceNeg, Int.reduceEq, Int.reduceNe, Nat.reduceMul, Nat.reduceSub, decide_true, decide_false, not_true_eq_false, not_false_eq_true, Bool.true_and, Bool.false_and, Bool.and_false, aggEq, scEq, hasSh, alS, List.filterMap_nil]
        subst hQ
        simp (disch := first | assumption | omega) only [R.slices_Equal_Cell, e13, e12, e0, e1, eh, go_sem, ↓reduceIte, Nat.reduceEqDiff, reduceCtorEq, Nat.reduceAdd, Nat.reduceLeDiff, Nat.reduceLT, wrapU32, reduceIte, Int.natCast_nonneg, Int.ofNat_lt, Int.ofNat_le, cond_true, cond_false, Int.reduceBEq, Int.reduceBNe, Int.reduceLT, Int.reduceLE, Int.reduceAdd, Int.reduceSub, Int.reduceMul, Int.reduceNeg, Int.reduceEq, Int.reduceNe, Nat.reduceMul, Nat.reduceSub, decide_true, decide_false, not_true_eq_false, not_false_eq_true, Bool.true_and, Bool.false_and, Bool.and_false, aggEq, scEq, hasSh, alS, List.filterMap_nil]
        have : a ≠ b := by
          rintro rfl
          simp at hb
        simp [this, eh]
      · simp (disch := first | assumption | omega) only [e13, e12, e0, e1, eh, go_sem, ↓reduceIte, Nat.reduceEqDiff, reduceCtorEq, Nat.reduceAdd, Nat.reduceLeDiff, Nat.reduceLT, wrapU32, reduceIte, Int.natCast_nonneg, Int.ofNat_lt, Int.ofNat_le, cond_true, cond_false, Int.reduceBEq, Int.reduceBNe, Int.reduceLT, Int.reduceLE, Int.reduceAdd, Int.reduceSub, Int.reduceMul, Int.reduceNeg, Int.reduceEq, Int.reduceNe, Nat.reduceMul, Nat.reduceSub, decide_true, decide_false, not_true_eq_false, not_false_eq_true, Bool.true_and, Bool.false_and, Bool.and_false, aggEq, scEq, hasSh, alS, List.filterMap_nil]
        refine ⟨d - 1, by omega, i + 1, by omega, by simp, ?_⟩
        rw [List.take_add_one, List.take_add_one, ht, List.getElem?_eq_getElem hlt1, List.getElem?_eq_getElem hlt2]
        have : a[i] = b[i] := by
          simp at hb
          cases h1 : a[i]; cases h2 : b[i]; simp_all
        rw [this]
    · obtain rfl : i = a.length := by omega
      simp (disch := first | assumption | omega) only [e13, e12, e0, e1, eh, go_sem, ↓reduceIte, Nat.reduceEqDiff, reduceCtorEq, Nat.reduceAdd, Nat.reduceLeDiff, Nat.reduceLT, wrapU32, reduceIte, Int.natCast_nonneg, Int.ofNat_lt, Int.ofNat_le, cond_true, cond_false, Int.reduceBEq, Int.reduceBNe, Int.reduceLT, Int.reduceLE, Int.reduceAdd, Int.reduceSub, Int.reduceMul, Int.reduceNeg, Int.reduceEq, Int.reduceNe, Nat.reduceMul, Nat.reduceSub, decide_true, decide_false, not_true_eq_false, not_false_eq_true, Bool.true_and, Bool.false_and, Bool.and_false, aggEq, scEq, hasSh, alS, List.filterMap_nil]
      subst hQ
      simp (disch := first | assumption | omega) only [R.slices_Equal_Cell, go_sem, ↓reduceIte, Nat.reduceEqDiff, reduceCtorEq, Nat.reduceAdd, Nat.reduceLeDiff, Nat.reduceLT, wrapU32, reduceIte, Int.natCast_nonneg, Int.ofNat_lt, Int.ofNat_le, cond_true, cond_false, Int.reduceBEq, Int.reduceBNe, Int.reduceLT, Int.reduceLE, Int.reduceAdd, Int.reduceSub, Int.reduceMul, Int.reduceNeg, Int.reduceEq, Int.reduceNe, Nat.reduceMul, Nat.reduceSub, decide_true, decide_false, not_true_eq_false, not_false_eq_true, Bool.true_and, Bool.false_and, Bool.and_false, aggEq, scEq, hasSh, alS, List.filterMap_nil]
      rw [List.take_length, he, List.take_length] at ht
      simp [ht, eh]
  · have hd : ¬((a.length : Int) = b.length) := by omega
    have hd2 : ((a.length : Int) != b.length) = true := by simpa using hd
    simp (disch := first | assumption | omega) only [hd2, go_sem, ↓reduceIte, Nat.reduceEqDiff, reduceCtorEq, Nat.reduceAdd, Nat.reduceLeDiff, Nat.reduceLT, wrapU32, reduceIte, Int.natCast_nonneg, Int.ofNat_lt, Int.ofNat_le, cond_true, cond_false, Int.reduceBEq, Int.reduceBNe, Int.reduceLT, Int.reduceLE, Int.reduceAdd, Int.reduceSub, Int.reduceMul, Int.reduceNeg, Int.reduceEq, Int.reduceNe, Nat.reduceMul, Nat.reduceSub, decide_true, decide_false, not_true_eq_false, not_false_eq_true, Bool.true_and, Bool.false_and, Bool.and_false, aggEq, scEq, hasSh, alS, List.filterMap_nil]
    subst hQ
    simp (disch := first | assumption | omega) only [R.slices_Equal_Cell, go_sem, ↓reduceIte, Nat.reduceEqDiff, reduceCtorEq, Nat.reduceAdd, Nat.reduceLeDiff, Nat.reduceLT, wrapU32, reduceIte, Int.natCast_nonneg, Int.ofNat_lt, Int.ofNat_le, cond_true, cond_false, Int.reduceBEq, Int.reduceBNe, Int.reduceLT, Int.reduceLE, Int.reduceAdd, Int.reduceSub, Int.reduceMul, Int.reduceNeg, Int.reduceEq, Int.reduceNe, Nat.reduceMul, Nat.reduceSub, decide_true, decide_false, not_true_eq_false, not_false_eq_true, Bool.true_and, Bool.false_and, Bool.and_false, aggEq, scEq, hasSh, alS, List.filterMap_nil]
    have : a ≠ b := by rintro rfl; exact he rfl
    simp [this]
theorem CloneCell_ok (o : Own) (l : List Cell) (ho : Rdn o l) (hl : l.length * 16 ≤ reachBytes) (h : List HObj) :
    ACalls Try.prog F.slices_Clone_Cell [.lst o (cellsA l)] h (fun r h' => (∃ o', r = .lst o' (cellsA l) ∧ (o' = .nil ∧ l = [] ∨ o' = .app 2)) ∧ h' = h) := by
  have h1 := ho.1
  refine ACalls.of_aw Try.func148 K.slices_Clone_Cell (by simp [Try.f148]) ?_
  generalize hQ : retQ R.slices_Clone_Cell _ = Q
  simp (disch := first | assumption | omega) only [C.slices_Clone_Cell, go_sem, ↓reduceIte, Nat.reduceEqDiff, reduceCtorEq, Nat.reduceAdd, Nat.reduceLeDiff, Nat.reduceLT, wrapU32, reduceIte, Int.natCast_nonneg, Int.ofNat_lt, Int.ofNat_le, cond_true, cond_false, Int.reduceBEq, Int.reduceBNe, Int.reduceLT, Int.reduceLE, Int.reduceAdd, Int.reduceSub, Int.reduceMul, Int.reduceNeg, Int.reduceEq, Int.reduceNe, Nat.reduceMul, Nat.reduceSub, decide_true, decide_false, not_true_eq_false, not_false_eq_true, Bool.true_and, Bool.false_and, Bool.and_false, aggEq, scEq, hasSh, alS, List.filterMap_nil]
  refine aops_isnilR (o := o) (xs := cellsA l) (by simp (disch := first | assumption | omega) only [go_sem, ↓reduceIte, Nat.reduceEqDiff, reduceCtorEq, Nat.reduceAdd, Nat.reduceLeDiff, Nat.reduceLT, wrapU32, reduceIte, Int.natCast_nonneg, Int.ofNat_lt, Int.ofNat_le, cond_true, cond_false, Int.reduceBEq, Int.reduceBNe, Int.reduceLT, Int.reduceLE, Int.reduceAdd, Int.reduceSub, Int.reduceMul, Int.reduceNeg, Int.reduceEq, Int.reduceNe, Nat.reduceMul, Nat.reduceSub, decide_true, decide_false, not_true_eq_false, not_false_eq_true, Bool.true_and, Bool.false_and, Bool.and_false, aggEq, scEq, hasSh, alS, List.filterMap_nil]) h1 (fun e => by rw [ho.2 e]; rfl) fun b hb => ?_
  cases b
  · simp (disch := first | assumption | omega) only [go_sem, ↓reduceIte, Nat.reduceEqDiff, reduceCtorEq, Nat.reduceAdd, Nat.reduceLeDiff, Nat.reduceLT, wrapU32, reduceIte, Int.natCast_nonneg, Int.ofNat_lt, Int.ofNat_le, cond_true, cond_false, Int.reduceBEq, Int.reduceBNe, Int.reduceLT, Int.reduceLE, Int.reduceAdd, Int.reduceSub, Int.reduceMul, Int.reduceNeg, Int.reduceEq, Int.reduceNe, Nat.reduceMul, Nat.reduceSub, decide_true, decide_false, not_true_eq_false, not_false_eq_true, Bool.true_and, Bool.false_and, Bool.and_false, aggEq, scEq, hasSh, alS, List.filterMap_nil]
    refine ⟨fun v hv => ?_, by unfold reachBytes at hl; omega, by unfold reachBytes at hl; omega, ?_⟩
    · obtain ⟨c, _, rfl⟩ := List.mem_map.1 hv; rfl
    subst hQ
    simp (disch := first | assumption | omega) only [R.slices_Clone_Cell, go_sem, ↓reduceIte, Nat.reduceEqDiff, reduceCtorEq, Nat.reduceAdd, Nat.reduceLeDiff, Nat.reduceLT, wrapU32, reduceIte, Int.natCast_nonneg, Int.ofNat_lt, Int.ofNat_le, cond_true, cond_false, Int.reduceBEq, Int.reduceBNe, Int.reduceLT, Int.reduceLE, Int.reduceAdd, Int.reduceSub, Int.reduceMul, Int.reduceNeg, Int.reduceEq, Int.reduceNe, Nat.reduceMul, Nat.reduceSub, decide_true, decide_false, not_true_eq_false, not_false_eq_true, Bool.true_and, Bool.false_and, Bool.and_false, aggEq, scEq, hasSh, alS, List.filterMap_nil]
    exact ⟨_, rfl, .inr rfl⟩
  · have : l = [] := by
      refine Classical.byContradiction fun h0 => ?_
      have := hb (by simpa [cellsA] using h0)
      cases this
    subst this
    simp (disch := first | assumption | omega) only [go_sem, ↓reduceIte, Nat.reduceEqDiff, reduceCtorEq, Nat.reduceAdd, Nat.reduceLeDiff, Nat.reduceLT, wrapU32, reduceIte, Int.natCast_nonneg, Int.ofNat_lt, Int.ofNat_le, cond_true, cond_false, Int.reduceBEq, Int.reduceBNe, Int.reduceLT, Int.reduceLE, Int.reduceAdd, Int.reduceSub, Int.reduceMul, Int.reduceNeg, Int.reduceEq, Int.reduceNe, Nat.reduceMul, Nat.reduceSub, decide_true, decide_false, not_true_eq_false, not_false_eq_true, Bool.true_and, Bool.false_and, Bool.and_false, aggEq, scEq, hasSh, alS, List.filterMap_nil]
    subst hQ
    simp (disch := first | assumption | omega) only [R.slices_Clone_Cell, go_sem, ↓reduceIte, Nat.reduceEqDiff, reduceCtorEq, Nat.reduceAdd, Nat.reduceLeDiff, Nat.reduceLT, wrapU32, reduceIte, Int.natCast_nonneg, Int.ofNat_lt, Int.ofNat_le, cond_true, cond_false, Int.reduceBEq, Int.reduceBNe, Int.reduceLT, Int.reduceLE, Int.reduceAdd, Int.reduceSub, Int.reduceMul, Int.reduceNeg, Int.reduceEq, Int.reduceNe, Nat.reduceMul, Nat.reduceSub, decide_true, decide_false, not_true_eq_false, not_false_eq_true, Bool.true_and, Bool.false_and, Bool.and_false, aggEq, scEq, hasSh, alS, List.filterMap_nil]
    exact ⟨.nil, by simp [cellsA], by simp⟩
theorem same_ok (o1 o2 : Own) (a b : Msg) (h1 : Rdo o1) (h2 : Rdo o2) (hl : a.Cells.length < 4611686018427387904) (hl2 : b.Cells.length < 4611686018427387904) (h : List HObj) :
    ACalls Try.prog F.gantlaw5_same [msgA o1 a, msgA o2 b] h (fun r h' => r = .bool (decide (a = b)) ∧ h' = h) := by
  refine ACalls.of_aw Try.func48 K.gantlaw5_same (by simp [Try.f48]) ?_
  generalize hQ : retQ R.gantlaw5_same _ = Q
  simp (disch := first | assumption | omega) only [C.gantlaw5_same, go_sem, ↓reduceIte, Nat.reduceEqDiff, reduceCtorEq, Nat.reduceAdd, Nat.reduceLeDiff, Nat.reduceLT, wrapU32, reduceIte, Int.natCast_nonneg, Int.ofNat_lt, Int.ofNat_le, cond_true, cond_false, Int.reduceBEq, Int.reduceBNe, Int.reduceLT, Int.reduceLE, Int.reduceAdd, Int.reduceSub, Int.reduceMul, Int.reduceNeg, Int.reduceEq, Int.reduceNe, Nat.reduceMul, Nat.reduceSub, decide_true, decide_false, not_true_eq_false, not_false_eq_true, Bool.true_and, Bool.false_and, Bool.and_false, aggEq, scEq, hasSh, alS, List.filterMap_nil]
  simp (disch := first | assumption | omega) only [msgA, msgC, go_sem, ↓reduceIte, Nat.reduceEqDiff, reduceCtorEq, Nat.reduceAdd, Nat.reduceLeDiff, Nat.reduceLT, wrapU32, reduceIte, Int.natCast_nonneg, Int.ofNat_lt, Int.ofNat_le, cond_true, cond_false, Int.reduceBEq, Int.reduceBNe, Int.reduceLT, Int.reduceLE, Int.reduceAdd, Int.reduceSub, Int.reduceMul, Int.reduceNeg, Int.reduceEq, Int.reduceNe, Nat.reduceMul, Nat.reduceSub, decide_true, decide_false, not_true_eq_false, not_false_eq_true, Bool.true_and, Bool.false_and, Bool.and_false, aggEq, scEq, hasSh, alS, List.filterMap_nil]
  refine aopsG_split (fun hb1 => ?_) (fun hb1 => ?_)
  rotate_left
  · simp (disch := first | assumption | omega) only [hb1, go_sem, ↓reduceIte, Nat.reduceEqDiff, reduceCtorEq, Nat.reduceAdd, Nat.reduceLeDiff, Nat.reduceLT, wrapU32, reduceIte, Int.natCast_nonneg, Int.ofNat_lt, Int.ofNat_le, cond_true, cond_false, Int.reduceBEq, Int.reduceBNe, Int.reduceLT, Int.reduceLE, Int.reduceAdd, Int.reduceSub, Int.reduceMul, Int.reduceNeg, Int.reduceEq, Int.reduceNe, Nat.reduceMul, Nat.reduceSub, decide_true, decide_false, not_true_eq_false, not_false_eq_true, Bool.true_and, Bool.false_and, Bool.and_false, aggEq, scEq, hasSh, alS, List.filterMap_nil]
    subst hQ
    simp (disch := first | assumption | omega) only [R.gantlaw5_same, go_sem, ↓reduceIte, Nat.reduceEqDiff, reduceCtorEq, Nat.reduceAdd, Nat.reduceLeDiff, Nat.reduceLT, wrapU32, reduceIte, Int.natCast_nonneg, Int.ofNat_lt, Int.ofNat_le, cond_true, cond_false, Int.reduceBEq, Int.reduceBNe, Int.reduceLT, Int.reduceLE, Int.reduceAdd, Int.reduceSub, Int.reduceMul, Int.reduceNeg, Int.reduceEq, Int.reduceNe, Nat.reduceMul, Nat.reduceSub, decide_true, decide_false, not_true_eq_false, not_false_eq_true, Bool.true_and, Bool.false_and, Bool.and_false, aggEq, scEq, hasSh, alS, List.filterMap_nil]
    have : a ≠ b := by rintro rfl; simp at hb1
    simp [this]
  simp (disch := first | assumption | omega) only [hb1, go_sem, ↓reduceIte, Nat.reduceEqDiff, reduceCtorEq, Nat.reduceAdd, Nat.reduceLeDiff, Nat.reduceLT, wrapU32, reduceIte, Int.natCast_nonneg, Int.ofNat_lt, Int.ofNat_le, cond_true, cond_false, Int.reduceBEq, Int.reduceBNe, Int.reduceLT, Int.reduceLE, Int.reduceAdd, Int.reduceSub, Int.reduceMul, Int.reduceNeg, Int.reduceEq, Int.reduceNe, Nat.reduceMul, Nat.reduceSub, decide_true, decide_false, not_true_eq_false, not_false_eq_true, Bool.true_and, Bool.false_and, Bool.and_false, aggEq, scEq, hasSh, alS, List.filterMap_nil]
  refine aopsG_split (fun hb2 => ?_) (fun hb2 => ?_)
  rotate_left
  · simp (disch := first | assumption | omega) only [hb1, hb2, go_sem, ↓reduceIte, Nat.reduceEqDiff, reduceCtorEq, Nat.reduceAdd, Nat.reduceLeDiff, Nat.reduceLT, wrapU32, reduceIte, Int.natCast_nonneg, Int.ofNat_lt, Int.ofNat_le, cond_true, cond_false, Int.reduceBEq, Int.reduceBNe, Int.reduceLT, Int.reduceLE, Int.reduceAdd, Int.reduceSub, Int.reduceMul, Int.reduceNeg, Int.reduceEq, Int.reduceNe, Nat.reduceMul, Nat.reduceSub, decide_true, decide_false, not_true_eq_false, not_false_eq_true, Bool.true_and, Bool.false_and, Bool.and_false, aggEq, scEq, hasSh, alS, List.filterMap_nil]
    subst hQ
    simp (disch := first | assumption | omega) only [R.gantlaw5_same, go_sem, ↓reduceIte, Nat.reduceEqDiff, reduceCtorEq, Nat.reduceAdd, Nat.reduceLeDiff, Nat.reduceLT, wrapU32, reduceIte, Int.natCast_nonneg, Int.ofNat_lt, Int.ofNat_le, cond_true, cond_false, Int.reduceBEq, Int.reduceBNe, Int.reduceLT, Int.reduceLE, Int.reduceAdd, Int.reduceSub, Int.reduceMul, Int.reduceNeg, Int.reduceEq, Int.reduceNe, Nat.reduceMul, Nat.reduceSub, decide_true, decide_false, not_true_eq_false, not_false_eq_true, Bool.true_and, Bool.false_and, Bool.and_false, aggEq, scEq, hasSh, alS, List.filterMap_nil]
    have : a ≠ b := by rintro rfl; simp at hb2
    simp [this]
  simp (disch := first | assumption | omega) only [hb1, hb2, go_sem, ↓reduceIte, Nat.reduceEqDiff, reduceCtorEq, Nat.reduceAdd, Nat.reduceLeDiff, Nat.reduceLT, wrapU32, reduceIte, Int.natCast_nonneg, Int.ofNat_lt, Int.ofNat_le, cond_true, cond_false, Int.reduceBEq, Int.reduceBNe, Int.reduceLT, Int.reduceLE, Int.reduceAdd, Int.reduceSub, Int.reduceMul, Int.reduceNeg, Int.reduceEq, Int.reduceNe, Nat.reduceMul, Nat.reduceSub, decide_true, decide_false, not_true_eq_false, not_false_eq_true, Bool.true_and, Bool.false_and, Bool.and_false, aggEq, scEq, hasSh, alS, List.filterMap_nil]
  refine aopsG_split (fun hb3 => ?_) (fun hb3 => ?_)
  rotate_left
  · simp (disch := first | assumption | omega) only [hb1, hb2, hb3, go_sem, ↓reduceIte, Nat.reduceEqDiff, reduceCtorEq, Nat.reduceAdd, Nat.reduceLeDiff, Nat.reduceLT, wrapU32, reduceIte, Int.natCast_nonneg, Int.ofNat_lt, Int.ofNat_le, cond_true, cond_false, Int.reduceBEq, Int.reduceBNe, Int.reduceLT, Int.reduceLE, Int.reduceAdd, Int.reduceSub, Int.reduceMul, Int.reduceNeg, Int.reduceEq, Int.reduceNe, Nat.reduceMul, Nat.reduceSub, decide_true, decide_false, not_true_eq_false, not_false_eq_true, Bool.true_and, Bool.false_and, Bool.and_false, aggEq, scEq, hasSh, alS, List.filterMap_nil]
    subst hQ
    simp (disch := first | assumption | omega) only [R.gantlaw5_same, go_sem, ↓reduceIte, Nat.reduceEqDiff, reduceCtorEq, Nat.reduceAdd, Nat.reduceLeDiff, Nat.reduceLT, wrapU32, reduceIte, Int.natCast_nonneg, Int.ofNat_lt, Int.ofNat_le, cond_true, cond_false, Int.reduceBEq, Int.reduceBNe, Int.reduceLT, Int.reduceLE, Int.reduceAdd, Int.reduceSub, Int.reduceMul, Int.reduceNeg, Int.reduceEq, Int.reduceNe, Nat.reduceMul, Nat.reduceSub, decide_true, decide_false, not_true_eq_false, not_false_eq_true, Bool.true_and, Bool.false_and, Bool.and_false, aggEq, scEq, hasSh, alS, List.filterMap_nil]
    have : a ≠ b := by rintro rfl; simp at hb3
    simp [this]
  simp (disch := first | assumption | omega) only [hb1, hb2, hb3, go_sem, ↓reduceIte, Nat.reduceEqDiff, reduceCtorEq, Nat.reduceAdd, Nat.reduceLeDiff, Nat.reduceLT, wrapU32, reduceIte, Int.natCast_nonneg, Int.ofNat_lt, Int.ofNat_le, cond_true, cond_false, Int.reduceBEq, Int.reduceBNe, Int.reduceLT, Int.reduceLE, Int.reduceAdd, Int.reduceSub, Int.reduceMul, Int.reduceNeg, Int.reduceEq, Int.reduceNe, Nat.reduceMul, Nat.reduceSub, decide_true, decide_false, not_true_eq_false, not_false_eq_true, Bool.true_and, Bool.false_and, Bool.and_false, aggEq, scEq, hasSh, alS, List.filterMap_nil]
  refine aopsG_split (fun hb4 => ?_) (fun hb4 => ?_)
  rotate_left
  · simp (disch := first | assumption | omega) only [hb1, hb2, hb3, hb4, go_sem, ↓reduceIte, Nat.reduceEqDiff, reduceCtorEq, Nat.reduceAdd, Nat.reduceLeDiff, Nat.reduceLT, wrapU32, reduceIte, Int.natCast_nonneg, Int.ofNat_lt, Int.ofNat_le, cond_true, cond_false, Int.reduceBEq, Int.reduceBNe, Int.reduceLT, Int.reduceLE, Int.reduceAdd, Int.reduceSub, Int.reduceMul, Int.reduceNeg, Int.reduceEq, Int.reduceNe, Nat.reduceMul, Nat.reduceSub, decide_true, decide_false, not_true_eq_false, not_false_eq_true, Bool.true_and, Bool.false_and, Bool.and_false, aggEq, scEq, hasSh, alS, List.filterMap_nil]
    subst hQ
    simp (disch := first | assumption | omega) only [R.gantlaw5_same, go_sem, ↓reduceIte, Nat.reduceEqDiff, reduceCtorEq, Nat.reduceAdd, Nat.reduceLeDiff, Nat.reduceLT, wrapU32, reduceIte, Int.natCast_nonneg, Int.ofNat_lt, Int.ofNat_le, cond_true, cond_false, Int.reduceBEq, Int.reduceBNe, Int.reduceLT, Int.reduceLE, Int.reduceAdd, Int.reduceSub, Int.reduceMul, Int.reduceNeg, Int.reduceEq, Int.reduceNe, Nat.reduceMul, Nat.reduceSub, decide_true, decide_false, not_true_eq_false, not_false_eq_true, Bool.true_and, Bool.false_and, Bool.and_false, aggEq, scEq, hasSh, alS, List.filterMap_nil]
    have : a ≠ b := by rintro rfl; simp at hb4
    simp [this]
  simp (disch := first | assumption | omega) only [hb1, hb2, hb3, hb4, go_sem, ↓reduceIte, Nat.reduceEqDiff, reduceCtorEq, Nat.reduceAdd, Nat.reduceLeDiff, Nat.reduceLT, wrapU32, reduceIte, Int.natCast_nonneg, Int.ofNat_lt, Int.ofNat_le, cond_true, cond_false, Int.reduceBEq, Int.reduceBNe, Int.reduceLT, Int.reduceLE, Int.reduceAdd, Int.reduceSub, Int.reduceMul, Int.reduceNeg, Int.reduceEq, Int.reduceNe, Nat.reduceMul, Nat.reduceSub, decide_true, decide_false, not_true_eq_false, not_false_eq_true, Bool.true_and, Bool.false_and, Bool.and_false, aggEq, scEq, hasSh, alS, List.filterMap_nil]
  refine aopsG_split (fun hb5 => ?_) (fun hb5 => ?_)
  rotate_left
  · simp (disch := first | assumption | omega) only [hb1, hb2, hb3, hb4, hb5, go_sem, ↓reduceIte, Nat.reduceEqDiff, reduceCtorEq, Nat.reduceAdd, Nat.reduceLeDiff, Nat.reduceLT, wrapU32, reduceIte, Int.natCast_nonneg, Int.ofNat_lt, Int.ofNat_le, cond_true, cond_false, Int.reduceBEq, Int.reduceBNe, Int.reduceLT, Int.reduceLE, Int.reduceAdd, Int.reduceSub, Int.reduceMul, Int.reduceNeg, Int.reduceEq, Int.reduceNe, Nat.reduceMul, Nat.reduceSub, decide_true, decide_false, not_true_eq_false, not_false_eq_true, Bool.true_and, Bool.false_and, Bool.and_false, aggEq, scEq, hasSh, alS, List.filterMap_nil]
    subst hQ
    simp (disch := first | assumption | omega) only [R.gantlaw5_same, go_sem, ↓reduceIte, Nat.reduceEqDiff, reduceCtorEq, Nat.reduceAdd, Nat.reduceLeDiff, Nat.reduceLT, wrapU32, reduceIte, Int.natCast_nonneg, Int.ofNat_lt, Int.ofNat_le, cond_true, cond_false, Int.reduceBEq, Int.reduceBNe, Int.reduceLT, Int.reduceLE, Int.reduceAdd, Int.reduceSub, Int.reduceMul, Int.reduceNeg, Int.reduceEq, Int.reduceNe, Nat.reduceMul, Nat.reduceSub, decide_true, decide_false, not_true_eq_false, not_false_eq_true, Bool.true_and, Bool.false_and, Bool.and_false, aggEq, scEq, hasSh, alS, List.filterMap_nil]
    have : a ≠ b := by rintro rfl; simp at hb5
    simp [this]
  simp (disch := first | assumption | omega) only [hb1, hb2, hb3, hb4, hb5, go_sem, ↓reduceIte, Nat.reduceEqDiff, reduceCtorEq, Nat.reduceAdd, Nat.reduceLeDiff, Nat.reduceLT, wrapU32, reduceIte, Int.natCast_nonneg, Int.ofNat_lt, Int.ofNat_le, cond_true, cond_false, Int.reduceBEq, Int.reduceBNe, Int.reduceLT, Int.reduceLE, Int.reduceAdd, Int.reduceSub, Int.reduceMul, Int.reduceNeg, Int.reduceEq, Int.reduceNe, Nat.reduceMul, Nat.reduceSub, decide_true, decide_false, not_true_eq_false, not_false_eq_true, Bool.true_and, Bool.false_and, Bool.and_false, aggEq, scEq, hasSh, alS, List.filterMap_nil]
  refine callG_ok (EqualCell_ok o1 o2 a.Cells b.Cells h1 h2 hl hl2 _) (by simp (disch := first | assumption | omega) only [go_sem, ↓reduceIte, Nat.reduceEqDiff, reduceCtorEq, Nat.reduceAdd, Nat.reduceLeDiff, Nat.reduceLT, wrapU32, reduceIte, Int.natCast_nonneg, Int.ofNat_lt, Int.ofNat_le, cond_true, cond_false, Int.reduceBEq, Int.reduceBNe, Int.reduceLT, Int.reduceLE, Int.reduceAdd, Int.reduceSub, Int.reduceMul, Int.reduceNeg, Int.reduceEq, Int.reduceNe, Nat.reduceMul, Nat.reduceSub, decide_true, decide_false, not_true_eq_false, not_false_eq_true, Bool.true_and, Bool.false_and, Bool.and_false, aggEq, scEq, hasSh, alS, List.filterMap_nil]) ?_
  rintro _ _ ⟨rfl, hhh⟩
  try rw [hhh]
  clear hhh
  simp (disch := first | assumption | omega) only [go_sem, ↓reduceIte, Nat.reduceEqDiff, reduceCtorEq, Nat.reduceAdd, Nat.reduceLeDiff, Nat.reduceLT, wrapU32, reduceIte, Int.natCast_nonneg, Int.ofNat_lt, Int.ofNat_le, cond_true, cond_false, Int.reduceBEq, Int.reduceBNe, Int.reduceLT, Int.reduceLE, Int.reduceAdd, Int.reduceSub, Int.reduceMul, Int.reduceNeg, Int.reduceEq, Int.reduceNe, Nat.reduceMul, Nat.reduceSub, decide_true, decide_false, not_true_eq_false, not_false_eq_true, Bool.true_and, Bool.false_and, Bool.and_false, aggEq, scEq, hasSh, alS, List.filterMap_nil]
  subst hQ
  simp (disch := first | assumption | omega) only [R.gantlaw5_same, go_sem, ↓reduceIte, Nat.reduceEqDiff, reduceCtorEq, Nat.reduceAdd, Nat.reduceLeDiff, Nat.reduceLT, wrapU32, reduceIte, Int.natCast_nonneg, Int.ofNat_lt, Int.ofNat_le, cond_true, cond_false, Int.reduceBEq, Int.reduceBNe, Int.reduceLT, Int.reduceLE, Int.reduceAdd, Int.reduceSub, Int.reduceMul, Int.reduceNeg, Int.reduceEq, Int.reduceNe, Nat.reduceMul, Nat.reduceSub, decide_true, decide_false, not_true_eq_false, not_false_eq_true, Bool.true_and, Bool.false_and, Bool.and_false, aggEq, scEq, hasSh, alS, List.filterMap_nil]
  have : decide (a.Cells = b.Cells) = decide (a = b) := by
    cases a; cases b; simp at hb1 hb2 hb3 hb4 hb5; simp_all
  rw [this]
end Go.Proofs.Ytpdajkbfemcdlaa
/- Annotated code of functions, checked against the program. -/
namespace Go.Proofs.Ytpdajkbfemcdlaa
open Go.Ge
/-- slices.EqualFunc[[]gantry/api.Msg,[]gantry/api.Msg,gantry/api.Msg,gantry/api.Msg] -/
def C.slices_EqualFunc_Msg : ACode :=
  .seq (.region [
    ⟨some 6, .move false (.c (.bool false)), none⟩]) (
  .seq (.seq (.region [
    ⟨some 10, .move false (.t 0), none⟩, 
    ⟨some 11, .len (.t 10), none⟩, 
    ⟨some 12, .move false (.t 1), none⟩, 
    ⟨some 13, .len (.t 12), none⟩, 
    ⟨some 14, .bin .neq (.t 11) (.t 13), none⟩]) (
  .cond (.t 14) (.seq (.region [
    ⟨some 6, .move false (.c (.bool false)), none⟩]) (
  .ret)) (.skip))) (
  .seq (.seq (.region [
    ⟨some 15, .move false (.t 0), none⟩, 
    ⟨some 16, .len (.t 15), none⟩, 
    ⟨some 17, .move false (.c (.int .i64 0)), none⟩]) (
  .block 0 (.loop (.seq (.region [
    ⟨some 18, .bin .lss (.t 17) (.t 16), none⟩]) (
  .seq (.cond (.t 18) (.skip) (.exit 0)) (
  .seq (.block 1 (.seq (.region [
    ⟨some 19, .move false (.t 17), none⟩, 
    ⟨some 20, .iaddr 6 (.t 15) (.t 17), none⟩, 
    ⟨some 21, .load 2 true 6 (.t 20), none⟩, 
    ⟨some 8, .alloc false [(.int .i64 0), (.int .i64 0), (.int .i64 0), (.int .i64 0), (.int .u32 0), (.lst .nil [])], none⟩, 
    ⟨some 7, .move false (.t 19), none⟩, 
    ⟨none, .store 6 (.t 8) (.t 21), none⟩]) (
  .seq (.region [
    ⟨some 22, .move false (.t 1), none⟩, 
    ⟨some 23, .move false (.t 7), none⟩, 
    ⟨some 24, .iaddr 6 (.t 22) (.t 23), none⟩, 
    ⟨some 25, .load 2 true 6 (.t 24), none⟩, 
    ⟨some 9, .alloc false [(.int .i64 0), (.int .i64 0), (.int .i64 0), (.int .i64 0), (.int .u32 0), (.lst .nil [])], none⟩, 
    ⟨none, .store 6 (.t 9) (.t 25), none⟩]) (
  .seq (.region [
    ⟨some 26, .move false (.t 2), none⟩, 
    ⟨some 27, .load 2 true 6 (.t 8), none⟩, 
    ⟨some 28, .load 2 true 6 (.t 9), none⟩, 
    ⟨some 29, .callv true (.t 26) [(.t 27), (.t 28)], none⟩, 
    ⟨some 30, .un .not (.t 29), none⟩]) (
  .cond (.t 30) (.seq (.region [
    ⟨some 6, .move false (.c (.bool false)), none⟩]) (
  .ret)) (.skip)))))) (
  .region [
    ⟨some 31, .bin .add (.t 17) (.c (.int .i64 1)), none⟩, 
    ⟨some 17, .move false (.t 31), none⟩]))))))) (
  .seq (.region [
    ⟨some 6, .move false (.c (.bool true)), none⟩]) (
  .ret))))
def R.slices_EqualFunc_Msg : List ARes := [.t 6]
set_option maxRecDepth 100000 in
theorem K.slices_EqualFunc_Msg : ckFun Try.prog Try.f60 C.slices_EqualFunc_Msg R.slices_EqualFunc_Msg = true := by kernel_rfl
end Go.Proofs.Ytpdajkbfemcdlaa
/- Contracts: lists of messages; what a controller says when it comes back. -/
set_option linter.unusedSimpArgs false
set_option linter.unusedVariables false
set_option maxRecDepth 10000
namespace Go.Proofs.Ytpdajkbfemcdlaa
open Go.Ge
/-- Messages that may be read. -/
def MsgOk (m : Msg) (x : AVal) : Prop := ∃ o, Rdn o m.Cells ∧ m.Cells.length * 16 ≤ reachBytes ∧ x = msgA o m
def MsgsOk : List Msg → List AVal → Prop
  | [], xs => xs = []
  | m :: l, xs => ∃ x ys, xs = x :: ys ∧ MsgOk m x ∧ MsgsOk l ys
theorem MsgsOk.length : ∀ {l : List Msg} {xs : List AVal}, MsgsOk l xs → xs.length = l.length
  | [], xs, h => by simp only [MsgsOk] at h; subst h; rfl
  | m :: l, xs, h => by
    simp only [MsgsOk] at h
    obtain ⟨x, ys, rfl, _, h⟩ := h
    simp [h.length]
theorem MsgsOk.at : ∀ {l : List Msg} {xs : List AVal}, MsgsOk l xs → ∀ (i : Nat) (hi : i < l.length), MsgOk l[i] (at_ xs (i : Int))
  | m :: l, xs, h, 0, _ => by
    simp only [MsgsOk] at h
    obtain ⟨x, ys, rfl, h1, h⟩ := h
    simpa [at_] using h1
  | m :: l, xs, h, i + 1, hi => by
    simp only [MsgsOk] at h
    obtain ⟨x, ys, rfl, h1, h⟩ := h
    have := h.at i (by simpa using hi)
    simpa [at_] using this
theorem EqualFunc_ok (o1 o2 : Own) (a b : List Msg) (xs ys : List AVal) (h1 : Rdo o1) (h2 : Rdo o2) (ha : MsgsOk a xs) (hb : MsgsOk b ys) (hl : a.length < 4611686018427387904) (hl2 : b.length < 4611686018427387904) (h : List HObj) :
    ACalls Try.prog F.slices_EqualFunc_Msg [.lst o1 xs, .lst o2 ys, .func F.gantlaw5_same []] h (fun r h' => r = .bool (decide (a = b)) ∧ h' = h) := by
  have la := ha.length
  have lb := hb.length
  refine ACalls.of_aw Try.func60 K.slices_EqualFunc_Msg (by simp [Try.f60]) ?_
  generalize hQ : retQ R.slices_EqualFunc_Msg _ = Q
  simp (disch := first | assumption | omega) only [C.slices_EqualFunc_Msg, go_sem, ↓reduceIte, Nat.reduceEqDiff, reduceCtorEq, Nat.reduceAdd, Nat.reduceLeDiff, Nat.reduceLT, wrapU32, reduceIte, Int.natCast_nonneg, Int.ofNat_lt, Int.ofNat_le, cond_true, cond_false, Int.reduceBEq, Int.reduceBNe, Int.reduceLT, Int.reduceLE, Int.reduceAdd, Int.reduceSub, Int.reduceMul, Int.reduceNeg, Int.reduceEq, Int.reduceNe, Nat.reduceMul, Nat.reduceSub, decide_true, decide_false, not_true_eq_false, not_false_eq_true, Bool.true_and, Bool.false_and, Bool.and_false, aggEq, scEq, hasSh, alS, List.filterMap_nil, int_beq, int_bne, eq_self]
  refine condG_ifn (fun hne => ?_) fun heq => ?_
  · simp (disch := first | assumption | omega) only [go_sem, ↓reduceIte, Nat.reduceEqDiff, reduceCtorEq, Nat.reduceAdd, Nat.reduceLeDiff, Nat.reduceLT, wrapU32, reduceIte, Int.natCast_nonneg, Int.ofNat_lt, Int.ofNat_le, cond_true, cond_false, Int.reduceBEq, Int.reduceBNe, Int.reduceLT, Int.reduceLE, Int.reduceAdd, Int.reduceSub, Int.reduceMul, Int.reduceNeg, Int.reduceEq, Int.reduceNe, Nat.reduceMul, Nat.reduceSub, decide_true, decide_false, not_true_eq_false, not_false_eq_true, Bool.true_and, Bool.false_and, Bool.and_false, aggEq, scEq, hasSh, alS, List.filterMap_nil, int_beq, int_bne, eq_self]
    subst hQ
    simp (disch := first | assumption | omega) only [R.slices_EqualFunc_Msg, go_sem, ↓reduceIte, Nat.reduceEqDiff, reduceCtorEq, Nat.reduceAdd, Nat.reduceLeDiff, Nat.reduceLT, wrapU32, reduceIte, Int.natCast_nonneg, Int.ofNat_lt, Int.ofNat_le, cond_true, cond_false, Int.reduceBEq, Int.reduceBNe, Int.reduceLT, Int.reduceLE, Int.reduceAdd, Int.reduceSub, Int.reduceMul, Int.reduceNeg, Int.reduceEq, Int.reduceNe, Nat.reduceMul, Nat.reduceSub, decide_true, decide_false, not_true_eq_false, not_false_eq_true, Bool.true_and, Bool.false_and, Bool.and_false, aggEq, scEq, hasSh, alS, List.filterMap_nil, int_beq, int_bne, eq_self]
    have : a ≠ b := by rintro rfl; omega
    simp [this]
  · have he : a.length = b.length := by omega
    simp (disch := first | assumption | omega) only [go_sem, ↓reduceIte, Nat.reduceEqDiff, reduceCtorEq, Nat.reduceAdd, Nat.reduceLeDiff, Nat.reduceLT, wrapU32, reduceIte, Int.natCast_nonneg, Int.ofNat_lt, Int.ofNat_le, cond_true, cond_false, Int.reduceBEq, Int.reduceBNe, Int.reduceLT, Int.reduceLE, Int.reduceAdd, Int.reduceSub, Int.reduceMul, Int.reduceNeg, Int.reduceEq, Int.reduceNe, Nat.reduceMul, Nat.reduceSub, decide_true, decide_false, not_true_eq_false, not_false_eq_true, Bool.true_and, Bool.false_and, Bool.and_false, aggEq, scEq, hasSh, alS, List.filterMap_nil, int_beq, int_bne, eq_self]
    refine aw_count (fun d S => ∃ (i : Nat), i + d = a.length ∧ S.env 17 = .int .i64 i ∧ S.env 16 = .int .i64 xs.length ∧ S.env 15 = .lst o1 xs ∧ S.env 1 = .lst o2 ys ∧ S.env 2 = .func F.gantlaw5_same [] ∧ a.take i = b.take i ∧ S.heap = h) (n := a.length) ⟨0, by simp [go_sem]⟩ ?_
    rintro d S ⟨i, hi, e17, e16, e15, e1, e2, ht, eh⟩
    simp (disch := first | assumption | omega) only [e17, e16, e15, e1, e2, eh, go_sem, ↓reduceIte, Nat.reduceEqDiff, reduceCtorEq, Nat.reduceAdd, Nat.reduceLeDiff, Nat.reduceLT, wrapU32, reduceIte, Int.natCast_nonneg, Int.ofNat_lt, Int.ofNat_le, cond_true, cond_false, Int.reduceBEq, Int.reduceBNe, Int.reduceLT, Int.reduceLE, Int.reduceAdd, Int.reduceSub, Int.reduceMul, Int.reduceNeg, Int.reduceEq, Int.reduceNe, Nat.reduceMul, Nat.reduceSub, decide_true, decide_false, not_true_eq_false, not_false_eq_true, Bool.true_and, Bool.false_and, Bool.and_false, aggEq, scEq, hasSh, alS, List.filterMap_nil, int_beq, int_bne, eq_self]
    refine condG_if (fun hlt => ?_) fun hge => ?_
    · have hlt1 : i < a.length := by omega
      have hlt2 : i < b.length := by omega
      have hlt3 : i < xs.length := by omega
      have hlt4 : i < ys.length := by omega
      obtain ⟨p, hp, hpl, hx⟩ := ha.at i hlt1
      obtain ⟨q, hq, hql, hy⟩ := hb.at i hlt2
      have hp1 := hp.1
      have hq1 := hq.1
      unfold reachBytes at hpl hql
      simp (disch := first | assumption | omega) only [e17, e16, e15, e1, e2, eh, hx, hy, hlt3, hlt4, msgA, msgC, go_sem, ↓reduceIte, Nat.reduceEqDiff, reduceCtorEq, Nat.reduceAdd, Nat.reduceLeDiff, Nat.reduceLT, wrapU32, reduceIte, Int.natCast_nonneg, Int.ofNat_lt, Int.ofNat_le, cond_true, cond_false, Int.reduceBEq, Int.reduceBNe, Int.reduceLT, Int.reduceLE, Int.reduceAdd, Int.reduceSub, Int.reduceMul, Int.reduceNeg, Int.reduceEq, Int.reduceNe, Nat.reduceMul, Nat.reduceSub, decide_true, decide_false, not_true_eq_false, not_false_eq_true, Bool.true_and, Bool.false_and, Bool.and_false, aggEq, scEq, hasSh, alS, List.filterMap_nil, int_beq, int_bne, eq_self]
      refine callvG_ok (same_ok p q a[i] b[i] hp1 hq1 (by omega) (by omega) _) (by simp (disch := first | assumption | omega) only [go_sem, ↓reduceIte, Nat.reduceEqDiff, reduceCtorEq, Nat.reduceAdd, Nat.reduceLeDiff, Nat.reduceLT, wrapU32, reduceIte, Int.natCast_nonneg, Int.ofNat_lt, Int.ofNat_le, cond_true, cond_false, Int.reduceBEq, Int.reduceBNe, Int.reduceLT, Int.reduceLE, Int.reduceAdd, Int.reduceSub, Int.reduceMul, Int.reduceNeg, Int.reduceEq, Int.reduceNe, Nat.reduceMul, Nat.reduceSub, decide_true, decide_false, not_true_eq_false, not_false_eq_true, Bool.true_and, Bool.false_and, Bool.and_false, aggEq, scEq, hasSh, alS, List.filterMap_nil, int_beq, int_bne, eq_self]) ?_
      rintro _ _ ⟨rfl, hhh⟩
      rw [hhh]
      clear hhh
      by_cases hab : a[i] = b[i]
      · simp (disch := first | assumption | omega) only [e17, e16, e15, e1, e2, eh, hab, go_sem, ↓reduceIte, Nat.reduceEqDiff, reduceCtorEq, Nat.reduceAdd, Nat.reduceLeDiff, Nat.reduceLT, wrapU32, reduceIte, Int.natCast_nonneg, Int.ofNat_lt, Int.ofNat_le, cond_true, cond_false, Int.reduceBEq, Int.reduceBNe, Int.reduceLT, Int.reduceLE, Int.reduceAdd, Int.reduceSub, Int.reduceMul, Int.reduceNeg, Int.reduceEq, Int.reduceNe, Nat.reduceMul, Nat.reduceSub, decide_true, decide_false, not_true_eq_false, not_false_eq_true, Bool.true_and, Bool.false_and, Bool.and_false, aggEq, scEq, hasSh, alS, List.filterMap_nil, int_beq, int_bne, eq_self]
        refine ⟨d - 1, by omega, i + 1, by omega, by simp, ?_⟩
        rw [List.take_add_one, List.take_add_one, ht, List.getElem?_eq_getElem hlt1, List.getElem?_eq_getElem hlt2, hab]
      · simp (disch := first | assumption | omega) only [e17, e16, e15, e1, e2, eh, hab, go_sem, ↓reduceIte, Nat.reduceEqDiff, reduceCtorEq, Nat.reduceAdd, Nat.reduceLeDiff, Nat.reduceLT, wrapU32, reduceIte, Int.natCast_nonneg, Int.ofNat_lt, Int.ofNat_le, cond_true, cond_false, Int.reduceBEq, Int.reduceBNe, Int.reduceLT, Int.reduceLE, Int.reduceAdd, Int.reduceSub, Int.reduceMul, Int.reduceNeg, Int.reduceEq, Int.reduceNe, Nat.reduceMul, Nat.reduceSub, decide_true, decide_false, not_true_eq_false, not_false_eq_true, Bool.true_and, Bool.false_and, Bool.and_false, aggEq, scEq, hasSh, alS, List.filterMap_nil, int_beq, int_bne, eq_self]
        subst hQ
        simp (disch := first | assumption | omega) only [R.slices_EqualFunc_Msg, go_sem, ↓reduceIte, Nat.reduceEqDiff, reduceCtorEq, Nat.reduceAdd, Nat.reduceLeDiff, Nat.reduceLT, wrapU32, reduceIte, Int.natCast_nonneg, Int.ofNat_lt, Int.ofNat_le, cond_true, cond_false, Int.reduceBEq, Int.reduceBNe, Int.reduceLT, Int.reduceLE, Int.reduceAdd, Int.reduceSub, Int.reduceMul, Int.reduceNeg, Int.reduceEq, Int.reduceNe, Nat.reduceMul, Nat.reduceSub, decide_true, decide_false, not_true_eq_false, not_false_eq_true, Bool.true_and, Bool.false_and, Bool.and_false, aggEq, scEq, hasSh, alS, List.filterMap_nil, int_beq, int_bne, eq_self]
        have : a ≠ b := by rintro rfl; exact hab rfl
        simp [this, eh]
    · obtain rfl : i = a.length := by omega
      simp (disch := first | assumption | omega) only [e17, e16, e15, e1, e2, eh, go_sem, ↓reduceIte, Nat.reduceEqDiff, reduceCtorEq, Nat.reduceAdd, Nat.reduceLeDiff, Nat.reduceLT, wrapU32, reduceIte, Int.natCast_nonneg, Int.ofNat_lt, Int.ofNat_le, cond_true, cond_false, Int.reduceBEq, Int.reduceBNe, Int.reduceLT, Int.reduceLE, Int.reduceAdd, Int.reduceSub, Int.reduceMul, Int.reduceNeg, Int.reduceEq, Int.reduceNe, Nat.reduceMul, Nat.reduceSub, decide_true, decide_false, not_true_eq_false, not_false_eq_true, Bool.true_and, Bool.false_and, Bool.and_false, aggEq, scEq, hasSh, alS, List.filterMap_nil, int_beq, int_bne, eq_self]
      subst hQ
      simp (disch := first | assumption | omega) only [R.slices_EqualFunc_Msg, go_sem, ↓reduceIte, Nat.reduceEqDiff, reduceCtorEq, Nat.reduceAdd, Nat.reduceLeDiff, Nat.reduceLT, wrapU32, reduceIte, Int.natCast_nonneg, Int.ofNat_lt, Int.ofNat_le, cond_true, cond_false, Int.reduceBEq, Int.reduceBNe, Int.reduceLT, Int.reduceLE, Int.reduceAdd, Int.reduceSub, Int.reduceMul, Int.reduceNeg, Int.reduceEq, Int.reduceNe, Nat.reduceMul, Nat.reduceSub, decide_true, decide_false, not_true_eq_false, not_false_eq_true, Bool.true_and, Bool.false_and, Bool.and_false, aggEq, scEq, hasSh, alS, List.filterMap_nil, int_beq, int_bne, eq_self]
      rw [List.take_length, he, List.take_length] at ht
      simp [ht, eh]
end Go.Proofs.Ytpdajkbfemcdlaa
/- Slices over heap objects: elements of any kind. -/
set_option linter.unusedSimpArgs false
set_option linter.unusedVariables false
set_option maxRecDepth 10000
namespace Go.Proofs.Ytpdajkbfemcdlaa
open Go.Ge
/-- What is so after a part is enough for what follows. -/
theorem aw_cut {P : Program} {a : ACode} {K Pm : AState → Prop} {Q : AExit → AState → Prop} {S : AState} (h : aw (ACalls P) a (AExit.then Pm Q) S) (hk : ∀ S', Pm S' → K S') : aw (ACalls P) a (AExit.then K Q) S :=
  aw_mono (CMono_ACalls P) a (fun e S' h => by cases e <;> first | exact hk _ h | exact h) h
theorem condG_cut {P : Program} {v : AVal} {a b : ACode} {K : AState → Prop} {Q : AExit → AState → Prop} {S : AState} (Pm : AState → Prop) (h : condG (ACalls P) v a b (AExit.then Pm Q) S) (hk : ∀ S', Pm S' → K S') : condG (ACalls P) v a b (AExit.then K Q) S := by
  unfold condG at h ⊢
  cases v <;> first | exact ⟨fun e => aw_cut (h.1 e) hk, fun e => aw_cut (h.2 e) hk⟩ | exact h
theorem aopsG_cut {P : Program} {d : Option Nat} {op : AOp} {want : Bool} {v : AVal} {os : List AO} {c : ACode} {K : AState → Prop} {Q Q' : AExit → AState → Prop} {S : AState} (Pm : AState → Prop)
    (h : aopsG (ACalls P) d op want v os S (AExit.then (aw (ACalls P) c (AExit.then Pm Q)) Q' .normal)) (hk : ∀ S', Pm S' → K S') : aopsG (ACalls P) d op want v os S (AExit.then (aw (ACalls P) c (AExit.then K Q)) Q' .normal) := by
  have key : ∀ os S, aops (ACalls P) os S (AExit.then (aw (ACalls P) c (AExit.then Pm Q)) Q' .normal) → aops (ACalls P) os S (AExit.then (aw (ACalls P) c (AExit.then K Q)) Q' .normal) :=
    fun os S h => aops_mono (CMono_ACalls P) os (fun S' h => aw_cut h hk) h
  unfold aopsG at h ⊢
  split at h
  · exact ⟨fun e => key _ _ (h.1 e), fun e => key _ _ (h.2 e)⟩
  · exact key _ _ h
  · exact h.elim
section
variable {α : Type} {f : α → List AVal} {sz : Nat}
theorem flatF_len (hf : ∀ a, (f a).length = sz) (l : List α) : (l.flatMap f).length = l.length * sz := by
  induction l with
  | nil => simp
  | cons a l ih => rw [List.flatMap_cons, List.length_append, ih, hf, List.length_cons, Nat.add_mul]; omega
theorem flatF_split {l : List α} {j : Nat} (h : j < l.length) : l.flatMap f = (l.take j).flatMap f ++ (f l[j] ++ (l.drop (j + 1)).flatMap f) := by
  conv => lhs; rw [← List.take_append_drop j l, List.drop_eq_getElem_cons h]
  rw [List.flatMap_append, List.flatMap_cons]
/-- Part of an element. -/
theorem flatF_get (hf : ∀ a, (f a).length = sz) {l : List α} {j : Nat} (h : j < l.length) {pre rest : List AVal} {off k n : Nat} (hp : pre.length = off) (hk : k + n ≤ sz) :
    ((pre ++ l.flatMap f ++ rest).drop (off + j * sz + k)).take n = ((f l[j]).drop k).take n := by
  have hl : (pre ++ (l.take j).flatMap f).length = off + j * sz := by
    rw [List.length_append, flatF_len hf, List.length_take, hp]; congr 2; omega
  have e : pre ++ l.flatMap f ++ rest = (pre ++ (l.take j).flatMap f) ++ (f l[j] ++ ((l.drop (j + 1)).flatMap f ++ rest)) := by
    rw [flatF_split h]; simp only [List.append_assoc]
  rw [e, ← hl, ← List.drop_drop, List.drop_left, List.drop_append_of_le_length (by rw [hf]; omega), List.take_append_of_le_length (by rw [List.length_drop, hf]; omega)]
theorem flatF_set (hf : ∀ a, (f a).length = sz) {l : List α} {j : Nat} (h : j < l.length) {pre rest : List AVal} {off k : Nat} (hp : pre.length = off) {vs : List AVal} {x : α} (hk : k + vs.length ≤ sz) (hx : fillV (f l[j]) k vs = f x) :
    fillV (pre ++ l.flatMap f ++ rest) (off + j * sz + k) vs = pre ++ (l.set j x).flatMap f ++ rest := by
  have hl : (pre ++ (l.take j).flatMap f).length = off + j * sz := by
    rw [List.length_append, flatF_len hf, List.length_take, hp]; congr 2; omega
  have e : pre ++ l.flatMap f ++ rest = (pre ++ (l.take j).flatMap f) ++ (f l[j] ++ ((l.drop (j + 1)).flatMap f ++ rest)) := by
    rw [flatF_split h]; simp only [List.append_assoc]
  have e2 : pre ++ (l.set j x).flatMap f ++ rest = (pre ++ (l.take j).flatMap f) ++ (f x ++ ((l.drop (j + 1)).flatMap f ++ rest)) := by
    rw [List.set_eq_take_append_cons_drop, if_pos h, List.flatMap_append, List.flatMap_cons]; simp only [List.append_assoc]
  rw [e, e2, ← hx]
  generalize (pre ++ (l.take j).flatMap f) = A at *
  generalize ((l.drop (j + 1)).flatMap f ++ rest) = B
  have h3 := hf l[j]
  unfold fillV
  rw [← hl, List.take_length_add_append, List.take_append_of_le_length (by omega), show A.length + k + vs.length = A.length + (k + vs.length) by omega, List.drop_length_add_append, List.drop_append_of_le_length (by omega)]
  simp only [List.append_assoc]
/-- A slice over a heap object that is written in place: nil, or a row in object id. -/
def SlR (f : α → List AVal) (sz : Nat) (h : List HObj) (id : Nat) (w : AVal) (L : List α) : Prop :=
  w = .lst .nil [] ∧ L = [] ∨ ∃ off cap pre rest, w = .ref id off L.length cap ∧ L.length ≤ cap ∧ h[id]? = some (.cells (pre ++ L.flatMap f ++ rest)) ∧ pre.length = off ∧ rest.length = (cap - L.length) * sz
theorem SlR.frame {h h' : List HObj} {id : Nat} {w : AVal} {L : List α} (hs : SlR f sz h id w L) (he : ∀ o, h[id]? = some o → h'[id]? = some o) : SlR f sz h' id w L := by
  rcases hs with hs | ⟨off, cap, pre, rest, h1, h2, h3, h4, h5⟩
  · exact .inl hs
  · exact .inr ⟨off, cap, pre, rest, h1, h2, he _ h3, h4, h5⟩
/-- One element more. -/
theorem SlR.push (hf : ∀ a, (f a).length = sz) (hst : ∀ a, ∀ c ∈ f a, storC c = true ∧ Ge.rdc c = c) {C : CallS} {r : AOpn → AVal} {hp : List HObj} {K : AVal → List HObj → Prop} {bytes : Nat} {x y : AOpn} {id : Nat} {w v : AVal} {o : Own} {L : List α} {a : α}
    (hw : SlR f sz hp id w L) (hx : r x = w) (hy : r y = .lst o [v]) (hv : v.cells = f a) (hvw : v.width = sz) (h1 : (L.length + 1) * bytes ≤ 140737488355328) (h2 : L.length + 1 ≤ 140737488355328)
    (hK : ∀ w' h' id', SlR f sz h' id' w' (L ++ [a]) → (Fr [] hp h' ∧ id' = hp.length ∨ Fr [id] hp h' ∧ id' = id ∧ w ≠ .lst .nil []) → K w' h') : hstep C r hp (.appendR sz bytes x y) K := by
  have hm : ([v].flatMap AVal.cells).map Ge.rdc = f a := by
    rw [List.flatMap_cons, List.flatMap_nil, List.append_nil, hv]
    conv => rhs; rw [← List.map_id (f a)]
    exact List.map_congr_left fun c hc => (hst a c hc).2
  have hfa := hf a
  have he : (L ++ [a]).flatMap f = L.flatMap f ++ f a := by simp
  have hnew : ∀ cap, L.length + 1 ≤ cap → K (.ref hp.length 0 (L.length + 1) cap) (hp ++ [.cells (L.flatMap f ++ f a ++ List.replicate ((cap - (L.length + 1)) * sz) .junk)]) := by
    intro cap hc
    refine hK _ _ hp.length (.inr ⟨0, cap, [], List.replicate ((cap - (L.length + 1)) * sz) .junk, by simp, by simp; omega, ?_, rfl, by simp⟩) (.inl ⟨Fr.app, rfl⟩)
    rw [List.getElem?_append_right (Nat.le_refl _), Nat.sub_self, he]; simp
  simp only [hstep, srcH, srcW, hx, hy, hm]
  refine ⟨by simpa using hvw, ?_⟩
  rcases hw with ⟨rfl, rfl⟩ | ⟨off, cap, pre, rest, rfl, hc, hh, hpre, hrest⟩
  · simp only [List.length_singleton]
    refine ⟨by simpa using h1, by omega, fun e => by omega, fun _ => ?_⟩
    intro cap hc
    have := hnew cap (by simpa using hc)
    simpa using this
  · simp only [List.length_singleton]
    have hl := flatF_len hf L
    refine ⟨h1, h2, fun e => by omega, fun _ hlt => ?_, fun _ hge => ?_⟩
    · simp only [hh]
      have hmul : L.length * sz + (cap - L.length) * sz = cap * sz := by rw [← Nat.add_mul]; congr 1; omega
      have hone : (cap - L.length) * sz = (cap - (L.length + 1)) * sz + sz := by
        have : cap - L.length = (cap - (L.length + 1)) + 1 := by omega
        rw [this, Nat.add_mul]; omega
      refine ⟨by simp only [List.length_append]; omega, ?_⟩
      refine hK _ _ id (.inr ⟨off, cap, pre, rest.drop sz, by simp, by simp; omega, ?_, hpre, by rw [List.length_drop, List.length_append, hrest, hone]; simp⟩) (.inr ⟨Fr.set (by simp), rfl, by simp⟩)
      have hlt' := lt_of_get hh
      rw [List.getElem?_set_self hlt']
      congr 2
      unfold fillV
      have e1 : (pre ++ L.flatMap f).length = off + L.length * sz := by rw [List.length_append, hl, hpre]
      rw [hfa, ← e1, List.take_left, he, List.drop_length_add_append]
      simp only [List.append_assoc]
    · have hsrc : srcH sz hp (.ref id off L.length cap) = some (L.length, L.flatMap f) := by
        simp only [srcH]
        split
        · rename_i e
          have : L = [] := List.eq_nil_of_length_eq_zero e
          subst this; rfl
        · rw [hh]
          simp only []
          rw [if_pos (by simp only [List.length_append, hl, hpre]; omega)]
          congr 2
          have e1 : pre.length = off := hpre
          rw [List.append_assoc, ← e1, List.drop_left, ← hl, List.take_left]
          conv => rhs; rw [← List.map_id (L.flatMap f)]
          refine List.map_congr_left fun c hc => ?_
          obtain ⟨x, _, hx⟩ := List.mem_flatMap.1 hc
          exact (hst x c hx).2
      simp only [srcH] at hsrc
      rw [hsrc]
      simp only []
      intro cap' hc'
      exact hnew cap' hc'
/-- The first element goes. -/
theorem SlR.tail (hf : ∀ a, (f a).length = sz) {h : List HObj} {id off len cap : Nat} {a : α} {L : List α} (hs : SlR f sz h id (.ref id off len cap) (a :: L)) : SlR f sz h id (.ref id (off + sz) (len - 1) (cap - 1)) L ∧ len = L.length + 1 ∧ 1 ≤ cap := by
  rcases hs with ⟨e, _⟩ | ⟨off', cap', pre, rest, e, hc, hh, hpre, hrest⟩
  · cases e
  · cases e
    refine ⟨.inr ⟨off + sz, cap - 1, pre ++ f a, rest, by simp, by simp at hc; omega, ?_, by rw [List.length_append, hpre, hf], ?_⟩, by simp, by simp at hc; omega⟩
    · rw [hh]; simp [List.append_assoc]
    · rw [hrest]; congr 1; simp; omega
theorem SlR.cons {h : List HObj} {id : Nat} {w : AVal} {a : α} {L : List α} (hs : SlR f sz h id w (a :: L)) : ∃ off cap, w = .ref id off (L.length + 1) cap := by
  rcases hs with ⟨_, e⟩ | ⟨off', cap', pre, rest, e, hc, hh, hpre, hrest⟩
  · cases e
  · exact ⟨off', cap', by simpa using e⟩
/-- What a slice of the kind is, by its length. -/
theorem SlR.cases {h : List HObj} {id : Nat} {w : AVal} {L : List α} (hs : SlR f sz h id w L) : w = .lst .nil [] ∧ L = [] ∨ ∃ off cap, w = .ref id off L.length cap ∧ L.length ≤ cap := by
  rcases hs with hs | ⟨off', cap', pre, rest, e, hc, hh, hpre, hrest⟩
  · exact .inl hs
  · exact .inr ⟨_, _, e, hc⟩
/-- Reading part of element j. -/
theorem SlR.get (hf : ∀ a, (f a).length = sz) {h : List HObj} {id off len cap : Nat} {L : List α} (hs : SlR f sz h id (.ref id off len cap) L) (h0 : 0 < L.length) : ∃ cs, h[id]? = some (.cells cs) ∧ off + len * sz ≤ cs.length ∧ len = L.length ∧
    (∀ j (hj : j < L.length) k n, k + n ≤ sz → (cs.drop (off + j * sz + k)).take n = ((f L[j]).drop k).take n) ∧
    (∀ j (hj : j < L.length) k vs x, k + vs.length ≤ sz → fillV (f L[j]) k vs = f x → ∀ h', h'[id]? = some (.cells (fillV cs (off + j * sz + k) vs)) → SlR f sz h' id (.ref id off len cap) (L.set j x)) := by
  rcases hs with ⟨e, _⟩ | ⟨off', cap', pre, rest, e, hc, hh, hpre, hrest⟩
  · cases e
  · cases e
    refine ⟨_, hh, by simp only [List.length_append, flatF_len hf, hpre]; omega, rfl, ?_, ?_⟩
    · intro j hj k n hk
      exact flatF_get hf hj hpre hk
    · intro j hj k vs x hk hx h' hh'
      refine .inr ⟨off, cap, pre, rest, by simp, by simpa using hc, ?_, hpre, by simpa using hrest⟩
      rw [hh', flatF_set hf hj hpre hk hx]
theorem setH_same {h : List HObj} {id : Nat} {x : HObj} (e : h[id]? = some x) : h.set id x = h := by
  obtain ⟨hl, e⟩ := List.getElem?_eq_some_iff.1 e
  rw [← e]; exact List.set_getElem_self _
theorem getD_of_take {a b : List AVal} {i k : Nat} (h : (a.drop i).take 1 = (b.drop k).take 1) : a.getD i .junk = b.getD k .junk := by
  have := congrArg (fun l : List AVal => l[0]?) h
  simp only [List.getElem?_take, List.getElem?_drop] at this
  simp at this
  rw [List.getD_eq_getElem?_getD, List.getD_eq_getElem?_getD, this]
/-- A slice whose object, if it has one, is among those of own. -/
def SlO (f : α → List AVal) (sz : Nat) (h : List HObj) (own : List Nat) (w : AVal) (L : List α) : Prop := ∃ id, SlR f sz h id w L ∧ (w = .lst .nil [] ∨ id ∈ own)
theorem SlO.nil {h : List HObj} {own : List Nat} : SlO f sz h own (.lst .nil []) ([] : List α) := ⟨0, .inl ⟨rfl, rfl⟩, .inl rfl⟩
theorem SlO.frame {h h' : List HObj} {own S : List Nat} {w : AVal} {L : List α} (hs : SlO f sz h own w L) (hf : Fr S h h') (hn : ∀ i ∈ own, i ∉ S) : SlO f sz h' own w L := by
  obtain ⟨id, h1, h2⟩ := hs
  rcases h2 with rfl | h2
  · refine ⟨id, ?_, .inl rfl⟩
    rcases h1 with h1 | ⟨_, _, _, _, e, _⟩
    · exact .inl h1
    · cases e
  · exact ⟨id, h1.frame fun o ho => hf.get (hn id h2) ho, .inr h2⟩
theorem SlO.cases {h : List HObj} {own : List Nat} {w : AVal} {L : List α} (hs : SlO f sz h own w L) : w = .lst .nil [] ∧ L = [] ∨ ∃ id off cap, w = .ref id off L.length cap ∧ L.length ≤ cap ∧ id ∈ own ∧ SlR f sz h id w L := by
  obtain ⟨id, h1, h2⟩ := hs
  rcases h1.cases with ⟨rfl, h3⟩ | ⟨off, cap, rfl, h3⟩
  · exact .inl ⟨rfl, h3⟩
  · exact .inr ⟨id, off, cap, rfl, h3, h2.elim (fun e => by cases e) (fun h => h), h1⟩
theorem SlO.push (hf : ∀ a, (f a).length = sz) (hst : ∀ a, ∀ c ∈ f a, storC c = true ∧ Ge.rdc c = c) {C : CallS} {r : AOpn → AVal} {hp : List HObj} {K : AVal → List HObj → Prop} {bytes : Nat} {x y : AOpn} {own : List Nat} {w v : AVal} {o : Own} {L : List α} {a : α}
    (hw : SlO f sz hp own w L) (hx : r x = w) (hy : r y = .lst o [v]) (hv : v.cells = f a) (hvw : v.width = sz) (h1 : (L.length + 1) * bytes ≤ 140737488355328) (h2 : L.length + 1 ≤ 140737488355328)
    (hK : ∀ w' h' own', SlO f sz h' own' w' (L ++ [a]) → Fr own hp h' → (∀ i ∈ own', i ∈ own ∨ hp.length ≤ i ∧ i < h'.length) → K w' h') : hstep C r hp (.appendR sz bytes x y) K := by
  obtain ⟨id, hw, ho⟩ := hw
  refine hw.push hf hst hx hy hv hvw h1 h2 fun w' h' id' hs hc => ?_
  rcases hc with ⟨hfr, rfl⟩ | ⟨hfr, rfl, hne⟩
  · have hlt : hp.length < h'.length := by
      rcases hs with ⟨_, e⟩ | ⟨_, _, _, _, _, _, e, _⟩
      · simp at e
      · exact lt_of_get e
    exact hK w' h' [hp.length] ⟨_, hs, .inr (by simp)⟩ (hfr.mono (by simp)) (fun i hi => by simp at hi; subst hi; exact .inr ⟨Nat.le_refl _, hlt⟩)
  · have hi := ho.resolve_left hne
    exact hK w' h' own ⟨_, hs, .inr hi⟩ (hfr.mono (fun i h => by simp at h; subst h; exact .inl hi)) (fun i hi => .inl hi)
end
end Go.Proofs.Ytpdajkbfemcdlaa
/- The ends of a connection: what they hold and what the deeds do. -/
set_option linter.unusedSimpArgs false
set_option linter.unusedVariables false
set_option maxRecDepth 10000
namespace Go.Proofs.Ytpdajkbfemcdlaa
open Go.Ge
/-- What an end holds. -/
structure Lk where
  next : Int
  want : Int
  wait : List (Msg × Int)
  got : List Msg
  owes : Bool
/-- The message that is put. -/
def putM (s : Lk) (self other k : Int) (cs : List Cell) : Msg := ⟨k, self, other, s.next, 0, cs⟩
def putE (s : Lk) (self other k : Int) (cs : List Cell) : Int :=
  if k = 3 then 1 else if checkF (putM s self other k cs) ≠ 0 then checkF (putM s self other k cs) else if s.wait.length = 500 then 6 else 0
def putS (s : Lk) (self other k : Int) (cs : List Cell) : Lk :=
  if putE s self other k cs = 0 then { s with next := s.next + 1, wait := s.wait ++ [(putM s self other k cs, -1)] } else s
def inE (s : Lk) (self other : Int) (m : Msg) : Int :=
  if checkF m ≠ 0 then checkF m else if m.From ≠ other ∨ m.To ≠ self then 16 else if m.Kind = 3 ∧ m.Seq > s.next then 9 else 0
/-- Those ahead that are answered go. -/
def cutW (q : Int) : List (Msg × Int) → List (Msg × Int)
  | [] => []
  | p :: l => if p.1.Seq < q then cutW q l else p :: l
def inS (s : Lk) (self other : Int) (m : Msg) : Lk :=
  if inE s self other m ≠ 0 then s else if m.Kind = 3 then { s with wait := cutW m.Seq s.wait }
  else if m.Seq = s.want then { s with owes := true, want := s.want + 1, got := s.got ++ [m] } else { s with owes := true }
def clampT (t : Int) : Int := max 0 (min t 2000)
def due (t : Int) (p : Msg × Int) : Bool := decide (p.2 < 0) || decide (t - p.2 ≥ 4)
def mark (t : Int) (p : Msg × Int) : Msg × Int := if due t p then (p.1, t) else p
/-- After i elements have been looked at. -/
def outW (t : Int) (l : List (Msg × Int)) (i : Nat) : List (Msg × Int) := (l.take i).map (mark t) ++ l.drop i
def outM (t c : Int) (l : List (Msg × Int)) (i : Nat) : List Msg := ((l.take i).filter (due t)).map fun p => { p.1 with Clock := c }
def outL (s : Lk) (self other t c : Int) : List Msg := outM t c s.wait 8 ++ if s.owes then [⟨3, self, other, s.want, c, []⟩] else []
def outS (s : Lk) (t : Int) : Lk := { s with wait := outW t s.wait 8, owes := false }
/-- What is kept of an end: the messages are few and of few cells, the ticks are ticks or -1. -/
structure Lk.ok (s : Lk) (n : Int) : Prop where
  next0 : 0 ≤ s.next
  next1 : s.next ≤ n
  want0 : 0 ≤ s.want
  want1 : s.want ≤ n
  wait : s.wait.length ≤ 500
  got : (s.got.length : Int) ≤ n
  wcell : ∀ p ∈ s.wait, checkF p.1 = 0 ∧ -1 ≤ p.2 ∧ p.2 ≤ 2000
  gcell : ∀ m ∈ s.got, checkF m = 0
theorem checkF_len {m : Msg} (h : checkF m = 0) : m.Cells.length ≤ 400 := by
  unfold checkF at h
  split at h
  · exact absurd h ‹_›
  · unfold cellsFault at h
    split at h
    · cases h
    · omega
theorem outW_length (t : Int) (l : List (Msg × Int)) (i : Nat) : (outW t l i).length = l.length := by simp [outW]; omega
theorem outW_get {t : Int} {l : List (Msg × Int)} {i : Nat} (h : i < l.length) (h' : i < (outW t l i).length) : (outW t l i)[i] = l[i] := by
  simp only [outW]
  rw [List.getElem_append_right (by simp [List.length_take, Nat.min_eq_left (Nat.le_of_lt h)])]
  simp [List.length_take, Nat.min_eq_left (Nat.le_of_lt h)]
theorem outW_step {t : Int} {l : List (Msg × Int)} {i : Nat} (h : i < l.length) : (outW t l i).set i (mark t l[i]) = outW t l (i + 1) := by
  apply List.ext_getElem?
  intro j
  simp only [outW]
  by_cases hj : j = i
  · subst hj
    rw [List.getElem?_set_self (by simp; omega), List.getElem?_append_left (by simp; omega), List.getElem?_map, List.getElem?_take, if_pos (by omega), List.getElem?_eq_getElem h]; rfl
  · rw [List.getElem?_set_ne (fun e => hj e.symm)]
    by_cases h2 : j < i
    · rw [List.getElem?_append_left (by simp; omega), List.getElem?_append_left (by simp; omega), List.getElem?_map, List.getElem?_map, List.getElem?_take, List.getElem?_take, if_pos (by omega), if_pos (by omega)]
    · rw [List.getElem?_append_right (by simp; omega), List.getElem?_append_right (by simp; omega), List.getElem?_drop, List.getElem?_drop]
      simp only [List.length_map, List.length_take, Nat.min_eq_left (Nat.le_of_lt h), Nat.min_eq_left (show i + 1 ≤ l.length from h)]
      congr 1; omega
theorem outW_same {t : Int} {l : List (Msg × Int)} {i : Nat} (h : i < l.length) (hd : due t l[i] = false) : outW t l (i + 1) = outW t l i := by
  rw [← outW_step h]
  have : mark t l[i] = l[i] := by simp [mark, hd]
  rw [this]
  have hl : i < (outW t l i).length := by rw [outW_length]; exact h
  conv => lhs; rw [← outW_get h hl]
  exact List.set_getElem_self hl
theorem outW_zero (t : Int) (l : List (Msg × Int)) : outW t l 0 = l := by simp [outW]
theorem outM_step {t c : Int} {l : List (Msg × Int)} {i : Nat} (h : i < l.length) : outM t c l (i + 1) = outM t c l i ++ if due t l[i] then [{ l[i].1 with Clock := c }] else [] := by
  unfold outM
  rw [List.take_add_one, List.getElem?_eq_getElem h]
  simp only [Option.toList_some, List.filter_append, List.map_append]
  congr 1
  by_cases hd : due t l[i] = true
  · simp [hd]
  · simp [hd]
theorem outW_min (t : Int) (l : List (Msg × Int)) : outW t l (min l.length 8) = outW t l 8 := by
  by_cases h : l.length ≤ 8
  · rw [Nat.min_eq_left h]
    simp [outW, List.take_of_length_le h, List.drop_of_length_le h]
  · rw [Nat.min_eq_right (by omega)]
theorem outM_min (t c : Int) (l : List (Msg × Int)) : outM t c l (min l.length 8) = outM t c l 8 := by
  by_cases h : l.length ≤ 8
  · rw [Nat.min_eq_left h]
    simp [outM, List.take_of_length_le h]
  · rw [Nat.min_eq_right (by omega)]
theorem cutW_sub (q : Int) : ∀ (l : List (Msg × Int)), (cutW q l).length ≤ l.length ∧ ∀ p ∈ cutW q l, p ∈ l
  | [] => ⟨by simp [cutW], fun p hp => hp⟩
  | x :: l => by
    obtain ⟨h1, h2⟩ := cutW_sub q l
    simp only [cutW]
    split
    · exact ⟨by simp; omega, fun p hp => by simp [h2 p hp]⟩
    · exact ⟨Nat.le_refl _, fun p hp => hp⟩
theorem putS_ok {s : Lk} {self other k n : Int} {cs : List Cell} (h : s.ok n) : (putS s self other k cs).ok (n + 1) := by
  obtain ⟨h1, h2, h3, h4, h5, h6, h7, h8⟩ := h
  unfold putS
  split
  · rename_i he
    have hw : s.wait.length ≠ 500 := by
      intro e
      unfold putE at he
      rw [if_pos e] at he
      split at he
      · cases he
      · split at he
        · exact absurd he ‹_›
        · cases he
    have hc : checkF (putM s self other k cs) = 0 := by
      unfold putE at he
      split at he
      · cases he
      · split at he
        · exact absurd he ‹_›
        · exact Decidable.not_not.1 ‹_›
    refine ⟨by simp only; omega, by simp only; omega, h3, by simp only; omega, by simp; omega, by simp only; omega, ?_, h8⟩
    intro p hp
    simp only [List.mem_append, List.mem_singleton] at hp
    rcases hp with hp | rfl
    · exact h7 p hp
    · exact ⟨hc, by simp, by simp⟩
  · exact ⟨h1, by omega, h3, by omega, h5, by omega, h7, h8⟩
theorem inS_ok {s : Lk} {self other n : Int} {m : Msg} (h : s.ok n) : (inS s self other m).ok (n + 1) := by
  obtain ⟨h1, h2, h3, h4, h5, h6, h7, h8⟩ := h
  unfold inS
  split
  · exact ⟨h1, by omega, h3, by omega, h5, by omega, h7, h8⟩
  · rename_i he
    have hc : checkF m = 0 := by
      unfold inE at he
      split at he
      · rename_i hn; exact absurd hn (fun hn => he hn)
      · exact Decidable.not_not.1 ‹_›
    split
    · obtain ⟨c1, c2⟩ := cutW_sub m.Seq s.wait
      exact ⟨h1, by simp only; omega, h3, by simp only; omega, by simp only; omega, by simp only; omega, fun p hp => h7 p (c2 p hp), h8⟩
    · split
      · refine ⟨h1, by simp only; omega, by simp only; omega, by simp only; omega, h5, by simp; omega, h7, ?_⟩
        intro x hx
        simp only [List.mem_append, List.mem_singleton] at hx
        rcases hx with hx | rfl
        · exact h8 x hx
        · exact hc
      · exact ⟨h1, by simp only; omega, h3, by simp only; omega, h5, by simp only; omega, h7, h8⟩
theorem outS_ok {s : Lk} {t n : Int} (h : s.ok n) (ht : -1 ≤ t ∧ t ≤ 2000) : (outS s t).ok (n + 1) := by
  obtain ⟨h1, h2, h3, h4, h5, h6, h7, h8⟩ := h
  refine ⟨h1, by simp only [outS]; omega, h3, by simp only [outS]; omega, by simp only [outS, outW_length]; exact h5, by simp only [outS]; omega, ?_, h8⟩
  intro p hp
  simp only [outS, outW, List.mem_append, List.mem_map] at hp
  rcases hp with ⟨x, hx, rfl⟩ | hp
  · have := h7 x (List.mem_of_mem_take hx)
    unfold mark
    split
    · exact ⟨this.1, ht⟩
    · exact this
  · exact h7 p (List.mem_of_mem_drop hp)
theorem takeS_ok {s : Lk} {n : Int} (h : s.ok n) : ({ s with got := [] } : Lk).ok (n + 1) := by
  obtain ⟨h1, h2, h3, h4, h5, h6, h7, h8⟩ := h
  exact ⟨h1, by simp only; omega, h3, by simp only; omega, h5, by simp; omega, h7, by simp⟩
end Go.Proofs.Ytpdajkbfemcdlaa
/- Messages: the law MsgSame. -/
set_option linter.unusedSimpArgs false
set_option linter.unusedVariables false
set_option maxRecDepth 10000
namespace Go.Proofs.Ytpdajkbfemcdlaa
open Go.Ge
theorem Copy_ok (o : Own) (m : Msg) (ho : Rdn o m.Cells) (hl : m.Cells.length * 16 ≤ reachBytes) (h : List HObj) :
    ACalls Try.prog F.msg_Copy [msgA o m] h (fun r h' => (∃ o', r = msgA o' m ∧ Rdn o' m.Cells) ∧ h' = h) := by
  have q := ho.1
  refine ACalls.of_aw Try.func49 K.msg_Copy (by simp [Try.f49]) ?_
  generalize hQ : retQ R.msg_Copy _ = Q
  simp (disch := first | assumption | omega) only [C.msg_Copy, go_sem, ↓reduceIte, Nat.reduceEqDiff, reduceCtorEq, Nat.reduceAdd, Nat.reduceLeDiff, Nat.reduceLT, wrapU32, reduceIte, Int.natCast_nonneg, Int.ofNat_lt, Int.ofNat_le, cond_true, cond_false, Int.reduceBEq, Int.reduceBNe, Int.reduceLT, Int.reduceLE, Int.reduceAdd, Int.reduceSub, Int.reduceMul, Int.reduceNeg, Int.reduceEq, Int.reduceNe, Nat.reduceMul, Nat.reduceSub, decide_true, decide_false, not_true_eq_false, not_false_eq_true, Bool.true_and, Bool.false_and, Bool.and_false, aggEq, scEq, hasSh, alS, List.filterMap_nil]
  simp (disch := first | assumption | omega) only [msgA, msgC, go_sem, ↓reduceIte, Nat.reduceEqDiff, reduceCtorEq, Nat.reduceAdd, Nat.reduceLeDiff, Nat.reduceLT, wrapU32, reduceIte, Int.natCast_nonneg, Int.ofNat_lt, Int.ofNat_le, cond_true, cond_false, Int.reduceBEq, Int.reduceBNe, Int.reduceLT, Int.reduceLE, Int.reduceAdd, Int.reduceSub, Int.reduceMul, Int.reduceNeg, Int.reduceEq, Int.reduceNe, Nat.reduceMul, Nat.reduceSub, decide_true, decide_false, not_true_eq_false, not_false_eq_true, Bool.true_and, Bool.false_and, Bool.and_false, aggEq, scEq, hasSh, alS, List.filterMap_nil]
  refine callG_ok (CloneCell_ok o m.Cells ho hl _) (by simp (disch := first | assumption | omega) only [go_sem, ↓reduceIte, Nat.reduceEqDiff, reduceCtorEq, Nat.reduceAdd, Nat.reduceLeDiff, Nat.reduceLT, wrapU32, reduceIte, Int.natCast_nonneg, Int.ofNat_lt, Int.ofNat_le, cond_true, cond_false, Int.reduceBEq, Int.reduceBNe, Int.reduceLT, Int.reduceLE, Int.reduceAdd, Int.reduceSub, Int.reduceMul, Int.reduceNeg, Int.reduceEq, Int.reduceNe, Nat.reduceMul, Nat.reduceSub, decide_true, decide_false, not_true_eq_false, not_false_eq_true, Bool.true_and, Bool.false_and, Bool.and_false, aggEq, scEq, hasSh, alS, List.filterMap_nil]) ?_
  rintro _ _ ⟨⟨o', rfl, ho'⟩, hhh⟩
  try rw [hhh]
  clear hhh
  rcases ho' with ⟨rfl, h0⟩ | rfl
  · simp (disch := first | assumption | omega) only [go_sem, ↓reduceIte, Nat.reduceEqDiff, reduceCtorEq, Nat.reduceAdd, Nat.reduceLeDiff, Nat.reduceLT, wrapU32, reduceIte, Int.natCast_nonneg, Int.ofNat_lt, Int.ofNat_le, cond_true, cond_false, Int.reduceBEq, Int.reduceBNe, Int.reduceLT, Int.reduceLE, Int.reduceAdd, Int.reduceSub, Int.reduceMul, Int.reduceNeg, Int.reduceEq, Int.reduceNe, Nat.reduceMul, Nat.reduceSub, decide_true, decide_false, not_true_eq_false, not_false_eq_true, Bool.true_and, Bool.false_and, Bool.and_false, aggEq, scEq, hasSh, alS, List.filterMap_nil]
    subst hQ
    simp (disch := first | assumption | omega) only [R.msg_Copy, go_sem, ↓reduceIte, Nat.reduceEqDiff, reduceCtorEq, Nat.reduceAdd, Nat.reduceLeDiff, Nat.reduceLT, wrapU32, reduceIte, Int.natCast_nonneg, Int.ofNat_lt, Int.ofNat_le, cond_true, cond_false, Int.reduceBEq, Int.reduceBNe, Int.reduceLT, Int.reduceLE, Int.reduceAdd, Int.reduceSub, Int.reduceMul, Int.reduceNeg, Int.reduceEq, Int.reduceNe, Nat.reduceMul, Nat.reduceSub, decide_true, decide_false, not_true_eq_false, not_false_eq_true, Bool.true_and, Bool.false_and, Bool.and_false, aggEq, scEq, hasSh, alS, List.filterMap_nil]
    exact ⟨.nil, rfl, .inr rfl, fun _ => h0⟩
  · simp (disch := first | assumption | omega) only [go_sem, ↓reduceIte, Nat.reduceEqDiff, reduceCtorEq, Nat.reduceAdd, Nat.reduceLeDiff, Nat.reduceLT, wrapU32, reduceIte, Int.natCast_nonneg, Int.ofNat_lt, Int.ofNat_le, cond_true, cond_false, Int.reduceBEq, Int.reduceBNe, Int.reduceLT, Int.reduceLE, Int.reduceAdd, Int.reduceSub, Int.reduceMul, Int.reduceNeg, Int.reduceEq, Int.reduceNe, Nat.reduceMul, Nat.reduceSub, decide_true, decide_false, not_true_eq_false, not_false_eq_true, Bool.true_and, Bool.false_and, Bool.and_false, aggEq, scEq, hasSh, alS, List.filterMap_nil]
    subst hQ
    simp (disch := first | assumption | omega) only [R.msg_Copy, go_sem, ↓reduceIte, Nat.reduceEqDiff, reduceCtorEq, Nat.reduceAdd, Nat.reduceLeDiff, Nat.reduceLT, wrapU32, reduceIte, Int.natCast_nonneg, Int.ofNat_lt, Int.ofNat_le, cond_true, cond_false, Int.reduceBEq, Int.reduceBNe, Int.reduceLT, Int.reduceLE, Int.reduceAdd, Int.reduceSub, Int.reduceMul, Int.reduceNeg, Int.reduceEq, Int.reduceNe, Nat.reduceMul, Nat.reduceSub, decide_true, decide_false, not_true_eq_false, not_false_eq_true, Bool.true_and, Bool.false_and, Bool.and_false, aggEq, scEq, hasSh, alS, List.filterMap_nil]
    exact ⟨.sh, rfl, .inl rfl, fun h => by cases h⟩
end Go.Proofs.Ytpdajkbfemcdlaa
/- Annotated code of functions, checked against the program. -/
namespace Go.Proofs.Ytpdajkbfemcdlaa
open Go.Ge
/-- gantry/gantref5.Later -/
def C.gantref5_Later : ACode :=
  .seq (.region [
    ⟨some 4, .move false (.c (.int .i64 0)), none⟩]) (
  .seq (.region [
    ⟨some 6, .move false (.t 0), none⟩, 
    ⟨some 7, .conv .i64 (.t 6), none⟩, 
    ⟨some 8, .move false (.t 1), none⟩, 
    ⟨some 9, .conv .i64 (.t 8), none⟩, 
    ⟨some 10, .bin .sub (.t 7) (.t 9), none⟩, 
    ⟨some 11, .bin .rem (.t 10) (.c (.int .i64 4294967296)), none⟩, 
    ⟨some 5, .move false (.t 11), none⟩]) (
  .seq (.block 0 (.loop (.seq (.seq (.region [
    ⟨some 12, .move false (.t 5), none⟩, 
    ⟨some 13, .bin .geq (.t 12) (.c (.int .i64 2147483648)), none⟩]) (
  .cond (.t 13) (.skip) (.exit 0))) (
  .block 1 (.region [
    ⟨some 14, .move false (.t 5), none⟩, 
    ⟨some 15, .bin .sub (.t 14) (.c (.int .i64 4294967296)), none⟩, 
    ⟨some 5, .move false (.t 15), none⟩]))))) (
  .seq (.block 2 (.loop (.seq (.seq (.region [
    ⟨some 16, .move false (.t 5), none⟩, 
    ⟨some 17, .bin .lss (.t 16) (.c (.int .i64 (-2147483648))), none⟩]) (
  .cond (.t 17) (.skip) (.exit 2))) (
  .block 3 (.region [
    ⟨some 18, .move false (.t 5), none⟩, 
    ⟨some 19, .bin .add (.t 18) (.c (.int .i64 4294967296)), none⟩, 
    ⟨some 5, .move false (.t 19), none⟩]))))) (
  .seq (.region [
    ⟨some 20, .move false (.t 5), none⟩, 
    ⟨some 4, .move false (.t 20), none⟩]) (
  .ret)))))
def R.gantref5_Later : List ARes := [.t 4]
set_option maxRecDepth 100000 in
theorem K.gantref5_Later : ckFun Try.prog Try.f51 C.gantref5_Later R.gantref5_Later = true := by kernel_rfl
end Go.Proofs.Ytpdajkbfemcdlaa
/- Contracts: clocks. -/
set_option linter.unusedSimpArgs false
set_option linter.unusedVariables false
set_option maxRecDepth 10000
namespace Go.Proofs.Ytpdajkbfemcdlaa
open Go.Ge
def diff (a b : Int) : Int := (a - b + 2147483648) % 4294967296 - 2147483648
def after (a n : Int) : Int := (a + n) % 4294967296
end Go.Proofs.Ytpdajkbfemcdlaa
/- Contracts: clocks, the second implementation. -/
set_option linter.unusedSimpArgs false
set_option linter.unusedVariables false
set_option maxRecDepth 10000
namespace Go.Proofs.Ytpdajkbfemcdlaa
open Go.Ge
theorem Later_ok (a b : Int) (ha : inU32 a) (hb : inU32 b) (h : List HObj) : ACalls Try.prog F.gantref5_Later [.int .u32 a, .int .u32 b] h (fun r h' => r = .int .i64 (diff a b) ∧ h' = h) := by
  unfold inU32 at ha hb
  refine ACalls.of_aw Try.func51 K.gantref5_Later (by simp [Try.f51]) ?_
  generalize hQ : retQ R.gantref5_Later _ = Q
  simp (disch := first | assumption | omega) only [C.gantref5_Later, go_sem, ↓reduceIte, Nat.reduceEqDiff, reduceCtorEq, Nat.reduceAdd, Nat.reduceLeDiff, Nat.reduceLT, wrapU32, reduceIte, Int.natCast_nonneg, Int.ofNat_lt, Int.ofNat_le, cond_true, cond_false, Int.reduceBEq, Int.reduceBNe, Int.reduceLT, Int.reduceLE, Int.reduceAdd, Int.reduceSub, Int.reduceMul, Int.reduceNeg, Int.reduceEq, Int.reduceNe, Nat.reduceMul, Nat.reduceSub, decide_true, decide_false, not_true_eq_false, not_false_eq_true, Bool.true_and, Bool.false_and, Bool.and_false, aggEq, scEq, hasSh, alS, List.filterMap_nil]
  have e0 : (a - b).tmod 4294967296 = a - b := by
    rcases Int.le_total 0 (a - b) with h0 | h0
    · rw [Int.tmod_eq_emod_of_nonneg h0]; omega
    · have e : a - b = -(b - a) := by omega
      rw [e, Int.neg_tmod, Int.tmod_eq_emod_of_nonneg (by omega)]; omega
  simp (disch := first | assumption | omega) only [e0, go_sem, ↓reduceIte, Nat.reduceEqDiff, reduceCtorEq, Nat.reduceAdd, Nat.reduceLeDiff, Nat.reduceLT, wrapU32, reduceIte, Int.natCast_nonneg, Int.ofNat_lt, Int.ofNat_le, cond_true, cond_false, Int.reduceBEq, Int.reduceBNe, Int.reduceLT, Int.reduceLE, Int.reduceAdd, Int.reduceSub, Int.reduceMul, Int.reduceNeg, Int.reduceEq, Int.reduceNe, Nat.reduceMul, Nat.reduceSub, decide_true, decide_false, not_true_eq_false, not_false_eq_true, Bool.true_and, Bool.false_and, Bool.and_false, aggEq, scEq, hasSh, alS, List.filterMap_nil]
  by_cases h1 : 2147483648 ≤ a - b
  · refine aw_count (fun d S => ∃ n : Int, S.env 5 = .int .i64 n ∧ (d = 1 ∧ n = a - b ∨ d = 0 ∧ n = a - b - 4294967296) ∧ S.heap = h) (n := 1) ⟨a - b, by simp [go_sem]⟩ ?_
    rintro d S ⟨n, e5, hn, eh⟩
    simp (disch := first | assumption | omega) only [e5, eh, go_sem, ↓reduceIte, Nat.reduceEqDiff, reduceCtorEq, Nat.reduceAdd, Nat.reduceLeDiff, Nat.reduceLT, wrapU32, reduceIte, Int.natCast_nonneg, Int.ofNat_lt, Int.ofNat_le, cond_true, cond_false, Int.reduceBEq, Int.reduceBNe, Int.reduceLT, Int.reduceLE, Int.reduceAdd, Int.reduceSub, Int.reduceMul, Int.reduceNeg, Int.reduceEq, Int.reduceNe, Nat.reduceMul, Nat.reduceSub, decide_true, decide_false, not_true_eq_false, not_false_eq_true, Bool.true_and, Bool.false_and, Bool.and_false, aggEq, scEq, hasSh, alS, List.filterMap_nil]
    refine condG_if (fun hlt => ?_) fun hge => ?_
    · simp (disch := first | assumption | omega) only [e5, eh, go_sem, ↓reduceIte, Nat.reduceEqDiff, reduceCtorEq, Nat.reduceAdd, Nat.reduceLeDiff, Nat.reduceLT, wrapU32, reduceIte, Int.natCast_nonneg, Int.ofNat_lt, Int.ofNat_le, cond_true, cond_false, Int.reduceBEq, Int.reduceBNe, Int.reduceLT, Int.reduceLE, Int.reduceAdd, Int.reduceSub, Int.reduceMul, Int.reduceNeg, Int.reduceEq, Int.reduceNe, Nat.reduceMul, Nat.reduceSub, decide_true, decide_false, not_true_eq_false, not_false_eq_true, Bool.true_and, Bool.false_and, Bool.and_false, aggEq, scEq, hasSh, alS, List.filterMap_nil]
      exact ⟨0, by omega, _, rfl, .inr ⟨rfl, by omega⟩⟩
    · have hn : n = a - b - 4294967296 := by omega
      simp (disch := first | assumption | omega) only [e5, eh, go_sem, ↓reduceIte, Nat.reduceEqDiff, reduceCtorEq, Nat.reduceAdd, Nat.reduceLeDiff, Nat.reduceLT, wrapU32, reduceIte, Int.natCast_nonneg, Int.ofNat_lt, Int.ofNat_le, cond_true, cond_false, Int.reduceBEq, Int.reduceBNe, Int.reduceLT, Int.reduceLE, Int.reduceAdd, Int.reduceSub, Int.reduceMul, Int.reduceNeg, Int.reduceEq, Int.reduceNe, Nat.reduceMul, Nat.reduceSub, decide_true, decide_false, not_true_eq_false, not_false_eq_true, Bool.true_and, Bool.false_and, Bool.and_false, aggEq, scEq, hasSh, alS, List.filterMap_nil]
      refine aw_count (fun d S => S.env 5 = .int .i64 n ∧ S.heap = h) (n := 0) ⟨by simp [go_sem, e5], by simp [go_sem, eh]⟩ ?_
      rintro d S ⟨e5, eh⟩
      simp (disch := first | assumption | omega) only [e5, eh, go_sem, ↓reduceIte, Nat.reduceEqDiff, reduceCtorEq, Nat.reduceAdd, Nat.reduceLeDiff, Nat.reduceLT, wrapU32, reduceIte, Int.natCast_nonneg, Int.ofNat_lt, Int.ofNat_le, cond_true, cond_false, Int.reduceBEq, Int.reduceBNe, Int.reduceLT, Int.reduceLE, Int.reduceAdd, Int.reduceSub, Int.reduceMul, Int.reduceNeg, Int.reduceEq, Int.reduceNe, Nat.reduceMul, Nat.reduceSub, decide_true, decide_false, not_true_eq_false, not_false_eq_true, Bool.true_and, Bool.false_and, Bool.and_false, aggEq, scEq, hasSh, alS, List.filterMap_nil]
      refine condG_if (fun hlt => ?_) fun hge => ?_
      · omega
      · simp (disch := first | assumption | omega) only [e5, eh, go_sem, ↓reduceIte, Nat.reduceEqDiff, reduceCtorEq, Nat.reduceAdd, Nat.reduceLeDiff, Nat.reduceLT, wrapU32, reduceIte, Int.natCast_nonneg, Int.ofNat_lt, Int.ofNat_le, cond_true, cond_false, Int.reduceBEq, Int.reduceBNe, Int.reduceLT, Int.reduceLE, Int.reduceAdd, Int.reduceSub, Int.reduceMul, Int.reduceNeg, Int.reduceEq, Int.reduceNe, Nat.reduceMul, Nat.reduceSub, decide_true, decide_false, not_true_eq_false, not_false_eq_true, Bool.true_and, Bool.false_and, Bool.and_false, aggEq, scEq, hasSh, alS, List.filterMap_nil]
        subst hQ
        simp (disch := first | assumption | omega) only [R.gantref5_Later, e5, eh, go_sem, ↓reduceIte, Nat.reduceEqDiff, reduceCtorEq, Nat.reduceAdd, Nat.reduceLeDiff, Nat.reduceLT, wrapU32, reduceIte, Int.natCast_nonneg, Int.ofNat_lt, Int.ofNat_le, cond_true, cond_false, Int.reduceBEq, Int.reduceBNe, Int.reduceLT, Int.reduceLE, Int.reduceAdd, Int.reduceSub, Int.reduceMul, Int.reduceNeg, Int.reduceEq, Int.reduceNe, Nat.reduceMul, Nat.reduceSub, decide_true, decide_false, not_true_eq_false, not_false_eq_true, Bool.true_and, Bool.false_and, Bool.and_false, aggEq, scEq, hasSh, alS, List.filterMap_nil]
        exact congrArg (AVal.int .i64) (by unfold diff; omega)
  · refine aw_count (fun d S => S.env 5 = .int .i64 (a - b) ∧ S.heap = h) (n := 0) ⟨by simp [go_sem], by simp [go_sem]⟩ ?_
    rintro d S ⟨e5, eh⟩
    simp (disch := first | assumption | omega) only [e5, eh, go_sem, ↓reduceIte, Nat.reduceEqDiff, reduceCtorEq, Nat.reduceAdd, Nat.reduceLeDiff, Nat.reduceLT, wrapU32, reduceIte, Int.natCast_nonneg, Int.ofNat_lt, Int.ofNat_le, cond_true, cond_false, Int.reduceBEq, Int.reduceBNe, Int.reduceLT, Int.reduceLE, Int.reduceAdd, Int.reduceSub, Int.reduceMul, Int.reduceNeg, Int.reduceEq, Int.reduceNe, Nat.reduceMul, Nat.reduceSub, decide_true, decide_false, not_true_eq_false, not_false_eq_true, Bool.true_and, Bool.false_and, Bool.and_false, aggEq, scEq, hasSh, alS, List.filterMap_nil]
    refine condG_if (fun hlt => ?_) fun hge => ?_
    · omega
    · simp (disch := first | assumption | omega) only [e5, eh, go_sem, ↓reduceIte, Nat.reduceEqDiff, reduceCtorEq, Nat.reduceAdd, Nat.reduceLeDiff, Nat.reduceLT, wrapU32, reduceIte, Int.natCast_nonneg, Int.ofNat_lt, Int.ofNat_le, cond_true, cond_false, Int.reduceBEq, Int.reduceBNe, Int.reduceLT, Int.reduceLE, Int.reduceAdd, Int.reduceSub, Int.reduceMul, Int.reduceNeg, Int.reduceEq, Int.reduceNe, Nat.reduceMul, Nat.reduceSub, decide_true, decide_false, not_true_eq_false, not_false_eq_true, Bool.true_and, Bool.false_and, Bool.and_false, aggEq, scEq, hasSh, alS, List.filterMap_nil]
      by_cases h2 : a - b < -2147483648
      · refine aw_count (fun d S => ∃ n : Int, S.env 5 = .int .i64 n ∧ (d = 1 ∧ n = a - b ∨ d = 0 ∧ n = a - b + 4294967296) ∧ S.heap = h) (n := 1) ⟨a - b, by simp [go_sem, e5, eh]⟩ ?_
        rintro d S ⟨n, e5, hn, eh⟩
        simp (disch := first | assumption | omega) only [e5, eh, go_sem, ↓reduceIte, Nat.reduceEqDiff, reduceCtorEq, Nat.reduceAdd, Nat.reduceLeDiff, Nat.reduceLT, wrapU32, reduceIte, Int.natCast_nonneg, Int.ofNat_lt, Int.ofNat_le, cond_true, cond_false, Int.reduceBEq, Int.reduceBNe, Int.reduceLT, Int.reduceLE, Int.reduceAdd, Int.reduceSub, Int.reduceMul, Int.reduceNeg, Int.reduceEq, Int.reduceNe, Nat.reduceMul, Nat.reduceSub, decide_true, decide_false, not_true_eq_false, not_false_eq_true, Bool.true_and, Bool.false_and, Bool.and_false, aggEq, scEq, hasSh, alS, List.filterMap_nil]
        refine condG_if (fun hlt => ?_) fun hge => ?_
        · simp (disch := first | assumption | omega) only [e5, eh, go_sem, ↓reduceIte, Nat.reduceEqDiff, reduceCtorEq, Nat.reduceAdd, Nat.reduceLeDiff, Nat.reduceLT, wrapU32, reduceIte, Int.natCast_nonneg, Int.ofNat_lt, Int.ofNat_le, cond_true, cond_false, Int.reduceBEq, Int.reduceBNe, Int.reduceLT, Int.reduceLE, Int.reduceAdd, Int.reduceSub, Int.reduceMul, Int.reduceNeg, Int.reduceEq, Int.reduceNe, Nat.reduceMul, Nat.reduceSub, decide_true, decide_false, not_true_eq_false, not_false_eq_true, Bool.true_and, Bool.false_and, Bool.and_false, aggEq, scEq, hasSh, alS, List.filterMap_nil]
          exact ⟨0, by omega, _, rfl, .inr ⟨rfl, by omega⟩⟩
        · have hn : n = a - b + 4294967296 := by omega
          simp (disch := first | assumption | omega) only [e5, eh, go_sem, ↓reduceIte, Nat.reduceEqDiff, reduceCtorEq, Nat.reduceAdd, Nat.reduceLeDiff, Nat.reduceLT, wrapU32, reduceIte, Int.natCast_nonneg, Int.ofNat_lt, Int.ofNat_le, cond_true, cond_false, Int.reduceBEq, Int.reduceBNe, Int.reduceLT, Int.reduceLE, Int.reduceAdd, Int.reduceSub, Int.reduceMul, Int.reduceNeg, Int.reduceEq, Int.reduceNe, Nat.reduceMul, Nat.reduceSub, decide_true, decide_false, not_true_eq_false, not_false_eq_true, Bool.true_and, Bool.false_and, Bool.and_false, aggEq, scEq, hasSh, alS, List.filterMap_nil]
          subst hQ
          simp (disch := first | assumption | omega) only [R.gantref5_Later, e5, eh, go_sem, ↓reduceIte, Nat.reduceEqDiff, reduceCtorEq, Nat.reduceAdd, Nat.reduceLeDiff, Nat.reduceLT, wrapU32, reduceIte, Int.natCast_nonneg, Int.ofNat_lt, Int.ofNat_le, cond_true, cond_false, Int.reduceBEq, Int.reduceBNe, Int.reduceLT, Int.reduceLE, Int.reduceAdd, Int.reduceSub, Int.reduceMul, Int.reduceNeg, Int.reduceEq, Int.reduceNe, Nat.reduceMul, Nat.reduceSub, decide_true, decide_false, not_true_eq_false, not_false_eq_true, Bool.true_and, Bool.false_and, Bool.and_false, aggEq, scEq, hasSh, alS, List.filterMap_nil]
          exact congrArg (AVal.int .i64) (by unfold diff; omega)
      · refine aw_count (fun d S => S.env 5 = .int .i64 (a - b) ∧ S.heap = h) (n := 0) ⟨by simp [go_sem, e5], by simp [go_sem, eh]⟩ ?_
        rintro d S ⟨e5, eh⟩
        simp (disch := first | assumption | omega) only [e5, eh, go_sem, ↓reduceIte, Nat.reduceEqDiff, reduceCtorEq, Nat.reduceAdd, Nat.reduceLeDiff, Nat.reduceLT, wrapU32, reduceIte, Int.natCast_nonneg, Int.ofNat_lt, Int.ofNat_le, cond_true, cond_false, Int.reduceBEq, Int.reduceBNe, Int.reduceLT, Int.reduceLE, Int.reduceAdd, Int.reduceSub, Int.reduceMul, Int.reduceNeg, Int.reduceEq, Int.reduceNe, Nat.reduceMul, Nat.reduceSub, decide_true, decide_false, not_true_eq_false, not_false_eq_true, Bool.true_and, Bool.false_and, Bool.and_false, aggEq, scEq, hasSh, alS, List.filterMap_nil]
        refine condG_if (fun hlt => ?_) fun hge => ?_
        · omega
        · simp (disch := first | assumption | omega) only [e5, eh, go_sem, ↓reduceIte, Nat.reduceEqDiff, reduceCtorEq, Nat.reduceAdd, Nat.reduceLeDiff, Nat.reduceLT, wrapU32, reduceIte, Int.natCast_nonneg, Int.ofNat_lt, Int.ofNat_le, cond_true, cond_false, Int.reduceBEq, Int.reduceBNe, Int.reduceLT, Int.reduceLE, Int.reduceAdd, Int.reduceSub, Int.reduceMul, Int.reduceNeg, Int.reduceEq, Int.reduceNe, Nat.reduceMul, Nat.reduceSub, decide_true, decide_false, not_true_eq_false, not_false_eq_true, Bool.true_and, Bool.false_and, Bool.and_false, aggEq, scEq, hasSh, alS, List.filterMap_nil]
          subst hQ
          simp (disch := first | assumption | omega) only [R.gantref5_Later, e5, eh, go_sem, ↓reduceIte, Nat.reduceEqDiff, reduceCtorEq, Nat.reduceAdd, Nat.reduceLeDiff, Nat.reduceLT, wrapU32, reduceIte, Int.natCast_nonneg, Int.ofNat_lt, Int.ofNat_le, cond_true, cond_false, Int.reduceBEq, Int.reduceBNe, Int.reduceLT, Int.reduceLE, Int.reduceAdd, Int.reduceSub, Int.reduceMul, Int.reduceNeg, Int.reduceEq, Int.reduceNe, Nat.reduceMul, Nat.reduceSub, decide_true, decide_false, not_true_eq_false, not_false_eq_true, Bool.true_and, Bool.false_and, Bool.and_false, aggEq, scEq, hasSh, alS, List.filterMap_nil]
          exact congrArg (AVal.int .i64) (by unfold diff; omega)
end Go.Proofs.Ytpdajkbfemcdlaa
/- Annotated code of functions, checked against the program. -/
namespace Go.Proofs.Ytpdajkbfemcdlaa
open Go.Ge
/-- gantry/link.New -/
def C.link_New : ACode :=
  .seq (.region [
    ⟨some 4, .move false (.c .nilptr), none⟩, 
    ⟨some 5, .move false (.c (.int .i64 0)), none⟩]) (
  .seq (.seq (.region [
    ⟨some 6, .move false (.t 0), none⟩, 
    ⟨some 7, .move false (.t 1), none⟩, 
    ⟨some 8, .mn (.t 6) [(.t 7)], none⟩, 
    ⟨some 9, .bin .lss (.t 8) (.c (.int .i64 0)), none⟩, 
    ⟨some 10, .move false (.t 9), none⟩, 
    ⟨some 11, .move false (.t 0), (some (10, false))⟩, 
    ⟨some 12, .move false (.t 1), (some (10, false))⟩, 
    ⟨some 13, .mx (.t 11) [(.t 12)], (some (10, false))⟩, 
    ⟨some 14, .bin .gtr (.t 13) (.c (.int .i64 4)), (some (10, false))⟩, 
    ⟨some 15, .pick (.t 10) (.c (.bool true)) (.t 14), none⟩, 
    ⟨some 16, .move false (.t 15), none⟩, 
    ⟨some 17, .move false (.t 0), (some (16, false))⟩, 
    ⟨some 18, .move false (.t 1), (some (16, false))⟩, 
    ⟨some 19, .bin .eql (.t 17) (.t 18), (some (16, false))⟩, 
    ⟨some 20, .pick (.t 16) (.c (.bool true)) (.t 19), none⟩]) (
  .cond (.t 20) (.seq (.region [
    ⟨some 4, .move false (.c .nilptr), none⟩, 
    ⟨some 5, .move false (.c (.int .i64 16)), none⟩]) (
  .ret)) (.skip))) (
  .seq (.region [
    ⟨some 21, .move false (.t 0), none⟩, 
    ⟨some 22, .move false (.t 1), none⟩, 
    ⟨some 23, .build [(.int .i64 0), (.int .i64 0), (.int .i64 0), (.lst .nil []), (.int .i64 0), (.lst .nil []), (.bool false)] [(0, 1, (.t 21)), (1, 1, (.t 22))], none⟩, 
    ⟨some 24, .bx true (.t 23), none⟩, 
    ⟨some 4, .move false (.t 24), none⟩, 
    ⟨some 5, .move false (.c (.int .i64 0)), none⟩]) (
  .prom 24 (.ret))))
def R.link_New : List ARes := [.t 4, .t 5]
set_option maxRecDepth 100000 in
theorem K.link_New : ckFun Try.prog Try.f81 C.link_New R.link_New = true := by kernel_rfl
/-- (*gantry/link.End).Waits -/
def C.link_End_Waits : ACode :=
  .seq (.region [
    ⟨some 2, .move false (.c (.int .i64 0)), none⟩]) (
  .seq (.region [
    ⟨some 3, .move false (.t 0), none⟩, 
    ⟨some 4, .nilck (.t 3), none⟩, 
    ⟨some 5, .faddr 3 (.t 4), none⟩, 
    ⟨some 6, .load 2 false 1 (.t 5), none⟩, 
    ⟨some 7, .len (.t 6), none⟩, 
    ⟨some 2, .move false (.t 7), none⟩]) (
  .ret))
def R.link_End_Waits : List ARes := [.t 2]
set_option maxRecDepth 100000 in
theorem K.link_End_Waits : ckFun Try.prog Try.f83 C.link_End_Waits R.link_End_Waits = true := by kernel_rfl
/-- (*gantry/link.End).Take -/
def C.link_End_Take : ACode :=
  .seq (.region [
    ⟨some 2, .move false (.c (.lst .nil [])), none⟩]) (
  .seq (.region [
    ⟨some 4, .move false (.t 0), none⟩, 
    ⟨some 5, .nilck (.t 4), none⟩, 
    ⟨some 6, .faddr 5 (.t 5), none⟩, 
    ⟨some 7, .loadT (.t 6), none⟩, 
    ⟨some 3, .move true (.t 7), none⟩]) (
  .seq (.region [
    ⟨some 8, .move false (.t 0), none⟩, 
    ⟨some 9, .nilck (.t 8), none⟩, 
    ⟨some 10, .faddr 5 (.t 9), none⟩, 
    ⟨none, .store 1 (.t 10) (.c (.lst .nil [])), none⟩]) (
  .seq (.region [
    ⟨some 11, .move true (.t 3), none⟩, 
    ⟨some 2, .move true (.t 11), none⟩]) (
  .ret))))
def R.link_End_Take : List ARes := [.t 2]
set_option maxRecDepth 100000 in
theorem K.link_End_Take : ckFun Try.prog Try.f164 C.link_End_Take R.link_End_Take = true := by kernel_rfl
/-- (*gantry/link.End).In -/
def C.link_End_In : ACode :=
  .seq (.region [
    ⟨some 3, .bx true (.t 1), none⟩, 
    ⟨some 4, .move false (.c (.int .i64 0)), none⟩]) (
  .seq (.seq (.region [
    ⟨some 6, .load 2 true 6 (.t 3), none⟩, 
    ⟨some 7, .call true F.msg_Check [(.t 6)], none⟩, 
    ⟨some 5, .move false (.t 7), none⟩]) (
  .seq (.region [
    ⟨some 8, .move false (.t 5), none⟩, 
    ⟨some 9, .bin .neq (.t 8) (.c (.int .i64 0)), none⟩]) (
  .cond (.t 9) (.seq (.region [
    ⟨some 10, .move false (.t 5), none⟩, 
    ⟨some 4, .move false (.t 10), none⟩]) (
  .ret)) (.skip)))) (
  .seq (.seq (.drawn [0, 1, 2, 3, 4, 5, 6, 7, 8, 9, 10, 11, 12, 13, 14, 15] [0, 1, 0, 4, 12, 28, 63, 127, 255, 511, 255, 1279, 3327, 7423, 16383, 32767] [
    ⟨some 11, .faddr 1 (.t 3), none⟩, 
    ⟨some 12, .load 1 false 1 (.t 11), none⟩, 
    ⟨some 13, .move false (.t 0), none⟩, 
    ⟨some 14, .nilck (.t 13), none⟩, 
    ⟨some 15, .faddr 1 (.t 14), none⟩, 
    ⟨some 16, .load 2 false 1 (.t 15), none⟩, 
    ⟨some 17, .bin .neq (.t 12) (.t 16), none⟩, 
    ⟨some 18, .move false (.t 17), none⟩, 
    ⟨some 19, .faddr 2 (.t 3), (some (18, false))⟩, 
    ⟨some 20, .load 1 false 1 (.t 19), (some (18, false))⟩, 
    ⟨some 21, .move false (.t 0), (some (18, false))⟩, 
    ⟨some 22, .nilck (.t 21), (some (18, false))⟩, 
    ⟨some 23, .faddr 0 (.t 22), (some (18, false))⟩, 
    ⟨some 24, .load 2 false 1 (.t 23), (some (18, false))⟩, 
    ⟨some 25, .bin .neq (.t 20) (.t 24), (some (18, false))⟩, 
    ⟨some 26, .pick (.t 18) (.c (.bool true)) (.t 25), none⟩]) (
  .cond (.t 26) (.seq (.region [
    ⟨some 4, .move false (.c (.int .i64 16)), none⟩]) (
  .ret)) (.skip))) (
  .seq (.seq (.region [
    ⟨some 27, .faddr 0 (.t 3), none⟩, 
    ⟨some 28, .load 2 false 1 (.t 27), none⟩, 
    ⟨some 29, .bin .eql (.t 28) (.c (.int .i64 3)), none⟩]) (
  .cond (.t 29) (.seq (.seq (.drawn [0, 1, 2, 3, 4, 5, 6] [0, 1, 0, 4, 12, 28, 63] [
    ⟨some 30, .faddr 3 (.t 3), none⟩, 
    ⟨some 31, .load 1 false 1 (.t 30), none⟩, 
    ⟨some 32, .move false (.t 0), none⟩, 
    ⟨some 33, .nilck (.t 32), none⟩, 
    ⟨some 34, .faddr 2 (.t 33), none⟩, 
    ⟨some 35, .load 2 false 1 (.t 34), none⟩, 
    ⟨some 36, .bin .gtr (.t 31) (.t 35), none⟩]) (
  .cond (.t 36) (.seq (.region [
    ⟨some 4, .move false (.c (.int .i64 9)), none⟩]) (
  .ret)) (.skip))) (
  .seq (.block 0 (.loop (.seq (.seq (.drawn [0, 1, 2, 3, 4, 5, 6, 7, 8, 9, 10, 11, 12, 13, 14, 15, 16, 17, 18] [0, 1, 3, 7, 15, 31, 63, 127, 255, 511, 1023, 2047, 4095, 8191, 16383, 127, 32895, 131071, 262143] [
    ⟨some 37, .move false (.t 0), none⟩, 
    ⟨some 38, .nilck (.t 37), none⟩, 
    ⟨some 39, .faddr 3 (.t 38), none⟩, 
    ⟨some 40, .load 2 false 1 (.t 39), none⟩, 
    ⟨some 41, .len (.t 40), none⟩, 
    ⟨some 42, .bin .gtr (.t 41) (.c (.int .i64 0)), none⟩, 
    ⟨some 43, .move false (.t 42), none⟩, 
    ⟨some 44, .move false (.t 0), (some (43, true))⟩, 
    ⟨some 45, .nilck (.t 44), (some (43, true))⟩, 
    ⟨some 46, .faddr 3 (.t 45), (some (43, true))⟩, 
    ⟨some 47, .load 2 false 1 (.t 46), (some (43, true))⟩, 
    ⟨some 48, .iaddr 7 (.t 47) (.c (.int .i64 0)), (some (43, true))⟩, 
    ⟨some 49, .faddr 0 (.t 48), (some (43, true))⟩, 
    ⟨some 50, .faddr 3 (.t 49), (some (43, true))⟩, 
    ⟨some 51, .load 2 false 1 (.t 50), (some (43, true))⟩, 
    ⟨some 52, .faddr 3 (.t 3), (some (43, true))⟩, 
    ⟨some 53, .load 1 false 1 (.t 52), (some (43, true))⟩, 
    ⟨some 54, .bin .lss (.t 51) (.t 53), (some (43, true))⟩, 
    ⟨some 55, .pick (.t 43) (.t 54) (.c (.bool false)), none⟩]) (
  .cond (.t 55) (.skip) (.exit 0))) (
  .block 1 (.region [
    ⟨some 56, .move false (.t 0), none⟩, 
    ⟨some 57, .move false (.t 0), none⟩, 
    ⟨some 58, .nilck (.t 57), none⟩, 
    ⟨some 59, .faddr 3 (.t 58), none⟩, 
    ⟨some 60, .load 2 false 1 (.t 59), none⟩, 
    ⟨some 61, .slice 7 (.t 60) (some (.c (.int .i64 1))) none none, none⟩, 
    ⟨some 62, .nilck (.t 56), none⟩, 
    ⟨some 63, .faddr 3 (.t 62), none⟩, 
    ⟨none, .store 1 (.t 63) (.t 61), none⟩]))))) (
  .seq (.region [
    ⟨some 4, .move false (.c (.int .i64 0)), none⟩]) (
  .ret)))) (.skip))) (
  .seq (.region [
    ⟨some 64, .move false (.t 0), none⟩, 
    ⟨some 65, .nilck (.t 64), none⟩, 
    ⟨some 66, .faddr 6 (.t 65), none⟩, 
    ⟨none, .store 1 (.t 66) (.c (.bool true)), none⟩]) (
  .seq (.seq (.drawn [0, 1, 2, 3, 4, 5, 6] [0, 1, 0, 4, 12, 28, 63] [
    ⟨some 67, .faddr 3 (.t 3), none⟩, 
    ⟨some 68, .load 1 false 1 (.t 67), none⟩, 
    ⟨some 69, .move false (.t 0), none⟩, 
    ⟨some 70, .nilck (.t 69), none⟩, 
    ⟨some 71, .faddr 4 (.t 70), none⟩, 
    ⟨some 72, .load 2 false 1 (.t 71), none⟩, 
    ⟨some 73, .bin .eql (.t 68) (.t 72), none⟩]) (
  .cond (.t 73) (.seq (.region [
    ⟨some 74, .move false (.t 0), none⟩, 
    ⟨some 75, .nilck (.t 74), none⟩, 
    ⟨some 76, .faddr 4 (.t 75), none⟩, 
    ⟨some 77, .load 2 false 1 (.t 76), none⟩, 
    ⟨some 78, .bin .add (.t 77) (.c (.int .i64 1)), none⟩, 
    ⟨some 79, .nilck (.t 74), none⟩, 
    ⟨some 80, .faddr 4 (.t 79), none⟩, 
    ⟨none, .store 1 (.t 80) (.t 78), none⟩]) (
  .drawn [0, 1, 2, 3, 5, 4, 6, 7, 8, 9, 10, 11] [0, 0, 2, 6, 14, 0, 32, 96, 254, 511, 1023, 2047] [
    ⟨some 81, .move false (.t 0), none⟩, 
    ⟨some 82, .move false (.t 0), none⟩, 
    ⟨some 83, .nilck (.t 82), none⟩, 
    ⟨some 84, .faddr 5 (.t 83), none⟩, 
    ⟨some 86, .load 1 true 6 (.t 3), none⟩, 
    ⟨some 85, .loadT (.t 84), none⟩, 
    ⟨some 87, .hop (.callp F.msg_Copy [(.t 86)]), none⟩, 
    ⟨some 88, .buildS false 6 [(.t 87)], none⟩, 
    ⟨some 89, .append 6 64 (.t 85) (.t 88), none⟩, 
    ⟨some 90, .nilck (.t 81), none⟩, 
    ⟨some 91, .faddr 5 (.t 90), none⟩, 
    ⟨none, .store 1 (.t 91) (.t 89), none⟩])) (.skip))) (
  .seq (.region [
    ⟨some 4, .move false (.c (.int .i64 0)), none⟩]) (
  .ret)))))))
def R.link_End_In : List ARes := [.t 4]
set_option maxRecDepth 100000 in
theorem K.link_End_In : ckFun Try.prog Try.f168 C.link_End_In R.link_End_In = true := by kernel_rfl
/-- (*gantry/link.End).Out -/
def C.link_End_Out : ACode :=
  .seq (.region [
    ⟨some 6, .move false (.c (.lst .nil [])), none⟩]) (
  .seq (.region [
    ⟨some 11, .move false (.t 1), none⟩, 
    ⟨some 12, .mn (.t 11) [(.c (.int .i64 2000))], none⟩, 
    ⟨some 13, .mx (.c (.int .i64 0)) [(.t 12)], none⟩, 
    ⟨some 1, .move false (.t 13), none⟩]) (
  .seq (.region [
    ⟨some 7, .move false (.c (.lst .nil [])), none⟩]) (
  .seq (.seq (.region [
    ⟨some 14, .move false (.t 0), none⟩, 
    ⟨some 15, .nilck (.t 14), none⟩, 
    ⟨some 16, .faddr 3 (.t 15), none⟩, 
    ⟨some 17, .load 2 false 1 (.t 16), none⟩, 
    ⟨some 18, .len (.t 17), none⟩, 
    ⟨some 19, .mn (.t 18) [(.c (.int .i64 8))], none⟩, 
    ⟨some 20, .move false (.c (.int .i64 0)), none⟩]) (
  .block 0 (.loop (.seq (.region [
    ⟨some 21, .bin .lss (.t 20) (.t 19), none⟩]) (
  .seq (.cond (.t 21) (.skip) (.exit 0)) (
  .seq (.block 1 (.seq (.region [
    ⟨some 22, .move false (.t 20), none⟩, 
    ⟨some 8, .move false (.t 22), none⟩]) (
  .seq (.region [
    ⟨some 23, .move false (.t 0), none⟩, 
    ⟨some 24, .nilck (.t 23), none⟩, 
    ⟨some 25, .faddr 3 (.t 24), none⟩, 
    ⟨some 26, .load 2 false 1 (.t 25), none⟩, 
    ⟨some 27, .move false (.t 8), none⟩, 
    ⟨some 28, .iaddr 7 (.t 26) (.t 27), none⟩, 
    ⟨some 9, .move false (.t 28), none⟩]) (
  .seq (.region [
    ⟨some 29, .move false (.t 9), none⟩, 
    ⟨some 30, .nilck (.t 29), none⟩, 
    ⟨some 31, .faddr 6 (.t 30), none⟩, 
    ⟨some 32, .load 2 false 1 (.t 31), none⟩, 
    ⟨some 33, .bin .lss (.t 32) (.c (.int .i64 0)), none⟩, 
    ⟨some 34, .move false (.t 33), none⟩, 
    ⟨some 35, .move false (.t 1), (some (34, false))⟩, 
    ⟨some 36, .move false (.t 9), (some (34, false))⟩, 
    ⟨some 37, .nilck (.t 36), (some (34, false))⟩, 
    ⟨some 38, .faddr 6 (.t 37), (some (34, false))⟩, 
    ⟨some 39, .load 2 false 1 (.t 38), (some (34, false))⟩, 
    ⟨some 40, .bin .sub (.t 35) (.t 39), (some (34, false))⟩, 
    ⟨some 41, .bin .geq (.t 40) (.c (.int .i64 4)), (some (34, false))⟩, 
    ⟨some 42, .pick (.t 34) (.c (.bool true)) (.t 41), none⟩]) (
  .cond (.t 42) (.seq (.region [
    ⟨some 43, .move false (.t 9), none⟩, 
    ⟨some 44, .move false (.t 1), none⟩, 
    ⟨some 45, .nilck (.t 43), none⟩, 
    ⟨some 46, .faddr 6 (.t 45), none⟩, 
    ⟨none, .store 1 (.t 46) (.t 44), none⟩]) (
  .seq (.region [
    ⟨some 47, .move false (.t 9), none⟩, 
    ⟨some 48, .nilck (.t 47), none⟩, 
    ⟨some 49, .faddr 0 (.t 48), none⟩, 
    ⟨some 50, .load 2 true 6 (.t 49), none⟩, 
    ⟨some 51, .call true F.msg_Copy [(.t 50)], none⟩, 
    ⟨some 10, .alloc false [(.int .i64 0), (.int .i64 0), (.int .i64 0), (.int .i64 0), (.int .u32 0), (.lst .nil [])], none⟩, 
    ⟨none, .store 6 (.t 10) (.t 51), none⟩]) (
  .seq (.region [
    ⟨some 52, .move false (.t 2), none⟩, 
    ⟨some 53, .faddr 4 (.t 10), none⟩, 
    ⟨none, .store 1 (.t 53) (.t 52), none⟩]) (
  .region [
    ⟨some 54, .move true (.t 7), none⟩, 
    ⟨some 55, .load 2 true 6 (.t 10), none⟩, 
    ⟨some 56, .buildS false 6 [(.t 55)], none⟩, 
    ⟨some 57, .append 6 64 (.t 54) (.t 56), none⟩, 
    ⟨some 7, .move true (.t 57), none⟩])))) (.skip)))))) (
  .region [
    ⟨some 58, .bin .add (.t 20) (.c (.int .i64 1)), none⟩, 
    ⟨some 20, .move false (.t 58), none⟩]))))))) (
  .seq (.seq (.region [
    ⟨some 59, .move false (.t 0), none⟩, 
    ⟨some 60, .nilck (.t 59), none⟩, 
    ⟨some 61, .faddr 6 (.t 60), none⟩, 
    ⟨some 62, .load 2 false 1 (.t 61), none⟩]) (
  .cond (.t 62) (.seq (.region [
    ⟨some 63, .move false (.t 0), none⟩, 
    ⟨some 64, .nilck (.t 63), none⟩, 
    ⟨some 65, .faddr 6 (.t 64), none⟩, 
    ⟨none, .store 1 (.t 65) (.c (.bool false)), none⟩]) (
  .drawn [1, 2, 3, 4, 5, 6, 7, 8, 9, 10, 11, 12, 13, 14, 15, 0, 16, 17] [0, 0, 2, 6, 14, 0, 32, 96, 224, 0, 512, 1536, 3584, 0, 16382, 32766, 65535, 131071] [
    ⟨some 67, .move false (.t 0), none⟩, 
    ⟨some 68, .nilck (.t 67), none⟩, 
    ⟨some 69, .faddr 0 (.t 68), none⟩, 
    ⟨some 70, .load 2 false 1 (.t 69), none⟩, 
    ⟨some 71, .move false (.t 0), none⟩, 
    ⟨some 72, .nilck (.t 71), none⟩, 
    ⟨some 73, .faddr 1 (.t 72), none⟩, 
    ⟨some 74, .load 2 false 1 (.t 73), none⟩, 
    ⟨some 75, .move false (.t 0), none⟩, 
    ⟨some 76, .nilck (.t 75), none⟩, 
    ⟨some 77, .faddr 4 (.t 76), none⟩, 
    ⟨some 78, .load 2 false 1 (.t 77), none⟩, 
    ⟨some 79, .move false (.t 2), none⟩, 
    ⟨some 80, .build [(.int .i64 0), (.int .i64 0), (.int .i64 0), (.int .i64 0), (.int .u32 0), (.lst .nil [])] [(0, 1, (.c (.int .i64 3))), (1, 1, (.t 70)), (2, 1, (.t 74)), (3, 1, (.t 78)), (4, 1, (.t 79))], none⟩, 
    ⟨some 81, .buildS false 6 [(.t 80)], none⟩, 
    ⟨some 66, .move true (.t 7), none⟩, 
    ⟨some 82, .append 6 64 (.t 66) (.t 81), none⟩, 
    ⟨some 7, .move true (.t 82), none⟩])) (.skip))) (
  .seq (.region [
    ⟨some 83, .move true (.t 7), none⟩, 
    ⟨some 6, .move true (.t 83), none⟩]) (
  .ret))))))
def R.link_End_Out : List ARes := [.t 6]
set_option maxRecDepth 100000 in
theorem K.link_End_Out : ckFun Try.prog Try.f169 C.link_End_Out R.link_End_Out = true := by kernel_rfl
/-- (*gantry/link.End).Put -/
def C.link_End_Put : ACode :=
  .seq (.region [
    ⟨some 6, .move false (.c (.int .i64 0)), none⟩]) (
  .seq (.drawn [0, 1, 2, 3, 4, 5, 6, 7, 8, 9, 10, 11, 12, 13, 14, 15, 16, 17] [0, 0, 2, 6, 14, 0, 32, 96, 224, 0, 512, 1536, 3584, 0, 8192, 32767, 0, 131071] [
    ⟨some 9, .move false (.t 1), none⟩, 
    ⟨some 10, .move false (.t 0), none⟩, 
    ⟨some 11, .nilck (.t 10), none⟩, 
    ⟨some 12, .faddr 0 (.t 11), none⟩, 
    ⟨some 13, .load 2 false 1 (.t 12), none⟩, 
    ⟨some 14, .move false (.t 0), none⟩, 
    ⟨some 15, .nilck (.t 14), none⟩, 
    ⟨some 16, .faddr 1 (.t 15), none⟩, 
    ⟨some 17, .load 2 false 1 (.t 16), none⟩, 
    ⟨some 18, .move false (.t 0), none⟩, 
    ⟨some 19, .nilck (.t 18), none⟩, 
    ⟨some 20, .faddr 2 (.t 19), none⟩, 
    ⟨some 21, .load 2 false 1 (.t 20), none⟩, 
    ⟨some 22, .move false (.t 2), none⟩, 
    ⟨some 23, .hop (.callp F.slices_Clone_Cell [(.t 22)]), none⟩, 
    ⟨some 24, .build [(.int .i64 0), (.int .i64 0), (.int .i64 0), (.int .i64 0), (.int .u32 0), (.lst .nil [])] [(0, 1, (.t 9)), (1, 1, (.t 13)), (2, 1, (.t 17)), (3, 1, (.t 21)), (5, 1, (.t 23))], none⟩, 
    ⟨some 7, .alloc true [(.int .i64 0), (.int .i64 0), (.int .i64 0), (.int .i64 0), (.int .u32 0), (.lst .nil [])], none⟩, 
    ⟨none, .store 6 (.t 7) (.t 24), none⟩]) (
  .seq (.seq (.region [
    ⟨some 25, .move false (.t 1), none⟩, 
    ⟨some 26, .bin .eql (.t 25) (.c (.int .i64 3)), none⟩]) (
  .cond (.t 26) (.seq (.region [
    ⟨some 6, .move false (.c (.int .i64 1)), none⟩]) (
  .ret)) (.skip))) (
  .seq (.seq (.region [
    ⟨some 27, .load 2 true 6 (.t 7), none⟩, 
    ⟨some 28, .call true F.msg_Check [(.t 27)], none⟩, 
    ⟨some 8, .move false (.t 28), none⟩]) (
  .seq (.region [
    ⟨some 29, .move false (.t 8), none⟩, 
    ⟨some 30, .bin .neq (.t 29) (.c (.int .i64 0)), none⟩]) (
  .cond (.t 30) (.seq (.region [
    ⟨some 31, .move false (.t 8), none⟩, 
    ⟨some 6, .move false (.t 31), none⟩]) (
  .ret)) (.skip)))) (
  .seq (.seq (.region [
    ⟨some 32, .move false (.t 0), none⟩, 
    ⟨some 33, .nilck (.t 32), none⟩, 
    ⟨some 34, .faddr 3 (.t 33), none⟩, 
    ⟨some 35, .load 2 false 1 (.t 34), none⟩, 
    ⟨some 36, .len (.t 35), none⟩, 
    ⟨some 37, .bin .eql (.t 36) (.c (.int .i64 500)), none⟩]) (
  .cond (.t 37) (.seq (.region [
    ⟨some 6, .move false (.c (.int .i64 6)), none⟩]) (
  .ret)) (.skip))) (
  .seq (.region [
    ⟨some 38, .move false (.t 0), none⟩, 
    ⟨some 39, .nilck (.t 38), none⟩, 
    ⟨some 40, .faddr 2 (.t 39), none⟩, 
    ⟨some 41, .load 2 false 1 (.t 40), none⟩, 
    ⟨some 42, .bin .add (.t 41) (.c (.int .i64 1)), none⟩, 
    ⟨some 43, .nilck (.t 38), none⟩, 
    ⟨some 44, .faddr 2 (.t 43), none⟩, 
    ⟨none, .store 1 (.t 44) (.t 42), none⟩]) (
  .seq (.drawn [0, 1, 2, 3, 4, 5, 6, 7, 8, 9, 10, 11] [0, 0, 2, 6, 14, 0, 32, 96, 254, 511, 1023, 2047] [
    ⟨some 45, .move false (.t 0), none⟩, 
    ⟨some 46, .move false (.t 0), none⟩, 
    ⟨some 47, .nilck (.t 46), none⟩, 
    ⟨some 48, .faddr 3 (.t 47), none⟩, 
    ⟨some 49, .load 2 false 1 (.t 48), none⟩, 
    ⟨some 50, .load 1 true 6 (.t 7), none⟩, 
    ⟨some 51, .build [(.int .i64 0), (.int .i64 0), (.int .i64 0), (.int .i64 0), (.int .u32 0), (.lst .nil []), (.int .i64 0)] [(0, 6, (.t 50)), (6, 1, (.c (.int .i64 (-1))))], none⟩, 
    ⟨some 52, .buildS false 7 [(.t 51)], none⟩, 
    ⟨some 53, .hop (.appendR 7 72 (.t 49) (.t 52)), none⟩, 
    ⟨some 54, .nilck (.t 45), none⟩, 
    ⟨some 55, .faddr 3 (.t 54), none⟩, 
    ⟨none, .store 1 (.t 55) (.t 53), none⟩]) (
  .seq (.region [
    ⟨some 6, .move false (.c (.int .i64 0)), none⟩]) (
  .ret))))))))
def R.link_End_Put : List ARes := [.t 6]
set_option maxRecDepth 100000 in
theorem K.link_End_Put : ckFun Try.prog Try.f145 C.link_End_Put R.link_End_Put = true := by kernel_rfl
end Go.Proofs.Ytpdajkbfemcdlaa
set_option linter.unusedSimpArgs false
namespace Go.Proofs.Ytpdajkbfemcdlaa
open Go.Ge
/-- The m least significant bytes of a number, the most significant first. -/
def beBytes (n : Int) : Nat → List Int
  | 0 => []
  | m + 1 => beBytes (n / 256) m ++ [n % 256]
theorem beBytes_length (n : Int) (m : Nat) : (beBytes n m).length = m := by
  induction m generalizing n with
  | zero => rfl
  | succ m ih => simp [beBytes, ih]
end Go.Proofs.Ytpdajkbfemcdlaa
/- Annotated code of functions, checked against the program. -/
namespace Go.Proofs.Ytpdajkbfemcdlaa
open Go.Ge
/-- (*gantry/gantlaw5.half).deed -/
def C.gantlaw5_half_deed : ACode :=
  .seq (.region [
    ⟨some 12, .move false (.c (.bool false)), none⟩]) (
  .seq (.drawn [0, 1, 2, 3, 4, 5, 6, 7, 8, 9, 10, 11, 12, 13] [0, 1, 3, 7, 0, 16, 48, 112, 0, 256, 768, 2047, 0, 8191] [
    ⟨some 16, .move false (.t 0), none⟩, 
    ⟨some 17, .nilck (.t 16), none⟩, 
    ⟨some 18, .faddr 1 (.t 17), none⟩, 
    ⟨some 19, .load 2 false 1 (.t 18), none⟩, 
    ⟨some 20, .move false (.t 0), none⟩, 
    ⟨some 21, .nilck (.t 20), none⟩, 
    ⟨some 22, .faddr 0 (.t 21), none⟩, 
    ⟨some 23, .load 2 false 1 (.t 22), none⟩, 
    ⟨some 24, .move false (.t 4), none⟩, 
    ⟨some 25, .conv .u32 (.t 24), none⟩, 
    ⟨some 26, .hop (.callp F.gantref5_Later [(.t 25), (.c (.int .u32 0))]), none⟩, 
    ⟨some 27, .build [(.int .i64 0), (.int .i64 0), (.int .i64 0), (.int .i64 0), (.int .u32 0), (.lst .nil [])] [(0, 1, (.c (.int .i64 3))), (1, 1, (.t 19)), (2, 1, (.t 23)), (3, 1, (.t 26))], none⟩, 
    ⟨some 13, .alloc true [(.int .i64 0), (.int .i64 0), (.int .i64 0), (.int .i64 0), (.int .u32 0), (.lst .nil [])], none⟩, 
    ⟨none, .store 6 (.t 13) (.t 27), none⟩]) (
  .seq (.seq (.region [
    ⟨some 28, .move false (.t 5), none⟩, 
    ⟨some 29, .len (.t 28), none⟩, 
    ⟨some 30, .bin .gtr (.t 29) (.c (.int .i64 0)), none⟩, 
    ⟨some 31, .move false (.t 30), none⟩, 
    ⟨some 32, .move false (.t 2), (some (31, true))⟩, 
    ⟨some 33, .bin .rem (.t 32) (.c (.int .i64 3)), (some (31, true))⟩, 
    ⟨some 34, .bin .gtr (.t 33) (.c (.int .i64 0)), (some (31, true))⟩, 
    ⟨some 35, .pick (.t 31) (.t 34) (.c (.bool false)), none⟩]) (
  .cond (.t 35) (.seq (.region [
    ⟨some 36, .move false (.t 5), none⟩, 
    ⟨some 37, .move false (.t 3), none⟩, 
    ⟨some 38, .move false (.t 5), none⟩, 
    ⟨some 39, .len (.t 38), none⟩, 
    ⟨some 40, .bin .rem (.t 37) (.t 39), none⟩, 
    ⟨some 41, .move false (.t 5), none⟩, 
    ⟨some 42, .len (.t 41), none⟩, 
    ⟨some 43, .bin .add (.t 40) (.t 42), none⟩, 
    ⟨some 44, .move false (.t 5), none⟩, 
    ⟨some 45, .len (.t 44), none⟩, 
    ⟨some 46, .bin .rem (.t 43) (.t 45), none⟩, 
    ⟨some 47, .iaddr 6 (.t 36) (.t 46), none⟩, 
    ⟨some 48, .load 2 true 6 (.t 47), none⟩, 
    ⟨none, .store 6 (.t 13) (.t 48), none⟩]) (
  .drawn [0, 1, 2, 3, 4, 5, 6, 7, 8, 9, 10, 11, 12, 13, 14, 15, 16, 17, 18, 19, 20, 21] [0, 1, 3, 7, 0, 16, 48, 112, 0, 256, 768, 1792, 0, 4096, 16128, 32512, 15, 65551, 196863, 459007, 1048575, 2097151] [
    ⟨some 49, .move false (.t 0), none⟩, 
    ⟨some 50, .nilck (.t 49), none⟩, 
    ⟨some 51, .faddr 1 (.t 50), none⟩, 
    ⟨some 52, .loadX 0 false 1 (.t 51), none⟩, 
    ⟨some 53, .move false (.t 0), none⟩, 
    ⟨some 54, .nilck (.t 53), none⟩, 
    ⟨some 55, .faddr 0 (.t 54), none⟩, 
    ⟨some 56, .loadX 0 false 1 (.t 55), none⟩, 
    ⟨some 57, .move false (.t 0), none⟩, 
    ⟨some 58, .nilck (.t 57), none⟩, 
    ⟨some 59, .faddr 3 (.t 58), none⟩, 
    ⟨some 60, .loadX 0 false 1 (.t 59), none⟩, 
    ⟨some 61, .move false (.t 4), none⟩, 
    ⟨some 62, .bin .rem (.t 61) (.c (.int .i64 3)), none⟩, 
    ⟨some 63, .bin .add (.t 60) (.t 62), none⟩, 
    ⟨some 64, .bin .sub (.t 63) (.c (.int .i64 1)), none⟩, 
    ⟨some 65, .faddr 1 (.t 13), none⟩, 
    ⟨none, .storeB 13 1 (.t 65) (.t 52), none⟩, 
    ⟨some 66, .faddr 2 (.t 13), none⟩, 
    ⟨none, .storeB 13 1 (.t 66) (.t 56), none⟩, 
    ⟨some 67, .faddr 3 (.t 13), none⟩, 
    ⟨none, .storeB 13 1 (.t 67) (.t 64), none⟩])) (.skip))) (
  .seq (.seq (.region [
    ⟨some 68, .move false (.t 2), none⟩, 
    ⟨some 69, .bin .rem (.t 68) (.c (.int .i64 5)), none⟩, 
    ⟨some 70, .bin .add (.t 69) (.c (.int .i64 5)), none⟩, 
    ⟨some 71, .bin .rem (.t 70) (.c (.int .i64 5)), none⟩]) (
  .block 0 (.seq (.region [
    ⟨some 73, .bin .eql (.t 71) (.c (.int .i64 0)), none⟩, 
    ⟨some 72, .move false (.t 73), none⟩]) (
  .cond (.t 72) (.seq (.drawn [0, 1, 2, 3, 4, 5, 6, 7, 8, 9, 10, 11, 12] [0, 1, 0, 4, 12, 28, 0, 64, 192, 448, 1023, 2047, 4095] [
    ⟨some 74, .faddr 0 (.t 13), none⟩, 
    ⟨some 75, .load 1 false 1 (.t 74), none⟩, 
    ⟨some 76, .move false (.t 0), none⟩, 
    ⟨some 77, .nilck (.t 76), none⟩, 
    ⟨some 78, .faddr 0 (.t 77), none⟩, 
    ⟨some 79, .load 2 false 1 (.t 78), none⟩, 
    ⟨some 80, .move false (.t 0), none⟩, 
    ⟨some 81, .nilck (.t 80), none⟩, 
    ⟨some 82, .faddr 1 (.t 81), none⟩, 
    ⟨some 83, .load 2 false 1 (.t 82), none⟩, 
    ⟨some 84, .build [(.int .i64 0), (.int .i64 0), (.int .i64 0), (.int .i64 0), (.int .u32 0), (.lst .nil [])] [(0, 1, (.t 75)), (1, 1, (.t 79)), (2, 1, (.t 83))], none⟩, 
    ⟨some 85, .hop (.callp F.gantref5_MsgFault [(.t 84)]), none⟩, 
    ⟨some 14, .move false (.t 85), none⟩]) (
  .seq (.seq (.region [
    ⟨some 86, .faddr 0 (.t 13), none⟩, 
    ⟨some 87, .load 2 false 1 (.t 86), none⟩, 
    ⟨some 88, .bin .eql (.t 87) (.c (.int .i64 3)), none⟩]) (
  .cond (.t 88) (.region [
    ⟨some 14, .move false (.c (.int .i64 1)), none⟩]) (.skip))) (
  .seq (.seq (.region [
    ⟨some 89, .move false (.t 14), none⟩, 
    ⟨some 90, .bin .eql (.t 89) (.c (.int .i64 0)), none⟩]) (
  .cond (.t 90) (.region [
    ⟨some 91, .faddr 5 (.t 13), none⟩, 
    ⟨some 92, .load 2 false 1 (.t 91), none⟩, 
    ⟨some 93, .call true F.gantref5_CellsFault [(.t 92)], none⟩, 
    ⟨some 14, .move false (.t 93), none⟩]) (.skip))) (
  .seq (.seq (.region [
    ⟨some 94, .move false (.t 14), none⟩, 
    ⟨some 95, .bin .eql (.t 94) (.c (.int .i64 0)), none⟩, 
    ⟨some 96, .move false (.t 95), none⟩, 
    ⟨some 97, .move false (.t 0), (some (96, true))⟩, 
    ⟨some 98, .nilck (.t 97), (some (96, true))⟩, 
    ⟨some 99, .faddr 4 (.t 98), (some (96, true))⟩, 
    ⟨some 100, .load 2 false 1 (.t 99), (some (96, true))⟩, 
    ⟨some 101, .len (.t 100), (some (96, true))⟩, 
    ⟨some 102, .bin .geq (.t 101) (.c (.int .i64 500)), (some (96, true))⟩, 
    ⟨some 103, .pick (.t 96) (.t 102) (.c (.bool false)), none⟩]) (
  .cond (.t 103) (.region [
    ⟨some 14, .move false (.c (.int .i64 6)), none⟩]) (.skip))) (
  .seq (.seq (.region [
    ⟨some 104, .move false (.t 14), none⟩, 
    ⟨some 105, .bin .eql (.t 104) (.c (.int .i64 0)), none⟩]) (
  .cond (.t 105) (.seq (.drawn [0, 1, 2, 3, 4, 5, 6, 7, 8, 9, 10, 11, 12, 13, 14, 15, 16, 17, 18, 19, 20, 21, 22, 23, 24, 25, 26] [0, 0, 2, 6, 14, 0, 32, 0, 128, 384, 896, 0, 2048, 6144, 14336, 0, 32768, 98304, 229376, 0, 524288, 2097120, 4194272, 8388606, 16777215, 33554431, 67108863] [
    ⟨some 106, .move false (.t 0), none⟩, 
    ⟨some 107, .move false (.t 0), none⟩, 
    ⟨some 108, .nilck (.t 107), none⟩, 
    ⟨some 109, .faddr 4 (.t 108), none⟩, 
    ⟨some 110, .load 2 false 1 (.t 109), none⟩, 
    ⟨some 111, .faddr 0 (.t 13), none⟩, 
    ⟨some 112, .load 1 false 1 (.t 111), none⟩, 
    ⟨some 113, .move false (.t 0), none⟩, 
    ⟨some 114, .nilck (.t 113), none⟩, 
    ⟨some 115, .faddr 0 (.t 114), none⟩, 
    ⟨some 116, .load 2 false 1 (.t 115), none⟩, 
    ⟨some 117, .move false (.t 0), none⟩, 
    ⟨some 118, .nilck (.t 117), none⟩, 
    ⟨some 119, .faddr 1 (.t 118), none⟩, 
    ⟨some 120, .load 2 false 1 (.t 119), none⟩, 
    ⟨some 121, .move false (.t 0), none⟩, 
    ⟨some 122, .nilck (.t 121), none⟩, 
    ⟨some 123, .faddr 2 (.t 122), none⟩, 
    ⟨some 124, .load 2 false 1 (.t 123), none⟩, 
    ⟨some 125, .faddr 5 (.t 13), none⟩, 
    ⟨some 126, .load 1 false 1 (.t 125), none⟩, 
    ⟨some 127, .build [(.int .i64 0), (.int .i64 0), (.int .i64 0), (.int .i64 0), (.int .u32 0), (.lst .nil [])] [(0, 1, (.t 112)), (1, 1, (.t 116)), (2, 1, (.t 120)), (3, 1, (.t 124)), (5, 1, (.t 126))], none⟩, 
    ⟨some 128, .buildS false 6 [(.t 127)], none⟩, 
    ⟨some 129, .hop (.appendR 6 64 (.t 110) (.t 128)), none⟩, 
    ⟨some 130, .nilck (.t 106), none⟩, 
    ⟨some 131, .faddr 4 (.t 130), none⟩, 
    ⟨none, .store 1 (.t 131) (.t 129), none⟩]) (
  .seq (.region [
    ⟨some 132, .move false (.t 0), none⟩, 
    ⟨some 133, .move false (.t 0), none⟩, 
    ⟨some 134, .nilck (.t 133), none⟩, 
    ⟨some 135, .faddr 5 (.t 134), none⟩, 
    ⟨some 136, .load 2 false 1 (.t 135), none⟩, 
    ⟨some 137, .buildS false 1 [(.c (.int .i64 (-1)))], none⟩, 
    ⟨some 138, .hop (.appendR 1 8 (.t 136) (.t 137)), none⟩, 
    ⟨some 139, .nilck (.t 132), none⟩, 
    ⟨some 140, .faddr 5 (.t 139), none⟩, 
    ⟨none, .store 1 (.t 140) (.t 138), none⟩]) (
  .region [
    ⟨some 141, .move false (.t 0), none⟩, 
    ⟨some 142, .nilck (.t 141), none⟩, 
    ⟨some 143, .faddr 2 (.t 142), none⟩, 
    ⟨some 144, .load 2 false 1 (.t 143), none⟩, 
    ⟨some 145, .bin .add (.t 144) (.c (.int .i64 1)), none⟩, 
    ⟨some 146, .nilck (.t 141), none⟩, 
    ⟨some 147, .faddr 2 (.t 146), none⟩, 
    ⟨none, .store 1 (.t 147) (.t 145), none⟩]))) (.skip))) (
  .seq (.region [
    ⟨some 148, .move false (.t 1), none⟩, 
    ⟨some 149, .faddr 0 (.t 13), none⟩, 
    ⟨some 150, .load 2 false 1 (.t 149), none⟩, 
    ⟨some 151, .faddr 5 (.t 13), none⟩, 
    ⟨some 152, .load 2 false 1 (.t 151), none⟩, 
    ⟨some 153, .call true F.link_End_Put [(.t 148), (.t 150), (.t 152)], none⟩, 
    ⟨some 154, .move false (.t 14), none⟩, 
    ⟨some 155, .bin .eql (.t 153) (.t 154), none⟩, 
    ⟨some 12, .move false (.t 155), none⟩]) (
  .ret))))))) (.seq (.seq (.region [
    ⟨some 157, .bin .eql (.t 71) (.c (.int .i64 1)), none⟩, 
    ⟨some 156, .move false (.t 157), none⟩]) (
  .cond (.t 156) (.skip) (.region [
    ⟨some 158, .bin .eql (.t 71) (.c (.int .i64 2)), none⟩, 
    ⟨some 156, .move false (.t 158), none⟩]))) (
  .cond (.t 156) (.seq (.region [
    ⟨some 159, .move false (.t 0), none⟩, 
    ⟨some 160, .move false (.t 1), none⟩, 
    ⟨some 161, .load 2 true 6 (.t 13), none⟩, 
    ⟨some 162, .call true F.gantlaw5_half_in [(.t 159), (.t 160), (.t 161)], none⟩, 
    ⟨some 12, .move false (.t 162), none⟩]) (
  .ret)) (.seq (.region [
    ⟨some 164, .bin .eql (.t 71) (.c (.int .i64 3)), none⟩, 
    ⟨some 163, .move false (.t 164), none⟩]) (
  .cond (.t 163) (.seq (.region [
    ⟨some 165, .move false (.t 0), none⟩, 
    ⟨some 166, .move false (.t 1), none⟩, 
    ⟨some 167, .move false (.t 3), none⟩, 
    ⟨some 168, .move false (.t 4), none⟩, 
    ⟨some 169, .conv .u32 (.t 168), none⟩, 
    ⟨some 170, .call true F.gantlaw5_half_out [(.t 165), (.t 166), (.t 167), (.t 169)], none⟩, 
    ⟨some 12, .move false (.t 170), none⟩]) (
  .ret)) (.skip))))))))) (
  .seq (.region [
    ⟨some 171, .move false (.t 0), none⟩, 
    ⟨some 172, .nilck (.t 171), none⟩, 
    ⟨some 173, .faddr 6 (.t 172), none⟩, 
    ⟨some 174, .load 2 false 1 (.t 173), none⟩, 
    ⟨some 15, .move false (.t 174), none⟩]) (
  .seq (.region [
    ⟨some 175, .move false (.t 0), none⟩, 
    ⟨some 176, .nilck (.t 175), none⟩, 
    ⟨some 177, .faddr 6 (.t 176), none⟩, 
    ⟨none, .store 1 (.t 177) (.c (.lst .nil [])), none⟩]) (
  .seq (.region [
    ⟨some 178, .move false (.t 1), none⟩, 
    ⟨some 179, .call true F.link_End_Take [(.t 178)], none⟩, 
    ⟨some 180, .move false (.t 15), none⟩, 
    ⟨some 181, .call true F.slices_EqualFunc_Msg [(.t 179), (.t 180), (.c (.func 48 []))], none⟩, 
    ⟨some 12, .move false (.t 181), none⟩]) (
  .ret)))))))
def R.gantlaw5_half_deed : List ARes := [.t 12]
set_option maxRecDepth 100000 in
theorem K.gantlaw5_half_deed : ckFun Try.prog Try.f82 C.gantlaw5_half_deed R.gantlaw5_half_deed = true := by kernel_rfl
/-- (*gantry/gantlaw5.half).in -/
def C.gantlaw5_half_in : ACode :=
  .seq (.region [
    ⟨some 5, .bx true (.t 2), none⟩, 
    ⟨some 6, .move false (.c (.bool false)), none⟩]) (
  .seq (.region [
    ⟨some 11, .load 2 true 6 (.t 5), none⟩, 
    ⟨some 12, .call true F.gantref5_MsgFault [(.t 11)], none⟩, 
    ⟨some 7, .move false (.t 12), none⟩]) (
  .seq (.seq (.region [
    ⟨some 13, .move false (.t 7), none⟩, 
    ⟨some 14, .bin .eql (.t 13) (.c (.int .i64 0)), none⟩]) (
  .cond (.t 14) (.region [
    ⟨some 15, .faddr 5 (.t 5), none⟩, 
    ⟨some 16, .load 2 false 1 (.t 15), none⟩, 
    ⟨some 17, .call true F.gantref5_CellsFault [(.t 16)], none⟩, 
    ⟨some 7, .move false (.t 17), none⟩]) (.skip))) (
  .seq (.seq (.region [
    ⟨some 18, .move false (.c (.int .i64 0)), none⟩]) (
  .block 0 (.loop (.seq (.region [
    ⟨some 19, .bin .lss (.t 18) (.c (.int .i64 5)), none⟩]) (
  .seq (.cond (.t 19) (.skip) (.exit 0)) (
  .seq (.block 1 (.seq (.kill 9 (.region [
    ⟨some 20, .move false (.t 18), none⟩, 
    ⟨some 8, .move false (.t 20), none⟩])) (
  .seq (.kill 10 (.drawn [0, 1, 2, 3, 4, 5] [0, 0, 0, 0, 13, 31] [
    ⟨some 21, .loadX 6 true 6 (.t 5), none⟩, 
    ⟨some 22, .loadX 6 true 6 (.t 5), none⟩, 
    ⟨some 9, .alloc true [(.int .i64 0), (.int .i64 0), (.int .i64 0), (.int .i64 0), (.int .u32 0), (.lst .nil [])], none⟩, 
    ⟨some 10, .alloc true [(.int .i64 0), (.int .i64 0), (.int .i64 0), (.int .i64 0), (.int .u32 0), (.lst .nil [])], none⟩, 
    ⟨none, .storeB 9 6 (.t 9) (.t 21), none⟩, 
    ⟨none, .storeB 10 6 (.t 10) (.t 22), none⟩])) (
  .seq (.region [
    ⟨some 23, .move false (.t 8), none⟩, 
    ⟨some 24, .move false (.t 8), none⟩, 
    ⟨some 25, .faddr 1 (.t 9), none⟩, 
    ⟨none, .store 1 (.t 25) (.t 23), none⟩, 
    ⟨some 26, .faddr 2 (.t 10), none⟩, 
    ⟨none, .store 1 (.t 26) (.t 24), none⟩]) (
  .seq (.seq (.region [
    ⟨some 27, .move false (.t 8), none⟩, 
    ⟨some 28, .move false (.t 0), none⟩, 
    ⟨some 29, .nilck (.t 28), none⟩, 
    ⟨some 30, .faddr 1 (.t 29), none⟩, 
    ⟨some 31, .load 2 false 1 (.t 30), none⟩, 
    ⟨some 32, .bin .neq (.t 27) (.t 31), none⟩, 
    ⟨some 33, .move false (.t 32), none⟩, 
    ⟨some 34, .load 2 true 6 (.t 9), (some (33, true))⟩, 
    ⟨some 35, .call true F.gantref5_MsgFault [(.t 34)], (some (33, true))⟩, 
    ⟨some 36, .bin .eql (.t 35) (.c (.int .i64 0)), (some (33, true))⟩, 
    ⟨some 37, .pick (.t 33) (.t 36) (.c (.bool false)), none⟩, 
    ⟨some 38, .move false (.t 37), none⟩, 
    ⟨some 39, .faddr 5 (.t 9), (some (38, true))⟩, 
    ⟨some 40, .load 2 false 1 (.t 39), (some (38, true))⟩, 
    ⟨some 41, .call true F.gantref5_CellsFault [(.t 40)], (some (38, true))⟩, 
    ⟨some 42, .bin .eql (.t 41) (.c (.int .i64 0)), (some (38, true))⟩, 
    ⟨some 43, .pick (.t 38) (.t 42) (.c (.bool false)), none⟩, 
    ⟨some 44, .move false (.t 43), none⟩, 
    ⟨some 45, .move false (.t 1), (some (44, true))⟩, 
    ⟨some 46, .load 2 true 6 (.t 9), (some (44, true))⟩, 
    ⟨some 47, .call true F.link_End_In [(.t 45), (.t 46)], (some (44, true))⟩, 
    ⟨some 48, .bin .neq (.t 47) (.c (.int .i64 16)), (some (44, true))⟩, 
    ⟨some 49, .pick (.t 44) (.t 48) (.c (.bool false)), none⟩]) (
  .cond (.t 49) (.seq (.region [
    ⟨some 6, .move false (.c (.bool false)), none⟩]) (
  .ret)) (.skip))) (
  .seq (.region [
    ⟨some 50, .move false (.t 8), none⟩, 
    ⟨some 51, .move false (.t 0), none⟩, 
    ⟨some 52, .nilck (.t 51), none⟩, 
    ⟨some 53, .faddr 0 (.t 52), none⟩, 
    ⟨some 54, .load 2 false 1 (.t 53), none⟩, 
    ⟨some 55, .bin .neq (.t 50) (.t 54), none⟩, 
    ⟨some 56, .move false (.t 55), none⟩, 
    ⟨some 57, .load 2 true 6 (.t 10), (some (56, true))⟩, 
    ⟨some 58, .call true F.gantref5_MsgFault [(.t 57)], (some (56, true))⟩, 
    ⟨some 59, .bin .eql (.t 58) (.c (.int .i64 0)), (some (56, true))⟩, 
    ⟨some 60, .pick (.t 56) (.t 59) (.c (.bool false)), none⟩, 
    ⟨some 61, .move false (.t 60), none⟩, 
    ⟨some 62, .faddr 5 (.t 10), (some (61, true))⟩, 
    ⟨some 63, .load 2 false 1 (.t 62), (some (61, true))⟩, 
    ⟨some 64, .call true F.gantref5_CellsFault [(.t 63)], (some (61, true))⟩, 
    ⟨some 65, .bin .eql (.t 64) (.c (.int .i64 0)), (some (61, true))⟩, 
    ⟨some 66, .pick (.t 61) (.t 65) (.c (.bool false)), none⟩, 
    ⟨some 67, .move false (.t 66), none⟩, 
    ⟨some 68, .move false (.t 1), (some (67, true))⟩, 
    ⟨some 69, .load 2 true 6 (.t 10), (some (67, true))⟩, 
    ⟨some 70, .call true F.link_End_In [(.t 68), (.t 69)], (some (67, true))⟩, 
    ⟨some 71, .bin .neq (.t 70) (.c (.int .i64 16)), (some (67, true))⟩, 
    ⟨some 72, .pick (.t 67) (.t 71) (.c (.bool false)), none⟩]) (
  .cond (.t 72) (.seq (.region [
    ⟨some 6, .move false (.c (.bool false)), none⟩]) (
  .ret)) (.skip)))))))) (
  .region [
    ⟨some 73, .bin .add (.t 18) (.c (.int .i64 1)), none⟩, 
    ⟨some 18, .move false (.t 73), none⟩]))))))) (
  .seq (.seq (.region [
    ⟨some 74, .move false (.t 7), none⟩, 
    ⟨some 75, .bin .eql (.t 74) (.c (.int .i64 0)), none⟩, 
    ⟨some 76, .move false (.t 75), none⟩, 
    ⟨some 77, .faddr 0 (.t 5), (some (76, true))⟩, 
    ⟨some 78, .load 2 false 1 (.t 77), (some (76, true))⟩, 
    ⟨some 79, .bin .eql (.t 78) (.c (.int .i64 3)), (some (76, true))⟩, 
    ⟨some 80, .pick (.t 76) (.t 79) (.c (.bool false)), none⟩]) (
  .cond (.t 80) (.seq (.seq (.drawn [0, 1, 2, 3, 4, 5, 6] [0, 1, 0, 4, 12, 28, 63] [
    ⟨some 81, .faddr 3 (.t 5), none⟩, 
    ⟨some 82, .load 1 false 1 (.t 81), none⟩, 
    ⟨some 83, .move false (.t 0), none⟩, 
    ⟨some 84, .nilck (.t 83), none⟩, 
    ⟨some 85, .faddr 2 (.t 84), none⟩, 
    ⟨some 86, .load 2 false 1 (.t 85), none⟩, 
    ⟨some 87, .bin .gtr (.t 82) (.t 86), none⟩]) (
  .cond (.t 87) (.region [
    ⟨some 7, .move false (.c (.int .i64 9)), none⟩]) (.block 2 (.loop (.seq (.seq (.drawn [0, 1, 2, 3, 4, 5, 6, 7, 8, 9, 10, 11, 12, 13, 14, 15, 16, 17] [0, 1, 3, 7, 15, 31, 63, 127, 255, 511, 1023, 2047, 4095, 8191, 127, 16511, 65535, 131071] [
    ⟨some 88, .move false (.t 0), none⟩, 
    ⟨some 89, .nilck (.t 88), none⟩, 
    ⟨some 90, .faddr 4 (.t 89), none⟩, 
    ⟨some 91, .load 2 false 1 (.t 90), none⟩, 
    ⟨some 92, .len (.t 91), none⟩, 
    ⟨some 93, .bin .gtr (.t 92) (.c (.int .i64 0)), none⟩, 
    ⟨some 94, .move false (.t 93), none⟩, 
    ⟨some 95, .move false (.t 0), (some (94, true))⟩, 
    ⟨some 96, .nilck (.t 95), (some (94, true))⟩, 
    ⟨some 97, .faddr 4 (.t 96), (some (94, true))⟩, 
    ⟨some 98, .load 2 false 1 (.t 97), (some (94, true))⟩, 
    ⟨some 99, .iaddr 6 (.t 98) (.c (.int .i64 0)), (some (94, true))⟩, 
    ⟨some 100, .faddr 3 (.t 99), (some (94, true))⟩, 
    ⟨some 101, .load 2 false 1 (.t 100), (some (94, true))⟩, 
    ⟨some 102, .faddr 3 (.t 5), (some (94, true))⟩, 
    ⟨some 103, .load 1 false 1 (.t 102), (some (94, true))⟩, 
    ⟨some 104, .bin .lss (.t 101) (.t 103), (some (94, true))⟩, 
    ⟨some 105, .pick (.t 94) (.t 104) (.c (.bool false)), none⟩]) (
  .cond (.t 105) (.skip) (.exit 2))) (
  .block 3 (.drawn [0, 1, 2, 3, 4, 5, 6, 7, 8, 9, 10, 11, 12, 13, 14, 15, 16, 17] [0, 0, 0, 4, 12, 28, 60, 0, 128, 384, 896, 1920, 2045, 6141, 14333, 32767, 65535, 131071] [
    ⟨some 106, .move false (.t 0), none⟩, 
    ⟨some 107, .move false (.t 0), none⟩, 
    ⟨some 108, .move false (.t 0), none⟩, 
    ⟨some 109, .nilck (.t 108), none⟩, 
    ⟨some 110, .faddr 4 (.t 109), none⟩, 
    ⟨some 111, .load 2 false 1 (.t 110), none⟩, 
    ⟨some 112, .slice 6 (.t 111) (some (.c (.int .i64 1))) none none, none⟩, 
    ⟨some 113, .move false (.t 0), none⟩, 
    ⟨some 114, .nilck (.t 113), none⟩, 
    ⟨some 115, .faddr 5 (.t 114), none⟩, 
    ⟨some 116, .load 2 false 1 (.t 115), none⟩, 
    ⟨some 117, .slice 1 (.t 116) (some (.c (.int .i64 1))) none none, none⟩, 
    ⟨some 118, .nilck (.t 106), none⟩, 
    ⟨some 119, .faddr 4 (.t 118), none⟩, 
    ⟨none, .store 1 (.t 119) (.t 112), none⟩, 
    ⟨some 120, .nilck (.t 107), none⟩, 
    ⟨some 121, .faddr 5 (.t 120), none⟩, 
    ⟨none, .store 1 (.t 121) (.t 117), none⟩]))))))) (
  .seq (.region [
    ⟨some 122, .move false (.t 1), none⟩, 
    ⟨some 123, .load 2 true 6 (.t 5), none⟩, 
    ⟨some 124, .call true F.link_End_In [(.t 122), (.t 123)], none⟩, 
    ⟨some 125, .move false (.t 7), none⟩, 
    ⟨some 126, .bin .eql (.t 124) (.t 125), none⟩, 
    ⟨some 6, .move false (.t 126), none⟩]) (
  .ret))) (.skip))) (
  .seq (.seq (.region [
    ⟨some 127, .move false (.t 7), none⟩, 
    ⟨some 128, .bin .eql (.t 127) (.c (.int .i64 0)), none⟩]) (
  .cond (.t 128) (.seq (.region [
    ⟨some 129, .move false (.t 0), none⟩, 
    ⟨some 130, .nilck (.t 129), none⟩, 
    ⟨some 131, .faddr 7 (.t 130), none⟩, 
    ⟨none, .store 1 (.t 131) (.c (.bool true)), none⟩]) (
  .seq (.drawn [0, 1, 2, 3, 4, 5, 6] [0, 1, 0, 4, 12, 28, 63] [
    ⟨some 132, .faddr 3 (.t 5), none⟩, 
    ⟨some 133, .load 1 false 1 (.t 132), none⟩, 
    ⟨some 134, .move false (.t 0), none⟩, 
    ⟨some 135, .nilck (.t 134), none⟩, 
    ⟨some 136, .faddr 3 (.t 135), none⟩, 
    ⟨some 137, .load 2 false 1 (.t 136), none⟩, 
    ⟨some 138, .bin .eql (.t 133) (.t 137), none⟩]) (
  .cond (.t 138) (.seq (.region [
    ⟨some 139, .move false (.t 0), none⟩, 
    ⟨some 140, .nilck (.t 139), none⟩, 
    ⟨some 141, .faddr 3 (.t 140), none⟩, 
    ⟨some 142, .load 2 false 1 (.t 141), none⟩, 
    ⟨some 143, .bin .add (.t 142) (.c (.int .i64 1)), none⟩, 
    ⟨some 144, .nilck (.t 139), none⟩, 
    ⟨some 145, .faddr 3 (.t 144), none⟩, 
    ⟨none, .store 1 (.t 145) (.t 143), none⟩]) (
  .drawn [0, 1, 2, 3, 5, 6, 4, 7, 8, 9, 10] [0, 0, 2, 6, 14, 0, 32, 126, 255, 511, 1023] [
    ⟨some 146, .move false (.t 0), none⟩, 
    ⟨some 147, .move false (.t 0), none⟩, 
    ⟨some 148, .nilck (.t 147), none⟩, 
    ⟨some 149, .faddr 6 (.t 148), none⟩, 
    ⟨some 151, .load 1 true 6 (.t 5), none⟩, 
    ⟨some 152, .buildS false 6 [(.t 151)], none⟩, 
    ⟨some 150, .loadT (.t 149), none⟩, 
    ⟨some 153, .append 6 64 (.t 150) (.t 152), none⟩, 
    ⟨some 154, .nilck (.t 146), none⟩, 
    ⟨some 155, .faddr 6 (.t 154), none⟩, 
    ⟨none, .store 1 (.t 155) (.t 153), none⟩])) (.skip)))) (.skip))) (
  .seq (.region [
    ⟨some 156, .move false (.t 1), none⟩, 
    ⟨some 157, .load 2 true 6 (.t 5), none⟩, 
    ⟨some 158, .call true F.link_End_In [(.t 156), (.t 157)], none⟩, 
    ⟨some 159, .move false (.t 7), none⟩, 
    ⟨some 160, .bin .eql (.t 158) (.t 159), none⟩, 
    ⟨some 6, .move false (.t 160), none⟩]) (
  .ret)))))))
def R.gantlaw5_half_in : List ARes := [.t 6]
set_option maxRecDepth 100000 in
theorem K.gantlaw5_half_in : ckFun Try.prog Try.f162 C.gantlaw5_half_in R.gantlaw5_half_in = true := by kernel_rfl
/-- (*gantry/gantlaw5.half).out -/
def C.gantlaw5_half_out : ACode :=
  .seq (.region [
    ⟨some 8, .move false (.c (.bool false)), none⟩]) (
  .seq (.region [
    ⟨some 13, .move false (.t 2), none⟩, 
    ⟨some 14, .mx (.c (.int .i64 0)) [(.t 13)], none⟩, 
    ⟨some 15, .mn (.c (.int .i64 2000)) [(.t 14)], none⟩, 
    ⟨some 9, .move false (.t 15), none⟩]) (
  .seq (.region [
    ⟨some 10, .move false (.c (.lst .nil [])), none⟩]) (
  .seq (.seq (.region [
    ⟨some 11, .move false (.c (.int .i64 0)), none⟩]) (
  .block 0 (.loop (.seq (.seq (.region [
    ⟨some 16, .move false (.t 11), none⟩, 
    ⟨some 17, .move false (.t 0), none⟩, 
    ⟨some 18, .nilck (.t 17), none⟩, 
    ⟨some 19, .faddr 4 (.t 18), none⟩, 
    ⟨some 20, .load 2 false 1 (.t 19), none⟩, 
    ⟨some 21, .len (.t 20), none⟩, 
    ⟨some 22, .bin .lss (.t 16) (.t 21), none⟩, 
    ⟨some 23, .move false (.t 22), none⟩, 
    ⟨some 24, .move false (.t 11), (some (23, true))⟩, 
    ⟨some 25, .bin .lss (.t 24) (.c (.int .i64 8)), (some (23, true))⟩, 
    ⟨some 26, .pick (.t 23) (.t 25) (.c (.bool false)), none⟩]) (
  .cond (.t 26) (.skip) (.exit 0))) (
  .seq (.block 1 (.seq (.region [
    ⟨some 29, .move false (.t 0), none⟩, 
    ⟨some 30, .nilck (.t 29), none⟩, 
    ⟨some 31, .faddr 5 (.t 30), none⟩, 
    ⟨some 32, .load 2 false 1 (.t 31), none⟩, 
    ⟨some 33, .move false (.t 11), none⟩, 
    ⟨some 34, .iaddr 1 (.t 32) (.t 33), none⟩, 
    ⟨some 35, .load 2 false 1 (.t 34), none⟩, 
    ⟨some 36, .bin .eql (.t 35) (.c (.int .i64 (-1))), none⟩, 
    ⟨some 37, .move false (.t 36), none⟩, 
    ⟨some 38, .move false (.t 0), (some (37, false))⟩, 
    ⟨some 39, .nilck (.t 38), (some (37, false))⟩, 
    ⟨some 40, .faddr 5 (.t 39), (some (37, false))⟩, 
    ⟨some 41, .load 2 false 1 (.t 40), (some (37, false))⟩, 
    ⟨some 42, .move false (.t 11), (some (37, false))⟩, 
    ⟨some 43, .iaddr 1 (.t 41) (.t 42), (some (37, false))⟩, 
    ⟨some 44, .load 2 false 1 (.t 43), (some (37, false))⟩, 
    ⟨some 45, .move false (.t 9), (some (37, false))⟩, 
    ⟨some 46, .bin .sub (.t 45) (.c (.int .i64 4)), (some (37, false))⟩, 
    ⟨some 47, .bin .leq (.t 44) (.t 46), (some (37, false))⟩, 
    ⟨some 48, .pick (.t 37) (.c (.bool true)) (.t 47), none⟩]) (
  .cond (.t 48) (.seq (.region [
    ⟨some 49, .move false (.t 0), none⟩, 
    ⟨some 50, .nilck (.t 49), none⟩, 
    ⟨some 51, .faddr 5 (.t 50), none⟩, 
    ⟨some 52, .load 2 false 1 (.t 51), none⟩, 
    ⟨some 53, .move false (.t 11), none⟩, 
    ⟨some 54, .move false (.t 9), none⟩, 
    ⟨some 55, .iaddr 1 (.t 52) (.t 53), none⟩, 
    ⟨none, .store 1 (.t 55) (.t 54), none⟩]) (
  .seq (.region [
    ⟨some 56, .move false (.t 0), none⟩, 
    ⟨some 57, .nilck (.t 56), none⟩, 
    ⟨some 58, .faddr 4 (.t 57), none⟩, 
    ⟨some 59, .load 2 false 1 (.t 58), none⟩, 
    ⟨some 60, .move false (.t 11), none⟩, 
    ⟨some 61, .iaddr 6 (.t 59) (.t 60), none⟩, 
    ⟨some 62, .load 2 true 6 (.t 61), none⟩, 
    ⟨some 12, .alloc false [(.int .i64 0), (.int .i64 0), (.int .i64 0), (.int .i64 0), (.int .u32 0), (.lst .nil [])], none⟩, 
    ⟨none, .store 6 (.t 12) (.t 62), none⟩]) (
  .seq (.region [
    ⟨some 63, .move false (.t 3), none⟩, 
    ⟨some 64, .faddr 4 (.t 12), none⟩, 
    ⟨none, .store 1 (.t 64) (.t 63), none⟩]) (
  .region [
    ⟨some 65, .move true (.t 10), none⟩, 
    ⟨some 66, .load 2 true 6 (.t 12), none⟩, 
    ⟨some 67, .buildS false 6 [(.t 66)], none⟩, 
    ⟨some 68, .append 6 64 (.t 65) (.t 67), none⟩, 
    ⟨some 10, .move true (.t 68), none⟩])))) (.skip)))) (
  .region [
    ⟨some 27, .move false (.t 11), none⟩, 
    ⟨some 28, .bin .add (.t 27) (.c (.int .i64 1)), none⟩, 
    ⟨some 11, .move false (.t 28), none⟩])))))) (
  .seq (.seq (.region [
    ⟨some 69, .move false (.t 0), none⟩, 
    ⟨some 70, .nilck (.t 69), none⟩, 
    ⟨some 71, .faddr 7 (.t 70), none⟩, 
    ⟨some 72, .load 2 false 1 (.t 71), none⟩]) (
  .cond (.t 72) (.seq (.drawn [1, 2, 3, 4, 5, 6, 7, 8, 9, 10, 11, 12, 13, 14, 15, 0, 16, 17] [0, 0, 2, 6, 14, 0, 32, 96, 224, 0, 512, 1536, 3584, 0, 16382, 32766, 65535, 131071] [
    ⟨some 74, .move false (.t 0), none⟩, 
    ⟨some 75, .nilck (.t 74), none⟩, 
    ⟨some 76, .faddr 0 (.t 75), none⟩, 
    ⟨some 77, .load 2 false 1 (.t 76), none⟩, 
    ⟨some 78, .move false (.t 0), none⟩, 
    ⟨some 79, .nilck (.t 78), none⟩, 
    ⟨some 80, .faddr 1 (.t 79), none⟩, 
    ⟨some 81, .load 2 false 1 (.t 80), none⟩, 
    ⟨some 82, .move false (.t 0), none⟩, 
    ⟨some 83, .nilck (.t 82), none⟩, 
    ⟨some 84, .faddr 3 (.t 83), none⟩, 
    ⟨some 85, .load 2 false 1 (.t 84), none⟩, 
    ⟨some 86, .move false (.t 3), none⟩, 
    ⟨some 87, .build [(.int .i64 0), (.int .i64 0), (.int .i64 0), (.int .i64 0), (.int .u32 0), (.lst .nil [])] [(0, 1, (.c (.int .i64 3))), (1, 1, (.t 77)), (2, 1, (.t 81)), (3, 1, (.t 85)), (4, 1, (.t 86))], none⟩, 
    ⟨some 88, .buildS false 6 [(.t 87)], none⟩, 
    ⟨some 73, .move true (.t 10), none⟩, 
    ⟨some 89, .append 6 64 (.t 73) (.t 88), none⟩, 
    ⟨some 10, .move false (.t 89), none⟩]) (
  .region [
    ⟨some 90, .move false (.t 0), none⟩, 
    ⟨some 91, .nilck (.t 90), none⟩, 
    ⟨some 92, .faddr 7 (.t 91), none⟩, 
    ⟨none, .store 1 (.t 92) (.c (.bool false)), none⟩])) (.skip))) (
  .seq (.region [
    ⟨some 93, .move false (.t 1), none⟩, 
    ⟨some 94, .move false (.t 2), none⟩, 
    ⟨some 95, .move false (.t 3), none⟩, 
    ⟨some 96, .call true F.link_End_Out [(.t 93), (.t 94), (.t 95)], none⟩, 
    ⟨some 97, .move false (.t 10), none⟩, 
    ⟨some 98, .call true F.slices_EqualFunc_Msg [(.t 96), (.t 97), (.c (.func 48 []))], none⟩, 
    ⟨some 8, .move false (.t 98), none⟩]) (
  .ret))))))
def R.gantlaw5_half_out : List ARes := [.t 8]
set_option maxRecDepth 100000 in
theorem K.gantlaw5_half_out : ckFun Try.prog Try.f163 C.gantlaw5_half_out R.gantlaw5_half_out = true := by kernel_rfl
/-- gantry/gantlaw5.LinkEnds -/
def C.gantlaw5_LinkEnds : ACode :=
  .seq (.region [
    ⟨some 8, .move false (.c (.bool false)), none⟩]) (
  .seq (.seq (.region [
    ⟨some 17, .call true F.link_New [(.c (.int .i64 0)), (.c (.int .i64 4))], none⟩, 
    ⟨some 16, .move false (.t 17), none⟩, 
    ⟨some 18, .ext 0 (.t 16), none⟩, 
    ⟨some 19, .ext 1 (.t 16), none⟩, 
    ⟨some 9, .move false (.t 18), none⟩, 
    ⟨some 10, .move false (.t 19), none⟩]) (
  .seq (.region [
    ⟨some 20, .move false (.t 10), none⟩, 
    ⟨some 21, .bin .neq (.t 20) (.c (.int .i64 0)), none⟩, 
    ⟨some 22, .move false (.t 21), none⟩, 
    ⟨some 23, .move false (.t 9), (some (22, false))⟩, 
    ⟨some 24, .pnil false (.t 23), (some (22, false))⟩, 
    ⟨some 25, .pick (.t 22) (.c (.bool true)) (.t 24), none⟩]) (
  .cond (.t 25) (.seq (.region [
    ⟨some 8, .move false (.c (.bool false)), none⟩]) (
  .ret)) (.skip)))) (
  .seq (.region [
    ⟨some 27, .move false (.t 0), none⟩, 
    ⟨some 28, .move false (.t 1), none⟩, 
    ⟨some 29, .call true F.link_New [(.t 27), (.t 28)], none⟩, 
    ⟨some 26, .move false (.t 29), none⟩, 
    ⟨some 30, .ext 0 (.t 26), none⟩, 
    ⟨some 31, .ext 1 (.t 26), none⟩, 
    ⟨some 11, .move false (.t 30), none⟩, 
    ⟨some 12, .move false (.t 31), none⟩]) (
  .seq (.seq (.region [
    ⟨some 32, .move false (.t 0), none⟩, 
    ⟨some 33, .bin .lss (.t 32) (.c (.int .i64 0)), none⟩, 
    ⟨some 34, .move false (.t 33), none⟩, 
    ⟨some 35, .move false (.t 0), (some (34, false))⟩, 
    ⟨some 36, .bin .gtr (.t 35) (.c (.int .i64 4)), (some (34, false))⟩, 
    ⟨some 37, .pick (.t 34) (.c (.bool true)) (.t 36), none⟩, 
    ⟨some 38, .move false (.t 37), none⟩, 
    ⟨some 39, .move false (.t 1), (some (38, false))⟩, 
    ⟨some 40, .bin .lss (.t 39) (.c (.int .i64 0)), (some (38, false))⟩, 
    ⟨some 41, .pick (.t 38) (.c (.bool true)) (.t 40), none⟩, 
    ⟨some 42, .move false (.t 41), none⟩, 
    ⟨some 43, .move false (.t 1), (some (42, false))⟩, 
    ⟨some 44, .bin .gtr (.t 43) (.c (.int .i64 4)), (some (42, false))⟩, 
    ⟨some 45, .pick (.t 42) (.c (.bool true)) (.t 44), none⟩, 
    ⟨some 46, .move false (.t 45), none⟩, 
    ⟨some 47, .move false (.t 0), (some (46, false))⟩, 
    ⟨some 48, .move false (.t 1), (some (46, false))⟩, 
    ⟨some 49, .bin .eql (.t 47) (.t 48), (some (46, false))⟩, 
    ⟨some 50, .pick (.t 46) (.c (.bool true)) (.t 49), none⟩]) (
  .cond (.t 50) (.seq (.region [
    ⟨some 51, .move false (.t 12), none⟩, 
    ⟨some 52, .bin .eql (.t 51) (.c (.int .i64 16)), none⟩, 
    ⟨some 53, .move false (.t 52), none⟩, 
    ⟨some 54, .move false (.t 11), (some (53, true))⟩, 
    ⟨some 55, .pnil false (.t 54), (some (53, true))⟩, 
    ⟨some 56, .pick (.t 53) (.t 55) (.c (.bool false)), none⟩, 
    ⟨some 8, .move false (.t 56), none⟩]) (
  .ret)) (.skip))) (
  .seq (.seq (.region [
    ⟨some 57, .move false (.t 12), none⟩, 
    ⟨some 58, .bin .neq (.t 57) (.c (.int .i64 0)), none⟩, 
    ⟨some 59, .move false (.t 58), none⟩, 
    ⟨some 60, .move false (.t 11), (some (59, false))⟩, 
    ⟨some 61, .pnil false (.t 60), (some (59, false))⟩, 
    ⟨some 62, .pick (.t 59) (.c (.bool true)) (.t 61), none⟩]) (
  .cond (.t 62) (.seq (.region [
    ⟨some 8, .move false (.c (.bool false)), none⟩]) (
  .ret)) (.skip))) (
  .seq (.region [
    ⟨some 63, .move false (.t 0), none⟩, 
    ⟨some 64, .move false (.t 1), none⟩, 
    ⟨some 65, .build [(.int .i64 0), (.int .i64 0), (.int .i64 0), (.int .i64 0), (.lst .nil []), (.lst .nil []), (.lst .nil []), (.bool false)] [(0, 1, (.t 63)), (1, 1, (.t 64))], none⟩, 
    ⟨some 66, .bx true (.t 65), none⟩, 
    ⟨some 13, .move false (.t 66), none⟩]) (
  .seq (.seq (.prom 66 (.region [
    ⟨some 67, .move false (.t 2), none⟩, 
    ⟨some 68, .len (.t 67), none⟩, 
    ⟨some 69, .move false (.c (.int .i64 0)), none⟩])) (
  .block 0 (.loop (.seq (.region [
    ⟨some 70, .bin .lss (.t 69) (.t 68), none⟩]) (
  .seq (.cond (.t 70) (.skip) (.exit 0)) (
  .seq (.block 1 (.seq (.region [
    ⟨some 71, .iaddr 3 (.t 67) (.t 69), none⟩, 
    ⟨some 72, .load 2 true 3 (.t 71), none⟩, 
    ⟨some 15, .alloc false [(.int .i64 0), (.int .i64 0), (.int .i64 0)], none⟩, 
    ⟨none, .store 3 (.t 15) (.t 72), none⟩]) (
  .seq (.drawn [0, 1, 2, 3, 4, 5, 6, 7, 8, 9, 10, 11, 12, 14, 15, 16, 17, 18, 13, 19, 20] [0, 0, 0, 4, 0, 16, 0, 64, 0, 511, 1023, 2047, 4095, 8191, 4095, 20479, 53247, 118783, 249855, 524287, 1048575] [
    ⟨some 73, .move false (.t 13), none⟩, 
    ⟨some 74, .move false (.t 11), none⟩, 
    ⟨some 75, .aaddr 3 1 (.t 15) (.c (.int .i64 0)), none⟩, 
    ⟨some 76, .load 1 false 1 (.t 75), none⟩, 
    ⟨some 77, .aaddr 3 1 (.t 15) (.c (.int .i64 1)), none⟩, 
    ⟨some 78, .load 1 false 1 (.t 77), none⟩, 
    ⟨some 79, .aaddr 3 1 (.t 15) (.c (.int .i64 2)), none⟩, 
    ⟨some 80, .load 1 false 1 (.t 79), none⟩, 
    ⟨some 81, .move false (.t 3), none⟩, 
    ⟨some 82, .call false F.gantlaw5_half_deed [(.t 73), (.t 74), (.t 76), (.t 78), (.t 80), (.t 81)], none⟩, 
    ⟨some 83, .un .not (.t 82), none⟩, 
    ⟨some 84, .move false (.t 83), none⟩, 
    ⟨some 85, .move false (.t 11), (some (84, false))⟩, 
    ⟨some 87, .move false (.t 13), (some (84, false))⟩, 
    ⟨some 88, .nilck (.t 87), (some (84, false))⟩, 
    ⟨some 89, .faddr 4 (.t 88), (some (84, false))⟩, 
    ⟨some 90, .load 2 false 1 (.t 89), (some (84, false))⟩, 
    ⟨some 91, .len (.t 90), (some (84, false))⟩, 
    ⟨some 86, .hop (.callq F.link_End_Waits [(.t 85)]), (some (84, false))⟩, 
    ⟨some 92, .bin .neq (.t 86) (.t 91), (some (84, false))⟩, 
    ⟨some 93, .pick (.t 84) (.c (.bool true)) (.t 92), none⟩]) (
  .cond (.t 93) (.seq (.region [
    ⟨some 8, .move false (.c (.bool false)), none⟩]) (
  .ret)) (.skip))))) (
  .region [
    ⟨some 94, .bin .add (.t 69) (.c (.int .i64 1)), none⟩, 
    ⟨some 69, .move false (.t 94), none⟩]))))))) (
  .seq (.region [
    ⟨some 8, .move false (.c (.bool true)), none⟩]) (
  .ret))))))))
def R.gantlaw5_LinkEnds : List ARes := [.t 8]
set_option maxRecDepth 100000 in
theorem K.gantlaw5_LinkEnds : ckFun Try.prog Try.f16 C.gantlaw5_LinkEnds R.gantlaw5_LinkEnds = true := by kernel_rfl
end Go.Proofs.Ytpdajkbfemcdlaa
