/- Annotated code of functions, checked against the program. -/
import Derived.Test.YtpdajkbfemcdlaaGeD
import Derived.Test.YtpdajkbfemcdlaaChecked
import Derived.Test.YtpdajkbfemcdlaaFn
import Derived.KernelRfl
namespace Go.Proofs.Ytpdajkbfemcdlaa
open Go.Ge
/-- gantry/msg.Check -/
def C.msg_Check : ACode :=
  .seq (.region [
    ⟨some 1, .bx true (.t 0), none⟩, 
    ⟨some 2, .move false (.c (.int .i64 0)), none⟩]) (
  .seq (.block 0 (.seq (.region [
    ⟨some 4, .faddr 0 (.t 1), none⟩, 
    ⟨some 5, .load 2 false 1 (.t 4), none⟩, 
    ⟨some 6, .bin .lss (.t 5) (.c (.int .i64 0)), none⟩, 
    ⟨some 7, .move false (.t 6), none⟩, 
    ⟨some 8, .faddr 0 (.t 1), (some (7, false))⟩, 
    ⟨some 9, .load 2 false 1 (.t 8), (some (7, false))⟩, 
    ⟨some 10, .bin .gtr (.t 9) (.c (.int .i64 3)), (some (7, false))⟩, 
    ⟨some 11, .pick (.t 7) (.c (.bool true)) (.t 10), none⟩, 
    ⟨some 3, .move false (.t 11), none⟩]) (
  .cond (.t 3) (.seq (.region [
    ⟨some 2, .move false (.c (.int .i64 1)), none⟩]) (
  .ret)) (.seq (.region [
    ⟨some 13, .faddr 1 (.t 1), none⟩, 
    ⟨some 14, .load 2 false 1 (.t 13), none⟩, 
    ⟨some 15, .faddr 2 (.t 1), none⟩, 
    ⟨some 16, .load 2 false 1 (.t 15), none⟩, 
    ⟨some 17, .mn (.t 14) [(.t 16)], none⟩, 
    ⟨some 18, .bin .lss (.t 17) (.c (.int .i64 0)), none⟩, 
    ⟨some 19, .move false (.t 18), none⟩, 
    ⟨some 20, .faddr 1 (.t 1), (some (19, false))⟩, 
    ⟨some 21, .load 2 false 1 (.t 20), (some (19, false))⟩, 
    ⟨some 22, .faddr 2 (.t 1), (some (19, false))⟩, 
    ⟨some 23, .load 2 false 1 (.t 22), (some (19, false))⟩, 
    ⟨some 24, .mx (.t 21) [(.t 23)], (some (19, false))⟩, 
    ⟨some 25, .bin .gtr (.t 24) (.c (.int .i64 4)), (some (19, false))⟩, 
    ⟨some 26, .pick (.t 19) (.c (.bool true)) (.t 25), none⟩, 
    ⟨some 27, .move false (.t 26), none⟩, 
    ⟨some 28, .faddr 1 (.t 1), (some (27, false))⟩, 
    ⟨some 29, .load 2 false 1 (.t 28), (some (27, false))⟩, 
    ⟨some 30, .faddr 2 (.t 1), (some (27, false))⟩, 
    ⟨some 31, .load 2 false 1 (.t 30), (some (27, false))⟩, 
    ⟨some 32, .bin .eql (.t 29) (.t 31), (some (27, false))⟩, 
    ⟨some 33, .pick (.t 27) (.c (.bool true)) (.t 32), none⟩, 
    ⟨some 12, .move false (.t 33), none⟩]) (
  .cond (.t 12) (.seq (.region [
    ⟨some 2, .move false (.c (.int .i64 16)), none⟩]) (
  .ret)) (.seq (.region [
    ⟨some 35, .faddr 3 (.t 1), none⟩, 
    ⟨some 36, .load 2 false 1 (.t 35), none⟩, 
    ⟨some 37, .bin .lss (.t 36) (.c (.int .i64 0)), none⟩, 
    ⟨some 38, .move false (.t 37), none⟩, 
    ⟨some 39, .faddr 3 (.t 1), (some (38, false))⟩, 
    ⟨some 40, .load 2 false 1 (.t 39), (some (38, false))⟩, 
    ⟨some 41, .bin .gtr (.t 40) (.c (.int .i64 2147483647)), (some (38, false))⟩, 
    ⟨some 42, .pick (.t 38) (.c (.bool true)) (.t 41), none⟩, 
    ⟨some 34, .move false (.t 42), none⟩]) (
  .cond (.t 34) (.seq (.region [
    ⟨some 2, .move false (.c (.int .i64 2)), none⟩]) (
  .ret)) (.seq (.region [
    ⟨some 44, .faddr 0 (.t 1), none⟩, 
    ⟨some 45, .load 2 false 1 (.t 44), none⟩, 
    ⟨some 46, .bin .eql (.t 45) (.c (.int .i64 3)), none⟩, 
    ⟨some 47, .move false (.t 46), none⟩, 
    ⟨some 48, .faddr 5 (.t 1), (some (47, true))⟩, 
    ⟨some 49, .load 2 false 1 (.t 48), (some (47, true))⟩, 
    ⟨some 50, .len (.t 49), (some (47, true))⟩, 
    ⟨some 51, .bin .gtr (.t 50) (.c (.int .i64 0)), (some (47, true))⟩, 
    ⟨some 52, .pick (.t 47) (.t 51) (.c (.bool false)), none⟩, 
    ⟨some 43, .move false (.t 52), none⟩]) (
  .cond (.t 43) (.seq (.region [
    ⟨some 2, .move false (.c (.int .i64 3)), none⟩]) (
  .ret)) (.skip)))))))))) (
  .seq (.region [
    ⟨some 53, .faddr 5 (.t 1), none⟩, 
    ⟨some 54, .load 2 false 1 (.t 53), none⟩, 
    ⟨some 55, .call true F.grid_Check [(.t 54)], none⟩, 
    ⟨some 2, .move false (.t 55), none⟩]) (
  .ret)))
def R.msg_Check : List ARes := [.t 2]
set_option maxRecDepth 100000 in
theorem K.msg_Check : ckFun Try.prog Try.f74 C.msg_Check R.msg_Check = true := by kernel_rfl
/-- gantry/grid.Check -/
def C.grid_Check : ACode :=
  .seq (.region [
    ⟨some 2, .move false (.c (.int .i64 0)), none⟩]) (
  .seq (.seq (.region [
    ⟨some 5, .move false (.t 0), none⟩, 
    ⟨some 6, .len (.t 5), none⟩, 
    ⟨some 7, .bin .gtr (.t 6) (.c (.int .i64 400)), none⟩]) (
  .cond (.t 7) (.seq (.region [
    ⟨some 2, .move false (.c (.int .i64 2)), none⟩]) (
  .ret)) (.skip))) (
  .seq (.seq (.region [
    ⟨some 8, .move false (.t 0), none⟩, 
    ⟨some 9, .len (.t 8), none⟩, 
    ⟨some 10, .move false (.c (.int .i64 0)), none⟩]) (
  .block 0 (.loop (.seq (.region [
    ⟨some 11, .bin .lss (.t 10) (.t 9), none⟩]) (
  .seq (.cond (.t 11) (.skip) (.exit 0)) (
  .seq (.block 1 (.seq (.region [
    ⟨some 12, .move false (.t 10), none⟩, 
    ⟨some 13, .iaddr 2 (.t 8) (.t 10), none⟩, 
    ⟨some 14, .load 2 true 2 (.t 13), none⟩, 
    ⟨some 4, .alloc false [(.int .i64 0), (.int .i64 0)], none⟩, 
    ⟨some 3, .move false (.t 12), none⟩, 
    ⟨none, .store 2 (.t 4) (.t 14), none⟩]) (
  .seq (.seq (.region [
    ⟨some 15, .faddr 0 (.t 4), none⟩, 
    ⟨some 16, .load 2 false 1 (.t 15), none⟩, 
    ⟨some 17, .call true F.grid_on [(.t 16)], none⟩, 
    ⟨some 18, .un .not (.t 17), none⟩, 
    ⟨some 19, .move false (.t 18), none⟩, 
    ⟨some 20, .faddr 1 (.t 4), (some (19, false))⟩, 
    ⟨some 21, .load 2 false 1 (.t 20), (some (19, false))⟩, 
    ⟨some 22, .call true F.grid_on [(.t 21)], (some (19, false))⟩, 
    ⟨some 23, .un .not (.t 22), (some (19, false))⟩, 
    ⟨some 24, .pick (.t 19) (.c (.bool true)) (.t 23), none⟩]) (
  .cond (.t 24) (.seq (.region [
    ⟨some 2, .move false (.c (.int .i64 17)), none⟩]) (
  .ret)) (.skip))) (
  .seq (.drawn [0, 1, 2, 3, 4, 5, 6, 7, 8, 9, 10, 11] [0, 1, 3, 7, 7, 23, 63, 127, 7, 511, 1023, 2047] [
    ⟨some 25, .move false (.t 3), none⟩, 
    ⟨some 26, .bin .gtr (.t 25) (.c (.int .i64 0)), none⟩, 
    ⟨some 27, .move false (.t 26), none⟩, 
    ⟨some 28, .move false (.t 0), (some (27, true))⟩, 
    ⟨some 29, .move false (.t 3), (some (27, true))⟩, 
    ⟨some 30, .bin .sub (.t 29) (.c (.int .i64 1)), (some (27, true))⟩, 
    ⟨some 31, .iaddr 2 (.t 28) (.t 30), (some (27, true))⟩, 
    ⟨some 32, .load 0 true 2 (.t 31), (some (27, true))⟩, 
    ⟨some 33, .load 1 true 2 (.t 4), (some (27, true))⟩, 
    ⟨some 34, .call false F.grid_order [(.t 32), (.t 33)], (some (27, true))⟩, 
    ⟨some 35, .bin .geq (.t 34) (.c (.int .i64 0)), (some (27, true))⟩, 
    ⟨some 36, .pick (.t 27) (.t 35) (.c (.bool false)), none⟩]) (
  .cond (.t 36) (.seq (.region [
    ⟨some 2, .move false (.c (.int .i64 9)), none⟩]) (
  .ret)) (.skip)))))) (
  .region [
    ⟨some 37, .bin .add (.t 10) (.c (.int .i64 1)), none⟩, 
    ⟨some 10, .move false (.t 37), none⟩]))))))) (
  .seq (.region [
    ⟨some 2, .move false (.c (.int .i64 0)), none⟩]) (
  .ret))))
def R.grid_Check : List ARes := [.t 2]
set_option maxRecDepth 100000 in
theorem K.grid_Check : ckFun Try.prog Try.f158 C.grid_Check R.grid_Check = true := by kernel_rfl
/-- gantry/grid.on -/
def C.grid_on : ACode :=
  .seq (.region [
    ⟨some 2, .move false (.c (.bool false)), none⟩]) (
  .seq (.region [
    ⟨some 3, .move false (.t 0), none⟩, 
    ⟨some 4, .bin .geq (.t 3) (.c (.int .i64 (-64))), none⟩, 
    ⟨some 5, .move false (.t 4), none⟩, 
    ⟨some 6, .move false (.t 0), (some (5, true))⟩, 
    ⟨some 7, .bin .lss (.t 6) (.c (.int .i64 64)), (some (5, true))⟩, 
    ⟨some 8, .pick (.t 5) (.t 7) (.c (.bool false)), none⟩, 
    ⟨some 2, .move false (.t 8), none⟩]) (
  .ret))
def R.grid_on : List ARes := [.t 2]
set_option maxRecDepth 100000 in
theorem K.grid_on : ckFun Try.prog Try.f197 C.grid_on R.grid_on = true := by kernel_rfl
/-- gantry/grid.order -/
def C.grid_order : ACode :=
  .seq (.region [
    ⟨some 2, .bx false (.t 0), none⟩, 
    ⟨some 3, .bx false (.t 1), none⟩, 
    ⟨some 4, .move false (.c (.int .i64 0)), none⟩]) (
  .seq (.seq (.region [
    ⟨some 6, .faddr 1 (.t 2), none⟩, 
    ⟨some 7, .load 2 false 1 (.t 6), none⟩, 
    ⟨some 8, .faddr 1 (.t 3), none⟩, 
    ⟨some 9, .load 2 false 1 (.t 8), none⟩, 
    ⟨some 10, .call true F.cmp_Compare_int [(.t 7), (.t 9)], none⟩, 
    ⟨some 5, .move false (.t 10), none⟩]) (
  .seq (.region [
    ⟨some 11, .move false (.t 5), none⟩, 
    ⟨some 12, .bin .neq (.t 11) (.c (.int .i64 0)), none⟩]) (
  .cond (.t 12) (.seq (.region [
    ⟨some 13, .move false (.t 5), none⟩, 
    ⟨some 4, .move false (.t 13), none⟩]) (
  .ret)) (.skip)))) (
  .seq (.region [
    ⟨some 14, .faddr 0 (.t 2), none⟩, 
    ⟨some 15, .load 2 false 1 (.t 14), none⟩, 
    ⟨some 16, .faddr 0 (.t 3), none⟩, 
    ⟨some 17, .load 2 false 1 (.t 16), none⟩, 
    ⟨some 18, .call true F.cmp_Compare_int [(.t 15), (.t 17)], none⟩, 
    ⟨some 4, .move false (.t 18), none⟩]) (
  .ret)))
def R.grid_order : List ARes := [.t 4]
set_option maxRecDepth 100000 in
theorem K.grid_order : ckFun Try.prog Try.f198 C.grid_order R.grid_order = true := by kernel_rfl
/-- cmp.Compare[int] -/
def C.cmp_Compare_int : ACode :=
  .seq (.region [
    ⟨some 4, .move false (.c (.int .i64 0)), none⟩]) (
  .seq (.region [
    ⟨some 7, .move false (.t 0), none⟩, 
    ⟨some 8, .call true F.cmp_isNaN_int [(.t 7)], none⟩, 
    ⟨some 5, .move false (.t 8), none⟩]) (
  .seq (.region [
    ⟨some 9, .move false (.t 1), none⟩, 
    ⟨some 10, .call true F.cmp_isNaN_int [(.t 9)], none⟩, 
    ⟨some 6, .move false (.t 10), none⟩]) (
  .seq (.seq (.region [
    ⟨some 11, .move false (.t 5), none⟩]) (
  .cond (.t 11) (.seq (.seq (.region [
    ⟨some 12, .move false (.t 6), none⟩]) (
  .cond (.t 12) (.seq (.region [
    ⟨some 4, .move false (.c (.int .i64 0)), none⟩]) (
  .ret)) (.skip))) (
  .seq (.region [
    ⟨some 4, .move false (.c (.int .i64 (-1))), none⟩]) (
  .ret))) (.skip))) (
  .seq (.seq (.region [
    ⟨some 13, .move false (.t 6), none⟩]) (
  .cond (.t 13) (.seq (.region [
    ⟨some 4, .move false (.c (.int .i64 1)), none⟩]) (
  .ret)) (.skip))) (
  .seq (.seq (.region [
    ⟨some 14, .move false (.t 0), none⟩, 
    ⟨some 15, .move false (.t 1), none⟩, 
    ⟨some 16, .bin .lss (.t 14) (.t 15), none⟩]) (
  .cond (.t 16) (.seq (.region [
    ⟨some 4, .move false (.c (.int .i64 (-1))), none⟩]) (
  .ret)) (.skip))) (
  .seq (.seq (.region [
    ⟨some 17, .move false (.t 0), none⟩, 
    ⟨some 18, .move false (.t 1), none⟩, 
    ⟨some 19, .bin .gtr (.t 17) (.t 18), none⟩]) (
  .cond (.t 19) (.seq (.region [
    ⟨some 4, .move false (.c (.int .i64 1)), none⟩]) (
  .ret)) (.skip))) (
  .seq (.region [
    ⟨some 4, .move false (.c (.int .i64 0)), none⟩]) (
  .ret))))))))
def R.cmp_Compare_int : List ARes := [.t 4]
set_option maxRecDepth 100000 in
theorem K.cmp_Compare_int : ckFun Try.prog Try.f215 C.cmp_Compare_int R.cmp_Compare_int = true := by kernel_rfl
/-- cmp.isNaN[int] -/
def C.cmp_isNaN_int : ACode :=
  .seq (.region [
    ⟨some 2, .move false (.c (.bool false)), none⟩]) (
  .seq (.region [
    ⟨some 3, .move false (.t 0), none⟩, 
    ⟨some 4, .move false (.t 0), none⟩, 
    ⟨some 5, .bin .neq (.t 3) (.t 4), none⟩, 
    ⟨some 2, .move false (.t 5), none⟩]) (
  .ret))
def R.cmp_isNaN_int : List ARes := [.t 2]
set_option maxRecDepth 100000 in
theorem K.cmp_isNaN_int : ckFun Try.prog Try.f230 C.cmp_isNaN_int R.cmp_isNaN_int = true := by kernel_rfl
/-- gantry/gantref5.MsgFault -/
def C.gantref5_MsgFault : ACode :=
  .seq (.region [
    ⟨some 1, .bx true (.t 0), none⟩, 
    ⟨some 2, .move false (.c (.int .i64 0)), none⟩]) (
  .seq (.seq (.region [
    ⟨some 3, .faddr 0 (.t 1), none⟩, 
    ⟨some 4, .load 2 false 1 (.t 3), none⟩, 
    ⟨some 5, .bin .lss (.t 4) (.c (.int .i64 0)), none⟩, 
    ⟨some 6, .move false (.t 5), none⟩, 
    ⟨some 7, .faddr 0 (.t 1), (some (6, false))⟩, 
    ⟨some 8, .load 2 false 1 (.t 7), (some (6, false))⟩, 
    ⟨some 9, .bin .gtr (.t 8) (.c (.int .i64 3)), (some (6, false))⟩, 
    ⟨some 10, .pick (.t 6) (.c (.bool true)) (.t 9), none⟩]) (
  .cond (.t 10) (.seq (.region [
    ⟨some 2, .move false (.c (.int .i64 1)), none⟩]) (
  .ret)) (.skip))) (
  .seq (.seq (.region [
    ⟨some 11, .faddr 1 (.t 1), none⟩, 
    ⟨some 12, .load 2 false 1 (.t 11), none⟩, 
    ⟨some 13, .bin .lss (.t 12) (.c (.int .i64 0)), none⟩, 
    ⟨some 14, .move false (.t 13), none⟩, 
    ⟨some 15, .faddr 1 (.t 1), (some (14, false))⟩, 
    ⟨some 16, .load 2 false 1 (.t 15), (some (14, false))⟩, 
    ⟨some 17, .bin .gtr (.t 16) (.c (.int .i64 4)), (some (14, false))⟩, 
    ⟨some 18, .pick (.t 14) (.c (.bool true)) (.t 17), none⟩, 
    ⟨some 19, .move false (.t 18), none⟩, 
    ⟨some 20, .faddr 2 (.t 1), (some (19, false))⟩, 
    ⟨some 21, .load 2 false 1 (.t 20), (some (19, false))⟩, 
    ⟨some 22, .bin .lss (.t 21) (.c (.int .i64 0)), (some (19, false))⟩, 
    ⟨some 23, .pick (.t 19) (.c (.bool true)) (.t 22), none⟩, 
    ⟨some 24, .move false (.t 23), none⟩, 
    ⟨some 25, .faddr 2 (.t 1), (some (24, false))⟩, 
    ⟨some 26, .load 2 false 1 (.t 25), (some (24, false))⟩, 
    ⟨some 27, .bin .gtr (.t 26) (.c (.int .i64 4)), (some (24, false))⟩, 
    ⟨some 28, .pick (.t 24) (.c (.bool true)) (.t 27), none⟩, 
    ⟨some 29, .move false (.t 28), none⟩, 
    ⟨some 30, .faddr 1 (.t 1), (some (29, false))⟩, 
    ⟨some 31, .load 2 false 1 (.t 30), (some (29, false))⟩, 
    ⟨some 32, .faddr 2 (.t 1), (some (29, false))⟩, 
    ⟨some 33, .load 2 false 1 (.t 32), (some (29, false))⟩, 
    ⟨some 34, .bin .eql (.t 31) (.t 33), (some (29, false))⟩, 
    ⟨some 35, .pick (.t 29) (.c (.bool true)) (.t 34), none⟩]) (
  .cond (.t 35) (.seq (.region [
    ⟨some 2, .move false (.c (.int .i64 16)), none⟩]) (
  .ret)) (.skip))) (
  .seq (.seq (.region [
    ⟨some 36, .faddr 3 (.t 1), none⟩, 
    ⟨some 37, .load 2 false 1 (.t 36), none⟩, 
    ⟨some 38, .bin .lss (.t 37) (.c (.int .i64 0)), none⟩, 
    ⟨some 39, .move false (.t 38), none⟩, 
    ⟨some 40, .faddr 3 (.t 1), (some (39, false))⟩, 
    ⟨some 41, .load 2 false 1 (.t 40), (some (39, false))⟩, 
    ⟨some 42, .bin .geq (.t 41) (.c (.int .i64 2147483648)), (some (39, false))⟩, 
    ⟨some 43, .pick (.t 39) (.c (.bool true)) (.t 42), none⟩]) (
  .cond (.t 43) (.seq (.region [
    ⟨some 2, .move false (.c (.int .i64 2)), none⟩]) (
  .ret)) (.skip))) (
  .seq (.seq (.region [
    ⟨some 44, .faddr 0 (.t 1), none⟩, 
    ⟨some 45, .load 2 false 1 (.t 44), none⟩, 
    ⟨some 46, .bin .eql (.t 45) (.c (.int .i64 3)), none⟩, 
    ⟨some 47, .move false (.t 46), none⟩, 
    ⟨some 48, .faddr 5 (.t 1), (some (47, true))⟩, 
    ⟨some 49, .load 2 false 1 (.t 48), (some (47, true))⟩, 
    ⟨some 50, .len (.t 49), (some (47, true))⟩, 
    ⟨some 51, .bin .neq (.t 50) (.c (.int .i64 0)), (some (47, true))⟩, 
    ⟨some 52, .pick (.t 47) (.t 51) (.c (.bool false)), none⟩]) (
  .cond (.t 52) (.seq (.region [
    ⟨some 2, .move false (.c (.int .i64 3)), none⟩]) (
  .ret)) (.skip))) (
  .seq (.region [
    ⟨some 2, .move false (.c (.int .i64 0)), none⟩]) (
  .ret))))))
def R.gantref5_MsgFault : List ARes := [.t 2]
set_option maxRecDepth 100000 in
theorem K.gantref5_MsgFault : ckFun Try.prog Try.f58 C.gantref5_MsgFault R.gantref5_MsgFault = true := by kernel_rfl
/-- gantry/gantref5.CellsFault -/
def C.gantref5_CellsFault : ACode :=
  .seq (.region [
    ⟨some 2, .move false (.c (.int .i64 0)), none⟩]) (
  .seq (.seq (.region [
    ⟨some 5, .move false (.t 0), none⟩, 
    ⟨some 6, .len (.t 5), none⟩, 
    ⟨some 7, .bin .gtr (.t 6) (.c (.int .i64 400)), none⟩]) (
  .cond (.t 7) (.seq (.region [
    ⟨some 2, .move false (.c (.int .i64 2)), none⟩]) (
  .ret)) (.skip))) (
  .seq (.seq (.region [
    ⟨some 8, .move false (.t 0), none⟩, 
    ⟨some 9, .len (.t 8), none⟩, 
    ⟨some 10, .move false (.c (.int .i64 0)), none⟩]) (
  .block 0 (.loop (.seq (.region [
    ⟨some 11, .bin .lss (.t 10) (.t 9), none⟩]) (
  .seq (.cond (.t 11) (.skip) (.exit 0)) (
  .seq (.block 1 (.seq (.region [
    ⟨some 12, .move false (.t 10), none⟩, 
    ⟨some 13, .iaddr 2 (.t 8) (.t 10), none⟩, 
    ⟨some 14, .load 2 true 2 (.t 13), none⟩, 
    ⟨some 4, .alloc false [(.int .i64 0), (.int .i64 0)], none⟩, 
    ⟨some 3, .move false (.t 12), none⟩, 
    ⟨none, .store 2 (.t 4) (.t 14), none⟩]) (
  .seq (.seq (.region [
    ⟨some 15, .faddr 0 (.t 4), none⟩, 
    ⟨some 16, .load 2 false 1 (.t 15), none⟩, 
    ⟨some 17, .bin .lss (.t 16) (.c (.int .i64 (-64))), none⟩, 
    ⟨some 18, .move false (.t 17), none⟩, 
    ⟨some 19, .faddr 0 (.t 4), (some (18, false))⟩, 
    ⟨some 20, .load 2 false 1 (.t 19), (some (18, false))⟩, 
    ⟨some 21, .bin .gtr (.t 20) (.c (.int .i64 63)), (some (18, false))⟩, 
    ⟨some 22, .pick (.t 18) (.c (.bool true)) (.t 21), none⟩, 
    ⟨some 23, .move false (.t 22), none⟩, 
    ⟨some 24, .faddr 1 (.t 4), (some (23, false))⟩, 
    ⟨some 25, .load 2 false 1 (.t 24), (some (23, false))⟩, 
    ⟨some 26, .bin .lss (.t 25) (.c (.int .i64 (-64))), (some (23, false))⟩, 
    ⟨some 27, .pick (.t 23) (.c (.bool true)) (.t 26), none⟩, 
    ⟨some 28, .move false (.t 27), none⟩, 
    ⟨some 29, .faddr 1 (.t 4), (some (28, false))⟩, 
    ⟨some 30, .load 2 false 1 (.t 29), (some (28, false))⟩, 
    ⟨some 31, .bin .gtr (.t 30) (.c (.int .i64 63)), (some (28, false))⟩, 
    ⟨some 32, .pick (.t 28) (.c (.bool true)) (.t 31), none⟩]) (
  .cond (.t 32) (.seq (.region [
    ⟨some 2, .move false (.c (.int .i64 17)), none⟩]) (
  .ret)) (.skip))) (
  .seq (.drawn [0, 1, 2, 3, 4, 5, 6, 7, 8, 9, 10, 11, 12, 13, 14, 15, 16, 17, 18, 19, 20, 21, 22, 23, 24, 25, 26, 27, 28, 29, 30, 31, 32, 33, 34] [0, 1, 3, 7, 7, 23, 63, 127, 255, 7, 519, 2047, 4095, 8191, 8191, 24575, 65535, 131071, 262143, 8191, 532479, 2097151, 4194303, 8388607, 8388607, 25165823, 67108863, 134217727, 268435455, 8388607, 545259519, 2147483647, 4294967295, 8589934591, 17179869183] [
    ⟨some 33, .move false (.t 3), none⟩, 
    ⟨some 34, .bin .gtr (.t 33) (.c (.int .i64 0)), none⟩, 
    ⟨some 35, .move false (.t 34), none⟩, 
    ⟨some 36, .move false (.t 0), (some (35, true))⟩, 
    ⟨some 37, .move false (.t 3), (some (35, true))⟩, 
    ⟨some 38, .bin .sub (.t 37) (.c (.int .i64 1)), (some (35, true))⟩, 
    ⟨some 39, .iaddr 2 (.t 36) (.t 38), (some (35, true))⟩, 
    ⟨some 40, .faddr 1 (.t 39), (some (35, true))⟩, 
    ⟨some 41, .load 0 false 1 (.t 40), (some (35, true))⟩, 
    ⟨some 42, .faddr 1 (.t 4), (some (35, true))⟩, 
    ⟨some 43, .load 1 false 1 (.t 42), (some (35, true))⟩, 
    ⟨some 44, .bin .gtr (.t 41) (.t 43), (some (35, true))⟩, 
    ⟨some 45, .move false (.t 44), (some (35, true))⟩, 
    ⟨some 46, .move false (.t 0), (some (45, false))⟩, 
    ⟨some 47, .move false (.t 3), (some (45, false))⟩, 
    ⟨some 48, .bin .sub (.t 47) (.c (.int .i64 1)), (some (45, false))⟩, 
    ⟨some 49, .iaddr 2 (.t 46) (.t 48), (some (45, false))⟩, 
    ⟨some 50, .faddr 1 (.t 49), (some (45, false))⟩, 
    ⟨some 51, .load 0 false 1 (.t 50), (some (45, false))⟩, 
    ⟨some 52, .faddr 1 (.t 4), (some (45, false))⟩, 
    ⟨some 53, .load 1 false 1 (.t 52), (some (45, false))⟩, 
    ⟨some 54, .bin .eql (.t 51) (.t 53), (some (45, false))⟩, 
    ⟨some 55, .move false (.t 54), (some (45, false))⟩, 
    ⟨some 56, .move false (.t 0), (some (55, true))⟩, 
    ⟨some 57, .move false (.t 3), (some (55, true))⟩, 
    ⟨some 58, .bin .sub (.t 57) (.c (.int .i64 1)), (some (55, true))⟩, 
    ⟨some 59, .iaddr 2 (.t 56) (.t 58), (some (55, true))⟩, 
    ⟨some 60, .faddr 0 (.t 59), (some (55, true))⟩, 
    ⟨some 61, .load 0 false 1 (.t 60), (some (55, true))⟩, 
    ⟨some 62, .faddr 0 (.t 4), (some (55, true))⟩, 
    ⟨some 63, .load 1 false 1 (.t 62), (some (55, true))⟩, 
    ⟨some 64, .bin .geq (.t 61) (.t 63), (some (55, true))⟩, 
    ⟨some 65, .pick (.t 55) (.t 64) (.c (.bool false)), (some (45, false))⟩, 
    ⟨some 66, .pick (.t 45) (.c (.bool true)) (.t 65), (some (35, true))⟩, 
    ⟨some 67, .pick (.t 35) (.t 66) (.c (.bool false)), none⟩]) (
  .cond (.t 67) (.seq (.region [
    ⟨some 2, .move false (.c (.int .i64 9)), none⟩]) (
  .ret)) (.skip)))))) (
  .region [
    ⟨some 68, .bin .add (.t 10) (.c (.int .i64 1)), none⟩, 
    ⟨some 10, .move false (.t 68), none⟩]))))))) (
  .seq (.region [
    ⟨some 2, .move false (.c (.int .i64 0)), none⟩]) (
  .ret))))
def R.gantref5_CellsFault : List ARes := [.t 2]
set_option maxRecDepth 100000 in
theorem K.gantref5_CellsFault : ckFun Try.prog Try.f59 C.gantref5_CellsFault R.gantref5_CellsFault = true := by kernel_rfl
end Go.Proofs.Ytpdajkbfemcdlaa
