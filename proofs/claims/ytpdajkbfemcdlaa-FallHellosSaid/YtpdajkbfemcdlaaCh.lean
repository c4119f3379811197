/- Annotated code of functions, checked against the program. -/
import Derived.Test.YtpdajkbfemcdlaaGeFun
import Derived.Test.YtpdajkbfemcdlaaChecked
import Derived.Test.YtpdajkbfemcdlaaFn
import Derived.KernelRfl
namespace Go.Proofs.Ytpdajkbfemcdlaa
open Go.Ge
/-- gantry/fall.Hello -/
def C.fall_Hello : ACode :=
  .seq (.region [
    ⟨some 4, .bx true (.t 0), none⟩, 
    ⟨some 8, .move false (.c (.lst .nil [])), none⟩, 
    ⟨some 9, .move false (.c (.int .i64 0)), none⟩]) (
  .seq (.region [
    ⟨some 14, .move false (.t 1), none⟩, 
    ⟨some 15, .move false (.t 2), none⟩, 
    ⟨some 16, .move false (.t 3), none⟩, 
    ⟨some 17, .build [(.int .i64 0), (.int .i64 0), (.int .i64 0), (.int .i64 0), (.int .u32 0), (.lst .nil [])] [(0, 1, (.c (.int .i64 3))), (1, 1, (.t 14)), (2, 1, (.c (.int .i64 4))), (3, 1, (.t 15)), (4, 1, (.t 16))], none⟩, 
    ⟨some 18, .buildS false 6 [(.t 17)], none⟩, 
    ⟨some 10, .move true (.t 18), none⟩]) (
  .seq (.seq (.region [
    ⟨some 19, .faddr 2 (.t 4), none⟩, 
    ⟨some 20, .load 2 false 1 (.t 19), none⟩, 
    ⟨some 21, .len (.t 20), none⟩, 
    ⟨some 22, .bin .gtr (.t 21) (.c (.int .i64 0)), none⟩]) (
  .cond (.t 22) (.region [
    ⟨some 23, .move true (.t 10), none⟩, 
    ⟨some 24, .move false (.t 1), none⟩, 
    ⟨some 25, .move false (.t 2), none⟩, 
    ⟨some 26, .move false (.t 3), none⟩, 
    ⟨some 27, .faddr 2 (.t 4), none⟩, 
    ⟨some 28, .load 2 false 1 (.t 27), none⟩, 
    ⟨some 29, .call true F.slices_Clone_Cell [(.t 28)], none⟩, 
    ⟨some 30, .build [(.int .i64 0), (.int .i64 0), (.int .i64 0), (.int .i64 0), (.int .u32 0), (.lst .nil [])] [(0, 1, (.c (.int .i64 0))), (1, 1, (.t 24)), (2, 1, (.c (.int .i64 4))), (3, 1, (.t 25)), (4, 1, (.t 26)), (5, 1, (.t 29))], none⟩, 
    ⟨some 31, .buildS false 6 [(.t 30)], none⟩, 
    ⟨some 32, .append 6 64 (.t 23) (.t 31), none⟩, 
    ⟨some 10, .move true (.t 32), none⟩]) (.skip))) (
  .seq (.seq (.region [
    ⟨some 33, .move false (.t 10), none⟩, 
    ⟨some 34, .len (.t 33), none⟩, 
    ⟨some 35, .move false (.c (.int .i64 0)), none⟩]) (
  .block 0 (.loop (.seq (.region [
    ⟨some 36, .bin .lss (.t 35) (.t 34), none⟩]) (
  .seq (.cond (.t 36) (.skip) (.exit 0)) (
  .seq (.block 1 (.seq (.region [
    ⟨some 37, .iaddr 6 (.t 33) (.t 35), none⟩, 
    ⟨some 38, .load 2 true 6 (.t 37), none⟩, 
    ⟨some 12, .alloc false [(.int .i64 0), (.int .i64 0), (.int .i64 0), (.int .i64 0), (.int .u32 0), (.lst .nil [])], none⟩, 
    ⟨none, .store 6 (.t 12) (.t 38), none⟩]) (
  .seq (.region [
    ⟨some 39, .load 2 true 6 (.t 12), none⟩, 
    ⟨some 40, .call true F.msg_Check [(.t 39)], none⟩, 
    ⟨some 13, .move false (.t 40), none⟩]) (
  .seq (.region [
    ⟨some 41, .move false (.t 13), none⟩, 
    ⟨some 42, .bin .neq (.t 41) (.c (.int .i64 0)), none⟩]) (
  .cond (.t 42) (.seq (.region [
    ⟨some 43, .move false (.t 13), none⟩, 
    ⟨some 8, .move false (.c (.lst .nil [])), none⟩, 
    ⟨some 9, .move false (.t 43), none⟩]) (
  .ret)) (.skip)))))) (
  .region [
    ⟨some 44, .bin .add (.t 35) (.c (.int .i64 1)), none⟩, 
    ⟨some 35, .move false (.t 44), none⟩]))))))) (
  .seq (.region [
    ⟨some 45, .move true (.t 10), none⟩, 
    ⟨some 8, .move true (.t 45), none⟩, 
    ⟨some 9, .move false (.c (.int .i64 0)), none⟩]) (
  .ret)))))
def R.fall_Hello : List ARes := [.t 8, .t 9]
set_option maxRecDepth 100000 in
theorem K.fall_Hello : ckFun Try.prog Try.f57 C.fall_Hello R.fall_Hello = true := by kernel_rfl
/-- slices.EqualFunc[[]gantry/api.Msg,[]gantry/api.Msg,gantry/api.Msg,gantry/api.Msg] -/
def C.slices_EqualFunc_Msg : ACode :=
  .seq (.region [
    ⟨some 6, .move false (.c (.bool false)), none⟩]) (
  .seq (.seq (.region [
    ⟨some 10, .move false (.t 0), none⟩, 
    ⟨some 11, .len (.t 10), none⟩, 
    ⟨some 12, .move false (.t 1), none⟩, 
    ⟨some 13, .len (.t 12), none⟩, 
    ⟨some 14, .bin .neq (.t 11) (.t 13), none⟩]) (
  .cond (.t 14) (.seq (.region [
    ⟨some 6, .move false (.c (.bool false)), none⟩]) (
  .ret)) (.skip))) (
  .seq (.seq (.region [
    ⟨some 15, .move false (.t 0), none⟩, 
    ⟨some 16, .len (.t 15), none⟩, 
    ⟨some 17, .move false (.c (.int .i64 0)), none⟩]) (
  .block 0 (.loop (.seq (.region [
    ⟨some 18, .bin .lss (.t 17) (.t 16), none⟩]) (
  .seq (.cond (.t 18) (.skip) (.exit 0)) (
  .seq (.block 1 (.seq (.region [
    ⟨some 19, .move false (.t 17), none⟩, 
    ⟨some 20, .iaddr 6 (.t 15) (.t 17), none⟩, 
    ⟨some 21, .load 2 true 6 (.t 20), none⟩, 
    ⟨some 8, .alloc false [(.int .i64 0), (.int .i64 0), (.int .i64 0), (.int .i64 0), (.int .u32 0), (.lst .nil [])], none⟩, 
    ⟨some 7, .move false (.t 19), none⟩, 
    ⟨none, .store 6 (.t 8) (.t 21), none⟩]) (
  .seq (.region [
    ⟨some 22, .move false (.t 1), none⟩, 
    ⟨some 23, .move false (.t 7), none⟩, 
    ⟨some 24, .iaddr 6 (.t 22) (.t 23), none⟩, 
    ⟨some 25, .load 2 true 6 (.t 24), none⟩, 
    ⟨some 9, .alloc false [(.int .i64 0), (.int .i64 0), (.int .i64 0), (.int .i64 0), (.int .u32 0), (.lst .nil [])], none⟩, 
    ⟨none, .store 6 (.t 9) (.t 25), none⟩]) (
  .seq (.region [
    ⟨some 26, .move false (.t 2), none⟩, 
    ⟨some 27, .load 2 true 6 (.t 8), none⟩, 
    ⟨some 28, .load 2 true 6 (.t 9), none⟩, 
    ⟨some 29, .callv true (.t 26) [(.t 27), (.t 28)], none⟩, 
    ⟨some 30, .un .not (.t 29), none⟩]) (
  .cond (.t 30) (.seq (.region [
    ⟨some 6, .move false (.c (.bool false)), none⟩]) (
  .ret)) (.skip)))))) (
  .region [
    ⟨some 31, .bin .add (.t 17) (.c (.int .i64 1)), none⟩, 
    ⟨some 17, .move false (.t 31), none⟩]))))))) (
  .seq (.region [
    ⟨some 6, .move false (.c (.bool true)), none⟩]) (
  .ret))))
def R.slices_EqualFunc_Msg : List ARes := [.t 6]
set_option maxRecDepth 100000 in
theorem K.slices_EqualFunc_Msg : ckFun Try.prog Try.f60 C.slices_EqualFunc_Msg R.slices_EqualFunc_Msg = true := by kernel_rfl
/-- gantry/gantlaw5.FallHellos -/
def C.gantlaw5_FallHellos : ACode :=
  .seq (.region [
    ⟨some 4, .bx true (.t 0), none⟩, 
    ⟨some 8, .move false (.c (.bool false)), none⟩]) (
  .seq (.seq (.region [
    ⟨some 18, .build [(.int .i64 0), (.int .i64 0), (.lst .nil []), (.lst .nil []), (.int .i64 0)] [], none⟩, 
    ⟨some 19, .call true F.fall_Hello [(.t 18), (.c (.int .i64 1)), (.c (.int .i64 0)), (.c (.int .u32 0))], none⟩, 
    ⟨some 17, .move false (.t 19), none⟩, 
    ⟨some 20, .ext 0 (.t 17), none⟩, 
    ⟨some 21, .ext 1 (.t 17), none⟩, 
    ⟨some 9, .move false (.t 20), none⟩, 
    ⟨some 10, .move false (.t 21), none⟩]) (
  .seq (.region [
    ⟨some 22, .move false (.t 10), none⟩, 
    ⟨some 23, .bin .neq (.t 22) (.c (.int .i64 0)), none⟩, 
    ⟨some 24, .move false (.t 23), none⟩, 
    ⟨some 25, .move false (.t 9), (some (24, false))⟩, 
    ⟨some 26, .len (.t 25), (some (24, false))⟩, 
    ⟨some 27, .bin .neq (.t 26) (.c (.int .i64 1)), (some (24, false))⟩, 
    ⟨some 28, .pick (.t 24) (.c (.bool true)) (.t 27), none⟩]) (
  .cond (.t 28) (.seq (.region [
    ⟨some 8, .move false (.c (.bool false)), none⟩]) (
  .ret)) (.skip)))) (
  .seq (.region [
    ⟨some 30, .load 2 true 5 (.t 4), none⟩, 
    ⟨some 31, .move false (.t 1), none⟩, 
    ⟨some 32, .move false (.t 2), none⟩, 
    ⟨some 33, .move false (.t 3), none⟩, 
    ⟨some 34, .call true F.fall_Hello [(.t 30), (.t 31), (.t 32), (.t 33)], none⟩, 
    ⟨some 29, .move false (.t 34), none⟩, 
    ⟨some 35, .ext 0 (.t 29), none⟩, 
    ⟨some 36, .ext 1 (.t 29), none⟩, 
    ⟨some 11, .move false (.t 35), none⟩, 
    ⟨some 12, .move false (.t 36), none⟩]) (
  .seq (.region [
    ⟨some 37, .move false (.t 1), none⟩, 
    ⟨some 38, .move false (.t 2), none⟩, 
    ⟨some 39, .move false (.t 3), none⟩, 
    ⟨some 40, .build [(.int .i64 0), (.int .i64 0), (.int .i64 0), (.int .i64 0), (.int .u32 0), (.lst .nil [])] [(0, 1, (.c (.int .i64 3))), (1, 1, (.t 37)), (2, 1, (.c (.int .i64 4))), (3, 1, (.t 38)), (4, 1, (.t 39))], none⟩, 
    ⟨some 13, .alloc false [(.int .i64 0), (.int .i64 0), (.int .i64 0), (.int .i64 0), (.int .u32 0), (.lst .nil [])], none⟩, 
    ⟨none, .store 6 (.t 13) (.t 40), none⟩]) (
  .seq (.region [
    ⟨some 41, .load 2 true 6 (.t 13), none⟩, 
    ⟨some 42, .buildS false 6 [(.t 41)], none⟩, 
    ⟨some 14, .move true (.t 42), none⟩]) (
  .seq (.region [
    ⟨some 43, .load 2 true 6 (.t 13), none⟩, 
    ⟨some 44, .call true F.gantref5_MsgFault [(.t 43)], none⟩, 
    ⟨some 15, .move false (.t 44), none⟩]) (
  .seq (.seq (.region [
    ⟨some 45, .faddr 2 (.t 4), none⟩, 
    ⟨some 46, .load 2 false 1 (.t 45), none⟩, 
    ⟨some 47, .len (.t 46), none⟩, 
    ⟨some 48, .bin .gtr (.t 47) (.c (.int .i64 0)), none⟩]) (
  .cond (.t 48) (.seq (.region [
    ⟨some 49, .move false (.t 1), none⟩, 
    ⟨some 50, .move false (.t 2), none⟩, 
    ⟨some 51, .move false (.t 3), none⟩, 
    ⟨some 52, .faddr 2 (.t 4), none⟩, 
    ⟨some 53, .load 2 false 1 (.t 52), none⟩, 
    ⟨some 54, .build [(.int .i64 0), (.int .i64 0), (.int .i64 0), (.int .i64 0), (.int .u32 0), (.lst .nil [])] [(0, 1, (.c (.int .i64 0))), (1, 1, (.t 49)), (2, 1, (.c (.int .i64 4))), (3, 1, (.t 50)), (4, 1, (.t 51)), (5, 1, (.t 53))], none⟩, 
    ⟨some 16, .alloc false [(.int .i64 0), (.int .i64 0), (.int .i64 0), (.int .i64 0), (.int .u32 0), (.lst .nil [])], none⟩, 
    ⟨none, .store 6 (.t 16) (.t 54), none⟩]) (
  .seq (.region [
    ⟨some 55, .move true (.t 14), none⟩, 
    ⟨some 56, .load 2 true 6 (.t 16), none⟩, 
    ⟨some 57, .buildS false 6 [(.t 56)], none⟩, 
    ⟨some 58, .append 6 64 (.t 55) (.t 57), none⟩, 
    ⟨some 14, .move false (.t 58), none⟩]) (
  .seq (.seq (.region [
    ⟨some 59, .move false (.t 15), none⟩, 
    ⟨some 60, .bin .eql (.t 59) (.c (.int .i64 0)), none⟩]) (
  .cond (.t 60) (.region [
    ⟨some 61, .load 2 true 6 (.t 16), none⟩, 
    ⟨some 62, .call true F.gantref5_MsgFault [(.t 61)], none⟩, 
    ⟨some 15, .move false (.t 62), none⟩]) (.skip))) (
  .seq (.region [
    ⟨some 63, .move false (.t 15), none⟩, 
    ⟨some 64, .bin .eql (.t 63) (.c (.int .i64 0)), none⟩]) (
  .cond (.t 64) (.region [
    ⟨some 65, .faddr 2 (.t 4), none⟩, 
    ⟨some 66, .load 2 false 1 (.t 65), none⟩, 
    ⟨some 67, .call true F.gantref5_CellsFault [(.t 66)], none⟩, 
    ⟨some 15, .move false (.t 67), none⟩]) (.skip)))))) (.skip))) (
  .seq (.seq (.region [
    ⟨some 68, .move false (.t 15), none⟩, 
    ⟨some 69, .bin .neq (.t 68) (.c (.int .i64 0)), none⟩]) (
  .cond (.t 69) (.seq (.region [
    ⟨some 70, .move false (.t 12), none⟩, 
    ⟨some 71, .move false (.t 15), none⟩, 
    ⟨some 72, .bin .eql (.t 70) (.t 71), none⟩, 
    ⟨some 73, .move false (.t 72), none⟩, 
    ⟨some 74, .move false (.t 11), (some (73, true))⟩, 
    ⟨some 75, .len (.t 74), (some (73, true))⟩, 
    ⟨some 76, .bin .eql (.t 75) (.c (.int .i64 0)), (some (73, true))⟩, 
    ⟨some 77, .pick (.t 73) (.t 76) (.c (.bool false)), none⟩, 
    ⟨some 8, .move false (.t 77), none⟩]) (
  .ret)) (.skip))) (
  .seq (.region [
    ⟨some 78, .move false (.t 12), none⟩, 
    ⟨some 79, .bin .eql (.t 78) (.c (.int .i64 0)), none⟩, 
    ⟨some 80, .move false (.t 79), none⟩, 
    ⟨some 81, .move false (.t 11), (some (80, true))⟩, 
    ⟨some 82, .move false (.t 14), (some (80, true))⟩, 
    ⟨some 83, .call true F.slices_EqualFunc_Msg [(.t 81), (.t 82), (.c (.func 48 []))], (some (80, true))⟩, 
    ⟨some 84, .pick (.t 80) (.t 83) (.c (.bool false)), none⟩, 
    ⟨some 8, .move false (.t 84), none⟩]) (
  .ret)))))))))
def R.gantlaw5_FallHellos : List ARes := [.t 8]
set_option maxRecDepth 100000 in
theorem K.gantlaw5_FallHellos : ckFun Try.prog Try.f6 C.gantlaw5_FallHellos R.gantlaw5_FallHellos = true := by kernel_rfl
end Go.Proofs.Ytpdajkbfemcdlaa
