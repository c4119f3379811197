/- Annotated code of functions, checked against the program. -/
import Derived.Test.YtpdajkbfemcdlaaGeD
import Derived.Test.YtpdajkbfemcdlaaChecked
import Derived.Test.YtpdajkbfemcdlaaFn
import Derived.KernelRfl
namespace Go.Proofs.Ytpdajkbfemcdlaa
open Go.Ge
/-- gantry/gantref5.Crc -/
def C.gantref5_Crc : ACode :=
  .seq (.region [
    ⟨some 2, .move false (.c (.int .u32 0)), none⟩]) (
  .seq (.region [
    ⟨some 7, .call true F.gantref5_table [], none⟩, 
    ⟨some 3, .alloc false (List.replicate 256 (.int .u32 0)), none⟩, 
    ⟨none, .store 256 (.t 3) (.t 7), none⟩]) (
  .seq (.region [
    ⟨some 4, .move false (.c (.int .u32 4294967295)), none⟩]) (
  .seq (.seq (.region [
    ⟨some 8, .move false (.t 0), none⟩, 
    ⟨some 9, .len (.t 8), none⟩, 
    ⟨some 10, .move false (.c (.int .i64 0)), none⟩]) (
  .block 0 (.loop (.seq (.region [
    ⟨some 11, .bin .lss (.t 10) (.t 9), none⟩]) (
  .seq (.cond (.t 11) (.skip) (.exit 0)) (
  .seq (.block 1 (.seq (.region [
    ⟨some 12, .iaddr 1 (.t 8) (.t 10), none⟩, 
    ⟨some 13, .load 2 false 1 (.t 12), none⟩, 
    ⟨some 6, .move false (.t 13), none⟩]) (
  .region [
    ⟨some 14, .move false (.t 4), none⟩, 
    ⟨some 15, .conv .u8 (.t 14), none⟩, 
    ⟨some 16, .move false (.t 6), none⟩, 
    ⟨some 17, .bin .xor (.t 15) (.t 16), none⟩, 
    ⟨some 18, .aaddr 256 1 (.t 3) (.t 17), none⟩, 
    ⟨some 19, .load 2 false 1 (.t 18), none⟩, 
    ⟨some 20, .move false (.t 4), none⟩, 
    ⟨some 21, .bin .quo (.t 20) (.c (.int .u32 256)), none⟩, 
    ⟨some 22, .bin .xor (.t 19) (.t 21), none⟩, 
    ⟨some 4, .move false (.t 22), none⟩]))) (
  .region [
    ⟨some 23, .bin .add (.t 10) (.c (.int .i64 1)), none⟩, 
    ⟨some 10, .move false (.t 23), none⟩]))))))) (
  .seq (.region [
    ⟨some 24, .move false (.t 4), none⟩, 
    ⟨some 25, .bin .xor (.t 24) (.c (.int .u32 4294967295)), none⟩, 
    ⟨some 2, .move false (.t 25), none⟩]) (
  .ret)))))
def R.gantref5_Crc : List ARes := [.t 2]
set_option maxRecDepth 100000 in
theorem K.gantref5_Crc : ckFun Try.prog Try.f50 C.gantref5_Crc R.gantref5_Crc = true := by kernel_rfl
/-- gantry/gantref5.table -/
def C.gantref5_table : ACode :=
  .seq (.region [
    ⟨some 0, .alloc false (List.replicate 256 (.int .u32 0)), none⟩]) (
  .seq (.region [
    ⟨some 1, .alloc false (List.replicate 256 (.int .u32 0)), none⟩]) (
  .seq (.seq (.region [
    ⟨some 4, .move false (.c (.int .i64 0)), none⟩]) (
  .block 0 (.loop (.seq (.region [
    ⟨some 5, .bin .lss (.t 4) (.c (.int .i64 256)), none⟩]) (
  .seq (.cond (.t 5) (.skip) (.exit 0)) (
  .seq (.block 1 (.seq (.region [
    ⟨some 6, .move false (.t 4), none⟩, 
    ⟨some 2, .move false (.t 6), none⟩]) (
  .seq (.region [
    ⟨some 7, .move false (.t 2), none⟩, 
    ⟨some 8, .conv .u32 (.t 7), none⟩, 
    ⟨some 3, .move false (.t 8), none⟩]) (
  .seq (.seq (.region [
    ⟨some 9, .move false (.c (.int .i64 0)), none⟩]) (
  .block 2 (.loop (.seq (.region [
    ⟨some 10, .bin .lss (.t 9) (.c (.int .i64 8)), none⟩]) (
  .seq (.cond (.t 10) (.skip) (.exit 2)) (
  .seq (.block 3 (.seq (.region [
    ⟨some 11, .move false (.t 3), none⟩, 
    ⟨some 12, .bin .rem (.t 11) (.c (.int .u32 2)), none⟩, 
    ⟨some 13, .bin .eql (.t 12) (.c (.int .u32 1)), none⟩]) (
  .cond (.t 13) (.region [
    ⟨some 14, .move false (.t 3), none⟩, 
    ⟨some 15, .bin .quo (.t 14) (.c (.int .u32 2)), none⟩, 
    ⟨some 16, .bin .xor (.t 15) (.c (.int .u32 3988292384)), none⟩, 
    ⟨some 3, .move false (.t 16), none⟩]) (.region [
    ⟨some 17, .move false (.t 3), none⟩, 
    ⟨some 18, .bin .quo (.t 17) (.c (.int .u32 2)), none⟩, 
    ⟨some 3, .move false (.t 18), none⟩])))) (
  .region [
    ⟨some 19, .bin .add (.t 9) (.c (.int .i64 1)), none⟩, 
    ⟨some 9, .move false (.t 19), none⟩]))))))) (
  .region [
    ⟨some 20, .move false (.t 2), none⟩, 
    ⟨some 21, .move false (.t 3), none⟩, 
    ⟨some 22, .aaddr 256 1 (.t 1) (.t 20), none⟩, 
    ⟨none, .store 1 (.t 22) (.t 21), none⟩]))))) (
  .region [
    ⟨some 23, .bin .add (.t 4) (.c (.int .i64 1)), none⟩, 
    ⟨some 4, .move false (.t 23), none⟩]))))))) (
  .seq (.region [
    ⟨some 24, .load 2 true 256 (.t 1), none⟩, 
    ⟨none, .store 256 (.t 0) (.t 24), none⟩]) (
  .ret))))
def R.gantref5_table : List ARes := [.c 0 true 256]
set_option maxRecDepth 100000 in
theorem K.gantref5_table : ckFun Try.prog Try.f149 C.gantref5_table R.gantref5_table = true := by kernel_rfl
/-- gantry/msg.Same -/
def C.msg_Same : ACode :=
  .seq (.region [
    ⟨some 2, .bx true (.t 0), none⟩, 
    ⟨some 3, .bx true (.t 1), none⟩, 
    ⟨some 4, .move false (.c (.bool false)), none⟩]) (
  .seq (.region [
    ⟨some 5, .faddr 0 (.t 2), none⟩, 
    ⟨some 6, .load 2 false 1 (.t 5), none⟩, 
    ⟨some 7, .faddr 0 (.t 3), none⟩, 
    ⟨some 8, .load 2 false 1 (.t 7), none⟩, 
    ⟨some 9, .bin .eql (.t 6) (.t 8), none⟩, 
    ⟨some 10, .move false (.t 9), none⟩, 
    ⟨some 11, .faddr 1 (.t 2), (some (10, true))⟩, 
    ⟨some 12, .load 2 false 1 (.t 11), (some (10, true))⟩, 
    ⟨some 13, .faddr 1 (.t 3), (some (10, true))⟩, 
    ⟨some 14, .load 2 false 1 (.t 13), (some (10, true))⟩, 
    ⟨some 15, .bin .eql (.t 12) (.t 14), (some (10, true))⟩, 
    ⟨some 16, .pick (.t 10) (.t 15) (.c (.bool false)), none⟩, 
    ⟨some 17, .move false (.t 16), none⟩, 
    ⟨some 18, .faddr 2 (.t 2), (some (17, true))⟩, 
    ⟨some 19, .load 2 false 1 (.t 18), (some (17, true))⟩, 
    ⟨some 20, .faddr 2 (.t 3), (some (17, true))⟩, 
    ⟨some 21, .load 2 false 1 (.t 20), (some (17, true))⟩, 
    ⟨some 22, .bin .eql (.t 19) (.t 21), (some (17, true))⟩, 
    ⟨some 23, .pick (.t 17) (.t 22) (.c (.bool false)), none⟩, 
    ⟨some 24, .move false (.t 23), none⟩, 
    ⟨some 25, .faddr 3 (.t 2), (some (24, true))⟩, 
    ⟨some 26, .load 2 false 1 (.t 25), (some (24, true))⟩, 
    ⟨some 27, .faddr 3 (.t 3), (some (24, true))⟩, 
    ⟨some 28, .load 2 false 1 (.t 27), (some (24, true))⟩, 
    ⟨some 29, .bin .eql (.t 26) (.t 28), (some (24, true))⟩, 
    ⟨some 30, .pick (.t 24) (.t 29) (.c (.bool false)), none⟩, 
    ⟨some 31, .move false (.t 30), none⟩, 
    ⟨some 32, .faddr 4 (.t 2), (some (31, true))⟩, 
    ⟨some 33, .load 2 false 1 (.t 32), (some (31, true))⟩, 
    ⟨some 34, .faddr 4 (.t 3), (some (31, true))⟩, 
    ⟨some 35, .load 2 false 1 (.t 34), (some (31, true))⟩, 
    ⟨some 36, .bin .eql (.t 33) (.t 35), (some (31, true))⟩, 
    ⟨some 37, .pick (.t 31) (.t 36) (.c (.bool false)), none⟩, 
    ⟨some 38, .move false (.t 37), none⟩, 
    ⟨some 39, .faddr 5 (.t 2), (some (38, true))⟩, 
    ⟨some 40, .load 2 false 1 (.t 39), (some (38, true))⟩, 
    ⟨some 41, .faddr 5 (.t 3), (some (38, true))⟩, 
    ⟨some 42, .load 2 false 1 (.t 41), (some (38, true))⟩, 
    ⟨some 43, .call true F.slices_Equal_Cell [(.t 40), (.t 42)], (some (38, true))⟩, 
    ⟨some 44, .pick (.t 38) (.t 43) (.c (.bool false)), none⟩, 
    ⟨some 4, .move false (.t 44), none⟩]) (
  .ret))
def R.msg_Same : List ARes := [.t 4]
set_option maxRecDepth 100000 in
theorem K.msg_Same : ckFun Try.prog Try.f47 C.msg_Same R.msg_Same = true := by kernel_rfl
/-- gantry/msg.Copy -/
def C.msg_Copy : ACode :=
  .seq (.region [
    ⟨some 1, .bx true (.t 0), none⟩, 
    ⟨some 2, .alloc false [(.int .i64 0), (.int .i64 0), (.int .i64 0), (.int .i64 0), (.int .u32 0), (.lst .nil [])], none⟩]) (
  .seq (.region [
    ⟨some 3, .faddr 5 (.t 1), none⟩, 
    ⟨some 4, .load 2 false 1 (.t 3), none⟩, 
    ⟨some 5, .call true F.slices_Clone_Cell [(.t 4)], none⟩, 
    ⟨some 6, .faddr 5 (.t 1), none⟩, 
    ⟨none, .store 1 (.t 6) (.t 5), none⟩]) (
  .seq (.region [
    ⟨some 7, .load 2 true 6 (.t 1), none⟩, 
    ⟨none, .store 6 (.t 2) (.t 7), none⟩]) (
  .ret)))
def R.msg_Copy : List ARes := [.c 2 true 6]
set_option maxRecDepth 100000 in
theorem K.msg_Copy : ckFun Try.prog Try.f49 C.msg_Copy R.msg_Copy = true := by kernel_rfl
/-- gantry/gantlaw5.same -/
def C.gantlaw5_same : ACode :=
  .seq (.region [
    ⟨some 2, .bx true (.t 0), none⟩, 
    ⟨some 3, .bx true (.t 1), none⟩, 
    ⟨some 4, .move false (.c (.bool false)), none⟩]) (
  .seq (.region [
    ⟨some 5, .faddr 0 (.t 2), none⟩, 
    ⟨some 6, .load 2 false 1 (.t 5), none⟩, 
    ⟨some 7, .faddr 0 (.t 3), none⟩, 
    ⟨some 8, .load 2 false 1 (.t 7), none⟩, 
    ⟨some 9, .bin .eql (.t 6) (.t 8), none⟩, 
    ⟨some 10, .move false (.t 9), none⟩, 
    ⟨some 11, .faddr 1 (.t 2), (some (10, true))⟩, 
    ⟨some 12, .load 2 false 1 (.t 11), (some (10, true))⟩, 
    ⟨some 13, .faddr 1 (.t 3), (some (10, true))⟩, 
    ⟨some 14, .load 2 false 1 (.t 13), (some (10, true))⟩, 
    ⟨some 15, .bin .eql (.t 12) (.t 14), (some (10, true))⟩, 
    ⟨some 16, .pick (.t 10) (.t 15) (.c (.bool false)), none⟩, 
    ⟨some 17, .move false (.t 16), none⟩, 
    ⟨some 18, .faddr 2 (.t 2), (some (17, true))⟩, 
    ⟨some 19, .load 2 false 1 (.t 18), (some (17, true))⟩, 
    ⟨some 20, .faddr 2 (.t 3), (some (17, true))⟩, 
    ⟨some 21, .load 2 false 1 (.t 20), (some (17, true))⟩, 
    ⟨some 22, .bin .eql (.t 19) (.t 21), (some (17, true))⟩, 
    ⟨some 23, .pick (.t 17) (.t 22) (.c (.bool false)), none⟩, 
    ⟨some 24, .move false (.t 23), none⟩, 
    ⟨some 25, .faddr 3 (.t 2), (some (24, true))⟩, 
    ⟨some 26, .load 2 false 1 (.t 25), (some (24, true))⟩, 
    ⟨some 27, .faddr 3 (.t 3), (some (24, true))⟩, 
    ⟨some 28, .load 2 false 1 (.t 27), (some (24, true))⟩, 
    ⟨some 29, .bin .eql (.t 26) (.t 28), (some (24, true))⟩, 
    ⟨some 30, .pick (.t 24) (.t 29) (.c (.bool false)), none⟩, 
    ⟨some 31, .move false (.t 30), none⟩, 
    ⟨some 32, .faddr 4 (.t 2), (some (31, true))⟩, 
    ⟨some 33, .load 2 false 1 (.t 32), (some (31, true))⟩, 
    ⟨some 34, .faddr 4 (.t 3), (some (31, true))⟩, 
    ⟨some 35, .load 2 false 1 (.t 34), (some (31, true))⟩, 
    ⟨some 36, .bin .eql (.t 33) (.t 35), (some (31, true))⟩, 
    ⟨some 37, .pick (.t 31) (.t 36) (.c (.bool false)), none⟩, 
    ⟨some 38, .move false (.t 37), none⟩, 
    ⟨some 39, .faddr 5 (.t 2), (some (38, true))⟩, 
    ⟨some 40, .load 2 false 1 (.t 39), (some (38, true))⟩, 
    ⟨some 41, .faddr 5 (.t 3), (some (38, true))⟩, 
    ⟨some 42, .load 2 false 1 (.t 41), (some (38, true))⟩, 
    ⟨some 43, .call true F.slices_Equal_Cell [(.t 40), (.t 42)], (some (38, true))⟩, 
    ⟨some 44, .pick (.t 38) (.t 43) (.c (.bool false)), none⟩, 
    ⟨some 4, .move false (.t 44), none⟩]) (
  .ret))
def R.gantlaw5_same : List ARes := [.t 4]
set_option maxRecDepth 100000 in
theorem K.gantlaw5_same : ckFun Try.prog Try.f48 C.gantlaw5_same R.gantlaw5_same = true := by kernel_rfl
/-- slices.Equal[[]gantry/api.Cell,gantry/api.Cell] -/
def C.slices_Equal_Cell : ACode :=
  .seq (.region [
    ⟨some 4, .move false (.c (.bool false)), none⟩]) (
  .seq (.seq (.region [
    ⟨some 6, .move false (.t 0), none⟩, 
    ⟨some 7, .len (.t 6), none⟩, 
    ⟨some 8, .move false (.t 1), none⟩, 
    ⟨some 9, .len (.t 8), none⟩, 
    ⟨some 10, .bin .neq (.t 7) (.t 9), none⟩]) (
  .cond (.t 10) (.seq (.region [
    ⟨some 4, .move false (.c (.bool false)), none⟩]) (
  .ret)) (.skip))) (
  .seq (.seq (.region [
    ⟨some 11, .move false (.t 0), none⟩, 
    ⟨some 12, .len (.t 11), none⟩, 
    ⟨some 13, .move false (.c (.int .i64 0)), none⟩]) (
  .block 0 (.loop (.seq (.region [
    ⟨some 14, .bin .lss (.t 13) (.t 12), none⟩]) (
  .seq (.cond (.t 14) (.skip) (.exit 0)) (
  .seq (.block 1 (.seq (.region [
    ⟨some 15, .move false (.t 13), none⟩, 
    ⟨some 5, .move false (.t 15), none⟩]) (
  .seq (.drawn [0, 1, 2, 3, 4, 5, 6, 7, 8] [0, 0, 3, 7, 0, 0, 48, 112, 255] [
    ⟨some 16, .move false (.t 0), none⟩, 
    ⟨some 17, .move false (.t 5), none⟩, 
    ⟨some 18, .iaddr 2 (.t 16) (.t 17), none⟩, 
    ⟨some 19, .load 0 true 2 (.t 18), none⟩, 
    ⟨some 20, .move false (.t 1), none⟩, 
    ⟨some 21, .move false (.t 5), none⟩, 
    ⟨some 22, .iaddr 2 (.t 20) (.t 21), none⟩, 
    ⟨some 23, .load 0 true 2 (.t 22), none⟩, 
    ⟨some 24, .eqs true [.i .i64, .i .i64] (.t 19) (.t 23), none⟩]) (
  .cond (.t 24) (.seq (.region [
    ⟨some 4, .move false (.c (.bool false)), none⟩]) (
  .ret)) (.skip))))) (
  .region [
    ⟨some 25, .bin .add (.t 13) (.c (.int .i64 1)), none⟩, 
    ⟨some 13, .move false (.t 25), none⟩]))))))) (
  .seq (.region [
    ⟨some 4, .move false (.c (.bool true)), none⟩]) (
  .ret))))
def R.slices_Equal_Cell : List ARes := [.t 4]
set_option maxRecDepth 100000 in
theorem K.slices_Equal_Cell : ckFun Try.prog Try.f123 C.slices_Equal_Cell R.slices_Equal_Cell = true := by kernel_rfl
/-- slices.Clone[[]gantry/api.Cell,gantry/api.Cell] -/
def C.slices_Clone_Cell : ACode :=
  .seq (.region [
    ⟨some 2, .move false (.c (.lst .nil [])), none⟩]) (
  .seq (.seq (.region [
    ⟨some 3, .move false (.t 0), none⟩, 
    ⟨some 4, .isnil false false (.t 3), none⟩]) (
  .cond (.t 4) (.seq (.region [
    ⟨some 2, .move false (.c (.lst .nil [])), none⟩]) (
  .ret)) (.skip))) (
  .seq (.region [
    ⟨some 5, .buildS false 2 [], none⟩, 
    ⟨some 6, .move false (.t 0), none⟩, 
    ⟨some 7, .append 2 16 (.t 5) (.t 6), none⟩, 
    ⟨some 2, .move true (.t 7), none⟩]) (
  .ret)))
def R.slices_Clone_Cell : List ARes := [.t 2]
set_option maxRecDepth 100000 in
theorem K.slices_Clone_Cell : ckFun Try.prog Try.f148 C.slices_Clone_Cell R.slices_Clone_Cell = true := by kernel_rfl
/-- gantry/gantlaw5.MsgSame -/
def C.gantlaw5_MsgSame : ACode :=
  .seq (.region [
    ⟨some 3, .bx true (.t 0), none⟩, 
    ⟨some 4, .bx true (.t 1), none⟩, 
    ⟨some 6, .move false (.c (.bool false)), none⟩]) (
  .seq (.seq (.region [
    ⟨some 7, .buildS true 1 [(.c (.int .u8 49)), (.c (.int .u8 50)), (.c (.int .u8 51)), (.c (.int .u8 52)), (.c (.int .u8 53)), (.c (.int .u8 54)), (.c (.int .u8 55)), (.c (.int .u8 56)), (.c (.int .u8 57))], none⟩, 
    ⟨some 8, .str8 7, none⟩, 
    ⟨some 9, .call true F.msg_Sum [(.t 8)], none⟩, 
    ⟨some 10, .bin .neq (.t 9) (.c (.int .u32 3421780262)), none⟩]) (
  .cond (.t 10) (.seq (.region [
    ⟨some 6, .move false (.c (.bool false)), none⟩]) (
  .ret)) (.skip))) (
  .seq (.drawn [0, 1, 3, 4, 2, 5, 6, 7, 8, 10, 9, 11, 12, 13, 14, 16, 15, 17, 18, 19, 20] [0, 0, 3, 0, 0, 31, 63, 127, 255, 511, 255, 2047, 4095, 8191, 16383, 32767, 16383, 131071, 262143, 524287, 1048575] [
    ⟨some 11, .load 1 true 6 (.t 3), none⟩, 
    ⟨some 12, .load 1 true 6 (.t 4), none⟩, 
    ⟨some 14, .load 1 true 6 (.t 3), none⟩, 
    ⟨some 15, .load 1 true 6 (.t 4), none⟩, 
    ⟨some 13, .call false F.msg_Same [(.t 11), (.t 12)], none⟩, 
    ⟨some 16, .call false F.gantlaw5_same [(.t 14), (.t 15)], none⟩, 
    ⟨some 17, .beq false (.t 13) (.t 16), none⟩, 
    ⟨some 18, .move false (.t 17), none⟩, 
    ⟨some 19, .load 1 true 6 (.t 3), (some (18, true))⟩, 
    ⟨some 21, .load 1 true 6 (.t 3), (some (18, true))⟩, 
    ⟨some 20, .call false F.msg_Copy [(.t 19)], (some (18, true))⟩, 
    ⟨some 22, .call false F.gantlaw5_same [(.t 20), (.t 21)], (some (18, true))⟩, 
    ⟨some 23, .pick (.t 18) (.t 22) (.c (.bool false)), none⟩, 
    ⟨some 24, .move false (.t 23), none⟩, 
    ⟨some 25, .move false (.t 2), (some (24, true))⟩, 
    ⟨some 27, .move false (.t 2), (some (24, true))⟩, 
    ⟨some 26, .call false F.msg_Sum [(.t 25)], (some (24, true))⟩, 
    ⟨some 28, .call false F.gantref5_Crc [(.t 27)], (some (24, true))⟩, 
    ⟨some 29, .bin .eql (.t 26) (.t 28), (some (24, true))⟩, 
    ⟨some 30, .pick (.t 24) (.t 29) (.c (.bool false)), none⟩, 
    ⟨some 6, .move false (.t 30), none⟩]) (
  .ret)))
def R.gantlaw5_MsgSame : List ARes := [.t 6]
set_option maxRecDepth 100000 in
theorem K.gantlaw5_MsgSame : ckFun Try.prog Try.f4 C.gantlaw5_MsgSame R.gantlaw5_MsgSame = true := by kernel_rfl
end Go.Proofs.Ytpdajkbfemcdlaa
