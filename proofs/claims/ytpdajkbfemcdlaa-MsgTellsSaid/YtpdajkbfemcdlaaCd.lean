/- Annotated code of functions, checked against the program. -/
import Derived.Test.YtpdajkbfemcdlaaGeD
import Derived.Test.YtpdajkbfemcdlaaChecked
import Derived.Test.YtpdajkbfemcdlaaFn
import Derived.KernelRfl
namespace Go.Proofs.Ytpdajkbfemcdlaa
open Go.Ge
/-- gantry/msg.Write -/
def C.msg_Write : ACode :=
  .seq (.region [
    ⟨some 1, .bx true (.t 0), none⟩, 
    ⟨some 2, .move false (.c (.lst .nil [])), none⟩, 
    ⟨some 3, .move false (.c (.int .i64 0)), none⟩]) (
  .seq (.seq (.region [
    ⟨some 8, .load 2 true 6 (.t 1), none⟩, 
    ⟨some 9, .call true F.msg_Check [(.t 8)], none⟩, 
    ⟨some 4, .move false (.t 9), none⟩]) (
  .seq (.region [
    ⟨some 10, .move false (.t 4), none⟩, 
    ⟨some 11, .bin .neq (.t 10) (.c (.int .i64 0)), none⟩]) (
  .cond (.t 11) (.seq (.region [
    ⟨some 12, .move false (.t 4), none⟩, 
    ⟨some 2, .move false (.c (.lst .nil [])), none⟩, 
    ⟨some 3, .move false (.t 12), none⟩]) (
  .ret)) (.skip)))) (
  .seq (.region [
    ⟨some 13, .faddr 0 (.t 1), none⟩, 
    ⟨some 14, .load 2 false 1 (.t 13), none⟩, 
    ⟨some 15, .conv .u8 (.t 14), none⟩, 
    ⟨some 16, .faddr 1 (.t 1), none⟩, 
    ⟨some 17, .load 2 false 1 (.t 16), none⟩, 
    ⟨some 18, .conv .u8 (.t 17), none⟩, 
    ⟨some 19, .faddr 2 (.t 1), none⟩, 
    ⟨some 20, .load 2 false 1 (.t 19), none⟩, 
    ⟨some 21, .conv .u8 (.t 20), none⟩, 
    ⟨some 22, .buildS false 1 [(.t 15), (.t 18), (.t 21)], none⟩, 
    ⟨some 5, .move true (.t 22), none⟩]) (
  .seq (.drawn [1, 2, 3, 6, 7, 0, 4, 5, 8, 9, 10] [0, 0, 2, 6, 14, 31, 0, 64, 255, 511, 1023] [
    ⟨some 24, .faddr 3 (.t 1), none⟩, 
    ⟨some 25, .load 1 false 1 (.t 24), none⟩, 
    ⟨some 26, .conv .u32 (.t 25), none⟩, 
    ⟨some 29, .faddr 4 (.t 1), none⟩, 
    ⟨some 30, .load 1 false 1 (.t 29), none⟩, 
    ⟨some 23, .move true (.t 5), none⟩, 
    ⟨some 27, .call false F.msg_four [(.t 26)], none⟩, 
    ⟨some 28, .append 1 1 (.t 23) (.t 27), none⟩, 
    ⟨some 31, .call false F.msg_four [(.t 30)], none⟩, 
    ⟨some 32, .append 1 1 (.t 28) (.t 31), none⟩, 
    ⟨some 5, .move true (.t 32), none⟩]) (
  .seq (.region [
    ⟨some 33, .move true (.t 5), none⟩, 
    ⟨some 34, .faddr 5 (.t 1), none⟩, 
    ⟨some 35, .load 2 false 1 (.t 34), none⟩, 
    ⟨some 36, .len (.t 35), none⟩, 
    ⟨some 37, .bin .shr (.t 36) (.c (.int .u64 8)), none⟩, 
    ⟨some 38, .conv .u8 (.t 37), none⟩, 
    ⟨some 39, .faddr 5 (.t 1), none⟩, 
    ⟨some 40, .load 2 false 1 (.t 39), none⟩, 
    ⟨some 41, .len (.t 40), none⟩, 
    ⟨some 42, .conv .u8 (.t 41), none⟩, 
    ⟨some 43, .buildS false 1 [(.t 38), (.t 42)], none⟩, 
    ⟨some 44, .append 1 1 (.t 33) (.t 43), none⟩, 
    ⟨some 5, .move true (.t 44), none⟩]) (
  .seq (.seq (.region [
    ⟨some 45, .faddr 5 (.t 1), none⟩, 
    ⟨some 46, .load 2 false 1 (.t 45), none⟩, 
    ⟨some 47, .len (.t 46), none⟩, 
    ⟨some 48, .move false (.c (.int .i64 0)), none⟩]) (
  .block 0 (.loop (.seq (.region [
    ⟨some 49, .bin .lss (.t 48) (.t 47), none⟩]) (
  .seq (.cond (.t 49) (.skip) (.exit 0)) (
  .seq (.block 1 (.seq (.region [
    ⟨some 50, .iaddr 2 (.t 46) (.t 48), none⟩, 
    ⟨some 51, .load 2 true 2 (.t 50), none⟩, 
    ⟨some 7, .alloc false [(.int .i64 0), (.int .i64 0)], none⟩, 
    ⟨none, .store 2 (.t 7) (.t 51), none⟩]) (
  .region [
    ⟨some 52, .move true (.t 5), none⟩, 
    ⟨some 53, .faddr 0 (.t 7), none⟩, 
    ⟨some 54, .load 2 false 1 (.t 53), none⟩, 
    ⟨some 55, .bin .add (.t 54) (.c (.int .i64 64)), none⟩, 
    ⟨some 56, .conv .u8 (.t 55), none⟩, 
    ⟨some 57, .faddr 1 (.t 7), none⟩, 
    ⟨some 58, .load 2 false 1 (.t 57), none⟩, 
    ⟨some 59, .bin .add (.t 58) (.c (.int .i64 64)), none⟩, 
    ⟨some 60, .conv .u8 (.t 59), none⟩, 
    ⟨some 61, .buildS false 1 [(.t 56), (.t 60)], none⟩, 
    ⟨some 62, .append 1 1 (.t 52) (.t 61), none⟩, 
    ⟨some 5, .move true (.t 62), none⟩]))) (
  .region [
    ⟨some 63, .bin .add (.t 48) (.c (.int .i64 1)), none⟩, 
    ⟨some 48, .move false (.t 63), none⟩]))))))) (
  .seq (.region [
    ⟨some 64, .move true (.t 5), none⟩, 
    ⟨some 65, .move false (.t 5), none⟩, 
    ⟨some 66, .call true F.msg_Sum [(.t 65)], none⟩, 
    ⟨some 67, .call true F.msg_four [(.t 66)], none⟩, 
    ⟨some 68, .append 1 1 (.t 64) (.t 67), none⟩, 
    ⟨some 2, .move true (.t 68), none⟩, 
    ⟨some 3, .move false (.c (.int .i64 0)), none⟩]) (
  .ret)))))))
def R.msg_Write : List ARes := [.t 2, .t 3]
set_option maxRecDepth 100000 in
theorem K.msg_Write : ckFun Try.prog Try.f73 C.msg_Write R.msg_Write = true := by kernel_rfl
/-- gantry/msg.four -/
def C.msg_four : ACode :=
  .seq (.region [
    ⟨some 2, .move false (.c (.lst .nil [])), none⟩]) (
  .seq (.region [
    ⟨some 3, .move false (.t 0), none⟩, 
    ⟨some 4, .bin .shr (.t 3) (.c (.int .u64 24)), none⟩, 
    ⟨some 5, .conv .u8 (.t 4), none⟩, 
    ⟨some 6, .move false (.t 0), none⟩, 
    ⟨some 7, .bin .shr (.t 6) (.c (.int .u64 16)), none⟩, 
    ⟨some 8, .conv .u8 (.t 7), none⟩, 
    ⟨some 9, .move false (.t 0), none⟩, 
    ⟨some 10, .bin .shr (.t 9) (.c (.int .u64 8)), none⟩, 
    ⟨some 11, .conv .u8 (.t 10), none⟩, 
    ⟨some 12, .move false (.t 0), none⟩, 
    ⟨some 13, .conv .u8 (.t 12), none⟩, 
    ⟨some 14, .buildS false 1 [(.t 5), (.t 8), (.t 11), (.t 13)], none⟩, 
    ⟨some 2, .move true (.t 14), none⟩]) (
  .ret))
def R.msg_four : List ARes := [.t 2]
set_option maxRecDepth 100000 in
theorem K.msg_four : ckFun Try.prog Try.f157 C.msg_four R.msg_four = true := by kernel_rfl
/-- gantry/msg.number -/
def C.msg_number : ACode :=
  .seq (.region [
    ⟨some 2, .move false (.c (.int .u32 0)), none⟩]) (
  .seq (.region [
    ⟨some 3, .move false (.c (.int .u32 0)), none⟩]) (
  .seq (.seq (.region [
    ⟨some 6, .move false (.t 0), none⟩, 
    ⟨some 7, .len (.t 6), none⟩, 
    ⟨some 8, .move false (.c (.int .i64 0)), none⟩]) (
  .block 0 (.loop (.seq (.region [
    ⟨some 9, .bin .lss (.t 8) (.t 7), none⟩]) (
  .seq (.cond (.t 9) (.skip) (.exit 0)) (
  .seq (.block 1 (.seq (.region [
    ⟨some 10, .iaddr 1 (.t 6) (.t 8), none⟩, 
    ⟨some 11, .load 2 false 1 (.t 10), none⟩, 
    ⟨some 5, .move false (.t 11), none⟩]) (
  .region [
    ⟨some 12, .move false (.t 3), none⟩, 
    ⟨some 13, .bin .shl (.t 12) (.c (.int .u64 8)), none⟩, 
    ⟨some 14, .move false (.t 5), none⟩, 
    ⟨some 15, .conv .u32 (.t 14), none⟩, 
    ⟨some 16, .bin .or (.t 13) (.t 15), none⟩, 
    ⟨some 3, .move false (.t 16), none⟩]))) (
  .region [
    ⟨some 17, .bin .add (.t 8) (.c (.int .i64 1)), none⟩, 
    ⟨some 8, .move false (.t 17), none⟩]))))))) (
  .seq (.region [
    ⟨some 18, .move false (.t 3), none⟩, 
    ⟨some 2, .move false (.t 18), none⟩]) (
  .ret))))
def R.msg_number : List ARes := [.t 2]
set_option maxRecDepth 100000 in
theorem K.msg_number : ckFun Try.prog Try.f159 C.msg_number R.msg_number = true := by kernel_rfl
/-- gantry/msg.Read -/
def C.msg_Read : ACode :=
  .seq (.region [
    ⟨some 2, .alloc false [(.int .i64 0), (.int .i64 0), (.int .i64 0), (.int .i64 0), (.int .u32 0), (.lst .nil [])], none⟩, 
    ⟨some 3, .move false (.c (.int .i64 0)), none⟩]) (
  .seq (.seq (.region [
    ⟨some 8, .move false (.t 0), none⟩, 
    ⟨some 9, .len (.t 8), none⟩, 
    ⟨some 10, .bin .lss (.t 9) (.c (.int .i64 17)), none⟩]) (
  .cond (.t 10) (.seq (.region [
    ⟨some 11, .build [(.int .i64 0), (.int .i64 0), (.int .i64 0), (.int .i64 0), (.int .u32 0), (.lst .nil [])] [], none⟩, 
    ⟨none, .store 6 (.t 2) (.t 11), none⟩, 
    ⟨some 3, .move false (.c (.int .i64 14)), none⟩]) (
  .ret)) (.skip))) (
  .seq (.region [
    ⟨some 12, .move false (.t 0), none⟩, 
    ⟨some 13, .slice 1 (.t 12) (some (.c (.int .i64 11))) (some (.c (.int .i64 13))) none, none⟩, 
    ⟨some 14, .call true F.msg_number [(.t 13)], none⟩, 
    ⟨some 15, .conv .i64 (.t 14), none⟩, 
    ⟨some 4, .move false (.t 15), none⟩]) (
  .seq (.block 0 (.seq (.region [
    ⟨some 17, .move false (.t 0), none⟩, 
    ⟨some 18, .len (.t 17), none⟩, 
    ⟨some 19, .move false (.t 4), none⟩, 
    ⟨some 20, .bin .mul (.c (.int .i64 2)) (.t 19), none⟩, 
    ⟨some 21, .bin .add (.c (.int .i64 17)) (.t 20), none⟩, 
    ⟨some 22, .bin .lss (.t 18) (.t 21), none⟩, 
    ⟨some 16, .move false (.t 22), none⟩]) (
  .cond (.t 16) (.seq (.region [
    ⟨some 23, .build [(.int .i64 0), (.int .i64 0), (.int .i64 0), (.int .i64 0), (.int .u32 0), (.lst .nil [])] [], none⟩, 
    ⟨none, .store 6 (.t 2) (.t 23), none⟩, 
    ⟨some 3, .move false (.c (.int .i64 14)), none⟩]) (
  .ret)) (.seq (.region [
    ⟨some 25, .move false (.t 0), none⟩, 
    ⟨some 26, .len (.t 25), none⟩, 
    ⟨some 27, .move false (.t 4), none⟩, 
    ⟨some 28, .bin .mul (.c (.int .i64 2)) (.t 27), none⟩, 
    ⟨some 29, .bin .add (.c (.int .i64 17)) (.t 28), none⟩, 
    ⟨some 30, .bin .gtr (.t 26) (.t 29), none⟩, 
    ⟨some 24, .move false (.t 30), none⟩]) (
  .cond (.t 24) (.seq (.region [
    ⟨some 31, .build [(.int .i64 0), (.int .i64 0), (.int .i64 0), (.int .i64 0), (.int .u32 0), (.lst .nil [])] [], none⟩, 
    ⟨none, .store 6 (.t 2) (.t 31), none⟩, 
    ⟨some 3, .move false (.c (.int .i64 3)), none⟩]) (
  .ret)) (.seq (.drawn [0, 1, 2, 3, 4, 6, 7, 8, 9, 10, 5, 11, 12, 13] [0, 0, 2, 6, 15, 31, 0, 0, 128, 384, 960, 2047, 4095, 8191] [
    ⟨some 33, .move false (.t 0), none⟩, 
    ⟨some 34, .move false (.t 4), none⟩, 
    ⟨some 35, .bin .mul (.c (.int .i64 2)) (.t 34), none⟩, 
    ⟨some 36, .bin .add (.c (.int .i64 13)) (.t 35), none⟩, 
    ⟨some 37, .slice 1 (.t 33) (some (.t 36)) none none, none⟩, 
    ⟨some 39, .move false (.t 0), none⟩, 
    ⟨some 40, .move false (.t 4), none⟩, 
    ⟨some 41, .bin .mul (.c (.int .i64 2)) (.t 40), none⟩, 
    ⟨some 42, .bin .add (.c (.int .i64 13)) (.t 41), none⟩, 
    ⟨some 43, .slice 1 (.t 39) none (some (.t 42)) none, none⟩, 
    ⟨some 38, .call false F.msg_number [(.t 37)], none⟩, 
    ⟨some 44, .call false F.msg_Sum [(.t 43)], none⟩, 
    ⟨some 45, .bin .neq (.t 38) (.t 44), none⟩, 
    ⟨some 32, .move false (.t 45), none⟩]) (
  .cond (.t 32) (.seq (.region [
    ⟨some 46, .build [(.int .i64 0), (.int .i64 0), (.int .i64 0), (.int .i64 0), (.int .u32 0), (.lst .nil [])] [], none⟩, 
    ⟨none, .store 6 (.t 2) (.t 46), none⟩, 
    ⟨some 3, .move false (.c (.int .i64 13)), none⟩]) (
  .ret)) (.skip)))))))) (
  .seq (.drawn [0, 1, 2, 3, 4, 5, 6, 7, 8, 9, 10, 11, 12, 13, 16, 17, 14, 15, 18, 19, 20, 21] [0, 1, 3, 7, 0, 16, 48, 112, 0, 256, 768, 1792, 0, 4096, 12288, 28672, 0, 65536, 225280, 524287, 0, 2097151] [
    ⟨some 47, .move false (.t 0), none⟩, 
    ⟨some 48, .iaddr 1 (.t 47) (.c (.int .i64 0)), none⟩, 
    ⟨some 49, .load 0 false 1 (.t 48), none⟩, 
    ⟨some 50, .conv .i64 (.t 49), none⟩, 
    ⟨some 51, .move false (.t 0), none⟩, 
    ⟨some 52, .iaddr 1 (.t 51) (.c (.int .i64 1)), none⟩, 
    ⟨some 53, .load 0 false 1 (.t 52), none⟩, 
    ⟨some 54, .conv .i64 (.t 53), none⟩, 
    ⟨some 55, .move false (.t 0), none⟩, 
    ⟨some 56, .iaddr 1 (.t 55) (.c (.int .i64 2)), none⟩, 
    ⟨some 57, .load 0 false 1 (.t 56), none⟩, 
    ⟨some 58, .conv .i64 (.t 57), none⟩, 
    ⟨some 59, .move false (.t 0), none⟩, 
    ⟨some 60, .slice 1 (.t 59) (some (.c (.int .i64 3))) (some (.c (.int .i64 7))) none, none⟩, 
    ⟨some 63, .move false (.t 0), none⟩, 
    ⟨some 64, .slice 1 (.t 63) (some (.c (.int .i64 7))) (some (.c (.int .i64 11))) none, none⟩, 
    ⟨some 61, .call false F.msg_number [(.t 60)], none⟩, 
    ⟨some 62, .conv .i64 (.t 61), none⟩, 
    ⟨some 65, .call false F.msg_number [(.t 64)], none⟩, 
    ⟨some 66, .build [(.int .i64 0), (.int .i64 0), (.int .i64 0), (.int .i64 0), (.int .u32 0), (.lst .nil [])] [(0, 1, (.t 50)), (1, 1, (.t 54)), (2, 1, (.t 58)), (3, 1, (.t 62)), (4, 1, (.t 65))], none⟩, 
    ⟨some 5, .alloc true [(.int .i64 0), (.int .i64 0), (.int .i64 0), (.int .i64 0), (.int .u32 0), (.lst .nil [])], none⟩, 
    ⟨none, .store 6 (.t 5) (.t 66), none⟩]) (
  .seq (.seq (.region [
    ⟨some 67, .move false (.t 4), none⟩, 
    ⟨some 68, .move false (.c (.int .i64 0)), none⟩]) (
  .block 1 (.loop (.seq (.region [
    ⟨some 69, .bin .lss (.t 68) (.t 67), none⟩]) (
  .seq (.cond (.t 69) (.skip) (.exit 1)) (
  .seq (.block 2 (.seq (.region [
    ⟨some 70, .move false (.t 68), none⟩, 
    ⟨some 6, .move false (.t 70), none⟩]) (
  .drawn [0, 2, 3, 4, 5, 6, 7, 8, 9, 10, 11, 12, 13, 14, 15, 16, 17, 18, 19, 1, 20, 21, 22] [0, 1, 0, 0, 8, 24, 60, 124, 252, 508, 0, 0, 2048, 6144, 15360, 31744, 64512, 130048, 262140, 524284, 1048575, 2097151, 4194303] [
    ⟨some 71, .faddr 5 (.t 5), none⟩, 
    ⟨some 73, .move false (.t 0), none⟩, 
    ⟨some 74, .move false (.t 6), none⟩, 
    ⟨some 75, .bin .mul (.c (.int .i64 2)) (.t 74), none⟩, 
    ⟨some 76, .bin .add (.c (.int .i64 13)) (.t 75), none⟩, 
    ⟨some 77, .iaddr 1 (.t 73) (.t 76), none⟩, 
    ⟨some 78, .load 0 false 1 (.t 77), none⟩, 
    ⟨some 79, .conv .i64 (.t 78), none⟩, 
    ⟨some 80, .bin .sub (.t 79) (.c (.int .i64 64)), none⟩, 
    ⟨some 81, .move false (.t 0), none⟩, 
    ⟨some 82, .move false (.t 6), none⟩, 
    ⟨some 83, .bin .mul (.c (.int .i64 2)) (.t 82), none⟩, 
    ⟨some 84, .bin .add (.c (.int .i64 14)) (.t 83), none⟩, 
    ⟨some 85, .iaddr 1 (.t 81) (.t 84), none⟩, 
    ⟨some 86, .load 0 false 1 (.t 85), none⟩, 
    ⟨some 87, .conv .i64 (.t 86), none⟩, 
    ⟨some 88, .bin .sub (.t 87) (.c (.int .i64 64)), none⟩, 
    ⟨some 89, .build [(.int .i64 0), (.int .i64 0)] [(0, 1, (.t 80)), (1, 1, (.t 88))], none⟩, 
    ⟨some 90, .buildS false 2 [(.t 89)], none⟩, 
    ⟨some 72, .loadT (.t 71), none⟩, 
    ⟨some 91, .append 2 16 (.t 72) (.t 90), none⟩, 
    ⟨some 92, .faddr 5 (.t 5), none⟩, 
    ⟨none, .store 1 (.t 92) (.t 91), none⟩]))) (
  .region [
    ⟨some 93, .bin .add (.t 68) (.c (.int .i64 1)), none⟩, 
    ⟨some 68, .move false (.t 93), none⟩]))))))) (
  .seq (.seq (.region [
    ⟨some 94, .load 2 true 6 (.t 5), none⟩, 
    ⟨some 95, .call true F.msg_Check [(.t 94)], none⟩, 
    ⟨some 7, .move false (.t 95), none⟩]) (
  .seq (.region [
    ⟨some 96, .move false (.t 7), none⟩, 
    ⟨some 97, .bin .neq (.t 96) (.c (.int .i64 0)), none⟩]) (
  .cond (.t 97) (.seq (.region [
    ⟨some 98, .build [(.int .i64 0), (.int .i64 0), (.int .i64 0), (.int .i64 0), (.int .u32 0), (.lst .nil [])] [], none⟩, 
    ⟨some 99, .move false (.t 7), none⟩, 
    ⟨none, .store 6 (.t 2) (.t 98), none⟩, 
    ⟨some 3, .move false (.t 99), none⟩]) (
  .ret)) (.skip)))) (
  .seq (.region [
    ⟨some 100, .load 2 true 6 (.t 5), none⟩, 
    ⟨none, .store 6 (.t 2) (.t 100), none⟩, 
    ⟨some 3, .move false (.c (.int .i64 0)), none⟩]) (
  .ret))))))))
def R.msg_Read : List ARes := [.c 2 true 6, .t 3]
set_option maxRecDepth 100000 in
theorem K.msg_Read : ckFun Try.prog Try.f77 C.msg_Read R.msg_Read = true := by kernel_rfl
/-- gantry/gantref5.Frame -/
def C.gantref5_Frame : ACode :=
  .seq (.region [
    ⟨some 1, .bx true (.t 0), none⟩, 
    ⟨some 2, .move false (.c (.lst .nil [])), none⟩]) (
  .seq (.region [
    ⟨some 6, .faddr 0 (.t 1), none⟩, 
    ⟨some 7, .load 2 false 1 (.t 6), none⟩, 
    ⟨some 8, .conv .u8 (.t 7), none⟩, 
    ⟨some 9, .faddr 1 (.t 1), none⟩, 
    ⟨some 10, .load 2 false 1 (.t 9), none⟩, 
    ⟨some 11, .conv .u8 (.t 10), none⟩, 
    ⟨some 12, .faddr 2 (.t 1), none⟩, 
    ⟨some 13, .load 2 false 1 (.t 12), none⟩, 
    ⟨some 14, .conv .u8 (.t 13), none⟩, 
    ⟨some 15, .buildS false 1 [(.t 8), (.t 11), (.t 14)], none⟩, 
    ⟨some 3, .move false (.t 15), none⟩]) (
  .seq (.drawn [0, 1, 2, 3, 5, 6, 7, 9, 10, 11, 12, 4, 8, 13, 14, 15, 16] [0, 0, 2, 6, 14, 0, 32, 96, 254, 0, 512, 1536, 3584, 8190, 16383, 32767, 65535] [
    ⟨some 16, .move false (.t 3), none⟩, 
    ⟨some 17, .faddr 3 (.t 1), none⟩, 
    ⟨some 18, .load 1 false 1 (.t 17), none⟩, 
    ⟨some 19, .conv .u64 (.t 18), none⟩, 
    ⟨some 21, .faddr 4 (.t 1), none⟩, 
    ⟨some 22, .load 1 false 1 (.t 21), none⟩, 
    ⟨some 23, .conv .u64 (.t 22), none⟩, 
    ⟨some 25, .faddr 5 (.t 1), none⟩, 
    ⟨some 26, .load 1 false 1 (.t 25), none⟩, 
    ⟨some 27, .len (.t 26), none⟩, 
    ⟨some 28, .conv .u64 (.t 27), none⟩, 
    ⟨some 20, .call false F.gantref5_Bytes [(.t 19), (.c (.int .i64 4))], none⟩, 
    ⟨some 24, .call false F.gantref5_Bytes [(.t 23), (.c (.int .i64 4))], none⟩, 
    ⟨some 29, .call false F.gantref5_Bytes [(.t 28), (.c (.int .i64 2))], none⟩, 
    ⟨some 30, .buildS false 1 [(.t 16), (.t 20), (.t 24), (.t 29)], none⟩, 
    ⟨some 31, .call false F.slices_Concat_byte [(.t 30)], none⟩, 
    ⟨some 3, .move true (.t 31), none⟩]) (
  .seq (.seq (.region [
    ⟨some 32, .faddr 5 (.t 1), none⟩, 
    ⟨some 33, .load 2 false 1 (.t 32), none⟩, 
    ⟨some 34, .len (.t 33), none⟩, 
    ⟨some 35, .move false (.c (.int .i64 0)), none⟩]) (
  .block 0 (.loop (.seq (.region [
    ⟨some 36, .bin .lss (.t 35) (.t 34), none⟩]) (
  .seq (.cond (.t 36) (.skip) (.exit 0)) (
  .seq (.block 1 (.seq (.region [
    ⟨some 37, .iaddr 2 (.t 33) (.t 35), none⟩, 
    ⟨some 38, .load 2 true 2 (.t 37), none⟩, 
    ⟨some 5, .alloc false [(.int .i64 0), (.int .i64 0)], none⟩, 
    ⟨none, .store 2 (.t 5) (.t 38), none⟩]) (
  .region [
    ⟨some 39, .move true (.t 3), none⟩, 
    ⟨some 40, .faddr 0 (.t 5), none⟩, 
    ⟨some 41, .load 2 false 1 (.t 40), none⟩, 
    ⟨some 42, .bin .add (.t 41) (.c (.int .i64 64)), none⟩, 
    ⟨some 43, .conv .u8 (.t 42), none⟩, 
    ⟨some 44, .faddr 1 (.t 5), none⟩, 
    ⟨some 45, .load 2 false 1 (.t 44), none⟩, 
    ⟨some 46, .bin .add (.t 45) (.c (.int .i64 64)), none⟩, 
    ⟨some 47, .conv .u8 (.t 46), none⟩, 
    ⟨some 48, .buildS false 1 [(.t 43), (.t 47)], none⟩, 
    ⟨some 49, .append 1 1 (.t 39) (.t 48), none⟩, 
    ⟨some 3, .move true (.t 49), none⟩]))) (
  .region [
    ⟨some 50, .bin .add (.t 35) (.c (.int .i64 1)), none⟩, 
    ⟨some 35, .move false (.t 50), none⟩]))))))) (
  .seq (.region [
    ⟨some 51, .move false (.t 3), none⟩, 
    ⟨some 52, .move false (.t 3), none⟩, 
    ⟨some 53, .call true F.gantref5_Crc [(.t 52)], none⟩, 
    ⟨some 54, .conv .u64 (.t 53), none⟩, 
    ⟨some 55, .call true F.gantref5_Bytes [(.t 54), (.c (.int .i64 4))], none⟩, 
    ⟨some 56, .buildS false 1 [(.t 51), (.t 55)], none⟩, 
    ⟨some 57, .call true F.slices_Concat_byte [(.t 56)], none⟩, 
    ⟨some 2, .move true (.t 57), none⟩]) (
  .ret)))))
def R.gantref5_Frame : List ARes := [.t 2]
set_option maxRecDepth 100000 in
theorem K.gantref5_Frame : ckFun Try.prog Try.f75 C.gantref5_Frame R.gantref5_Frame = true := by kernel_rfl
/-- gantry/gantref5.Unframe -/
def C.gantref5_Unframe : ACode :=
  .seq (.region [
    ⟨some 2, .alloc false [(.int .i64 0), (.int .i64 0), (.int .i64 0), (.int .i64 0), (.int .u32 0), (.lst .nil [])], none⟩, 
    ⟨some 3, .move false (.c (.int .i64 0)), none⟩]) (
  .seq (.seq (.region [
    ⟨some 6, .move false (.t 0), none⟩, 
    ⟨some 7, .len (.t 6), none⟩, 
    ⟨some 8, .bin .lss (.t 7) (.c (.int .i64 17)), none⟩, 
    ⟨some 9, .move false (.t 8), none⟩, 
    ⟨some 10, .move false (.t 0), (some (9, false))⟩, 
    ⟨some 11, .len (.t 10), (some (9, false))⟩, 
    ⟨some 12, .move false (.t 0), (some (9, false))⟩, 
    ⟨some 13, .slice 1 (.t 12) (some (.c (.int .i64 11))) (some (.c (.int .i64 13))) none, (some (9, false))⟩, 
    ⟨some 14, .call true F.gantref5_Value [(.t 13)], (some (9, false))⟩, 
    ⟨some 15, .bin .mul (.c (.int .i64 2)) (.t 14), (some (9, false))⟩, 
    ⟨some 16, .bin .add (.c (.int .i64 17)) (.t 15), (some (9, false))⟩, 
    ⟨some 17, .bin .lss (.t 11) (.t 16), (some (9, false))⟩, 
    ⟨some 18, .pick (.t 9) (.c (.bool true)) (.t 17), none⟩]) (
  .cond (.t 18) (.seq (.region [
    ⟨some 19, .build [(.int .i64 0), (.int .i64 0), (.int .i64 0), (.int .i64 0), (.int .u32 0), (.lst .nil [])] [], none⟩, 
    ⟨none, .store 6 (.t 2) (.t 19), none⟩, 
    ⟨some 3, .move false (.c (.int .i64 14)), none⟩]) (
  .ret)) (.skip))) (
  .seq (.seq (.region [
    ⟨some 20, .move false (.t 0), none⟩, 
    ⟨some 21, .len (.t 20), none⟩, 
    ⟨some 22, .move false (.t 0), none⟩, 
    ⟨some 23, .slice 1 (.t 22) (some (.c (.int .i64 11))) (some (.c (.int .i64 13))) none, none⟩, 
    ⟨some 24, .call true F.gantref5_Value [(.t 23)], none⟩, 
    ⟨some 25, .bin .mul (.c (.int .i64 2)) (.t 24), none⟩, 
    ⟨some 26, .bin .add (.c (.int .i64 17)) (.t 25), none⟩, 
    ⟨some 27, .bin .neq (.t 21) (.t 26), none⟩]) (
  .cond (.t 27) (.seq (.region [
    ⟨some 28, .build [(.int .i64 0), (.int .i64 0), (.int .i64 0), (.int .i64 0), (.int .u32 0), (.lst .nil [])] [], none⟩, 
    ⟨none, .store 6 (.t 2) (.t 28), none⟩, 
    ⟨some 3, .move false (.c (.int .i64 3)), none⟩]) (
  .ret)) (.skip))) (
  .seq (.seq (.drawn [0, 1, 2, 3, 4, 6, 7, 8, 9, 10, 5, 11, 12, 13] [0, 0, 2, 6, 15, 31, 0, 0, 128, 384, 960, 2047, 4095, 8191] [
    ⟨some 29, .move false (.t 0), none⟩, 
    ⟨some 30, .move false (.t 0), none⟩, 
    ⟨some 31, .len (.t 30), none⟩, 
    ⟨some 32, .bin .sub (.t 31) (.c (.int .i64 4)), none⟩, 
    ⟨some 33, .slice 1 (.t 29) (some (.t 32)) none none, none⟩, 
    ⟨some 35, .move false (.t 0), none⟩, 
    ⟨some 36, .move false (.t 0), none⟩, 
    ⟨some 37, .len (.t 36), none⟩, 
    ⟨some 38, .bin .sub (.t 37) (.c (.int .i64 4)), none⟩, 
    ⟨some 39, .slice 1 (.t 35) none (some (.t 38)) none, none⟩, 
    ⟨some 34, .call false F.gantref5_Value [(.t 33)], none⟩, 
    ⟨some 40, .call false F.gantref5_Crc [(.t 39)], none⟩, 
    ⟨some 41, .conv .i64 (.t 40), none⟩, 
    ⟨some 42, .bin .neq (.t 34) (.t 41), none⟩]) (
  .cond (.t 42) (.seq (.region [
    ⟨some 43, .build [(.int .i64 0), (.int .i64 0), (.int .i64 0), (.int .i64 0), (.int .u32 0), (.lst .nil [])] [], none⟩, 
    ⟨none, .store 6 (.t 2) (.t 43), none⟩, 
    ⟨some 3, .move false (.c (.int .i64 13)), none⟩]) (
  .ret)) (.skip))) (
  .seq (.drawn [0, 1, 2, 3, 4, 5, 6, 7, 8, 9, 10, 11, 12, 13, 15, 16, 14, 17, 18, 19, 20, 21] [0, 1, 3, 7, 0, 16, 48, 112, 0, 256, 768, 1792, 0, 4096, 12288, 0, 32768, 126976, 258048, 524287, 0, 2097151] [
    ⟨some 44, .move false (.t 0), none⟩, 
    ⟨some 45, .iaddr 1 (.t 44) (.c (.int .i64 0)), none⟩, 
    ⟨some 46, .load 0 false 1 (.t 45), none⟩, 
    ⟨some 47, .conv .i64 (.t 46), none⟩, 
    ⟨some 48, .move false (.t 0), none⟩, 
    ⟨some 49, .iaddr 1 (.t 48) (.c (.int .i64 1)), none⟩, 
    ⟨some 50, .load 0 false 1 (.t 49), none⟩, 
    ⟨some 51, .conv .i64 (.t 50), none⟩, 
    ⟨some 52, .move false (.t 0), none⟩, 
    ⟨some 53, .iaddr 1 (.t 52) (.c (.int .i64 2)), none⟩, 
    ⟨some 54, .load 0 false 1 (.t 53), none⟩, 
    ⟨some 55, .conv .i64 (.t 54), none⟩, 
    ⟨some 56, .move false (.t 0), none⟩, 
    ⟨some 57, .slice 1 (.t 56) (some (.c (.int .i64 3))) (some (.c (.int .i64 7))) none, none⟩, 
    ⟨some 59, .move false (.t 0), none⟩, 
    ⟨some 60, .slice 1 (.t 59) (some (.c (.int .i64 7))) (some (.c (.int .i64 11))) none, none⟩, 
    ⟨some 58, .call false F.gantref5_Value [(.t 57)], none⟩, 
    ⟨some 61, .call false F.gantref5_Value [(.t 60)], none⟩, 
    ⟨some 62, .conv .u32 (.t 61), none⟩, 
    ⟨some 63, .build [(.int .i64 0), (.int .i64 0), (.int .i64 0), (.int .i64 0), (.int .u32 0), (.lst .nil [])] [(0, 1, (.t 47)), (1, 1, (.t 51)), (2, 1, (.t 55)), (3, 1, (.t 58)), (4, 1, (.t 62))], none⟩, 
    ⟨some 4, .alloc true [(.int .i64 0), (.int .i64 0), (.int .i64 0), (.int .i64 0), (.int .u32 0), (.lst .nil [])], none⟩, 
    ⟨none, .store 6 (.t 4) (.t 63), none⟩]) (
  .seq (.seq (.region [
    ⟨some 64, .move false (.t 0), none⟩, 
    ⟨some 65, .move false (.t 0), none⟩, 
    ⟨some 66, .len (.t 65), none⟩, 
    ⟨some 67, .bin .sub (.t 66) (.c (.int .i64 4)), none⟩, 
    ⟨some 68, .slice 1 (.t 64) (some (.c (.int .i64 13))) (some (.t 67)) none, none⟩, 
    ⟨some 5, .move false (.t 68), none⟩]) (
  .block 0 (.loop (.seq (.seq (.region [
    ⟨some 69, .move false (.t 5), none⟩, 
    ⟨some 70, .len (.t 69), none⟩, 
    ⟨some 71, .bin .gtr (.t 70) (.c (.int .i64 0)), none⟩]) (
  .cond (.t 71) (.skip) (.exit 0))) (
  .seq (.block 1 (.drawn [0, 2, 3, 4, 5, 6, 7, 8, 9, 10, 11, 12, 13, 1, 14, 15, 16] [0, 1, 0, 4, 12, 28, 60, 0, 128, 384, 896, 1920, 4092, 8188, 16383, 32767, 65535] [
    ⟨some 74, .faddr 5 (.t 4), none⟩, 
    ⟨some 76, .move false (.t 5), none⟩, 
    ⟨some 77, .iaddr 1 (.t 76) (.c (.int .i64 0)), none⟩, 
    ⟨some 78, .load 0 false 1 (.t 77), none⟩, 
    ⟨some 79, .conv .i64 (.t 78), none⟩, 
    ⟨some 80, .bin .sub (.t 79) (.c (.int .i64 64)), none⟩, 
    ⟨some 81, .move false (.t 5), none⟩, 
    ⟨some 82, .iaddr 1 (.t 81) (.c (.int .i64 1)), none⟩, 
    ⟨some 83, .load 0 false 1 (.t 82), none⟩, 
    ⟨some 84, .conv .i64 (.t 83), none⟩, 
    ⟨some 85, .bin .sub (.t 84) (.c (.int .i64 64)), none⟩, 
    ⟨some 86, .build [(.int .i64 0), (.int .i64 0)] [(0, 1, (.t 80)), (1, 1, (.t 85))], none⟩, 
    ⟨some 87, .buildS false 2 [(.t 86)], none⟩, 
    ⟨some 75, .loadT (.t 74), none⟩, 
    ⟨some 88, .append 2 16 (.t 75) (.t 87), none⟩, 
    ⟨some 89, .faddr 5 (.t 4), none⟩, 
    ⟨none, .store 1 (.t 89) (.t 88), none⟩])) (
  .region [
    ⟨some 72, .move false (.t 5), none⟩, 
    ⟨some 73, .slice 1 (.t 72) (some (.c (.int .i64 2))) none none, none⟩, 
    ⟨some 5, .move false (.t 73), none⟩])))))) (
  .seq (.region [
    ⟨some 90, .load 2 true 6 (.t 4), none⟩, 
    ⟨none, .store 6 (.t 2) (.t 90), none⟩, 
    ⟨some 3, .move false (.c (.int .i64 0)), none⟩]) (
  .ret)))))))
def R.gantref5_Unframe : List ARes := [.c 2 true 6, .t 3]
set_option maxRecDepth 100000 in
theorem K.gantref5_Unframe : ckFun Try.prog Try.f76 C.gantref5_Unframe R.gantref5_Unframe = true := by kernel_rfl
/-- gantry/gantlaw5.MsgTells -/
def C.gantlaw5_MsgTells : ACode :=
  .seq (.region [
    ⟨some 2, .bx true (.t 0), none⟩, 
    ⟨some 4, .move false (.c (.bool false)), none⟩]) (
  .seq (.region [
    ⟨some 15, .build [(.int .i64 0), (.int .i64 0), (.int .i64 0), (.int .i64 0), (.int .u32 0), (.lst .nil [])] [(0, 1, (.c (.int .i64 3))), (1, 1, (.c (.int .i64 1))), (2, 1, (.c (.int .i64 0))), (3, 1, (.c (.int .i64 7)))], none⟩, 
    ⟨some 5, .alloc false [(.int .i64 0), (.int .i64 0), (.int .i64 0), (.int .i64 0), (.int .u32 0), (.lst .nil [])], none⟩, 
    ⟨none, .store 6 (.t 5) (.t 15), none⟩]) (
  .seq (.seq (.region [
    ⟨some 17, .load 2 true 6 (.t 5), none⟩, 
    ⟨some 18, .call true F.msg_Write [(.t 17)], none⟩, 
    ⟨some 16, .move false (.t 18), none⟩, 
    ⟨some 19, .ext 0 (.t 16), none⟩, 
    ⟨some 20, .ext 1 (.t 16), none⟩, 
    ⟨some 6, .move false (.t 19), none⟩, 
    ⟨some 7, .move false (.t 20), none⟩]) (
  .seq (.region [
    ⟨some 21, .move false (.t 7), none⟩, 
    ⟨some 22, .bin .neq (.t 21) (.c (.int .i64 0)), none⟩, 
    ⟨some 23, .move false (.t 22), none⟩, 
    ⟨some 24, .move false (.t 6), (some (23, false))⟩, 
    ⟨some 25, .len (.t 24), (some (23, false))⟩, 
    ⟨some 26, .bin .neq (.t 25) (.c (.int .i64 17)), (some (23, false))⟩, 
    ⟨some 27, .pick (.t 23) (.c (.bool true)) (.t 26), none⟩]) (
  .cond (.t 27) (.seq (.region [
    ⟨some 4, .move false (.c (.bool false)), none⟩]) (
  .ret)) (.skip)))) (
  .seq (.region [
    ⟨some 28, .load 2 true 6 (.t 2), none⟩, 
    ⟨some 29, .call true F.gantref5_MsgFault [(.t 28)], none⟩, 
    ⟨some 8, .move false (.t 29), none⟩]) (
  .seq (.seq (.region [
    ⟨some 30, .move false (.t 8), none⟩, 
    ⟨some 31, .bin .eql (.t 30) (.c (.int .i64 0)), none⟩]) (
  .cond (.t 31) (.region [
    ⟨some 32, .faddr 5 (.t 2), none⟩, 
    ⟨some 33, .load 2 false 1 (.t 32), none⟩, 
    ⟨some 34, .call true F.gantref5_CellsFault [(.t 33)], none⟩, 
    ⟨some 8, .move false (.t 34), none⟩]) (.skip))) (
  .seq (.region [
    ⟨some 36, .load 2 true 6 (.t 2), none⟩, 
    ⟨some 37, .call true F.msg_Write [(.t 36)], none⟩, 
    ⟨some 35, .move false (.t 37), none⟩, 
    ⟨some 38, .ext 0 (.t 35), none⟩, 
    ⟨some 39, .ext 1 (.t 35), none⟩, 
    ⟨some 9, .move false (.t 38), none⟩, 
    ⟨some 10, .move false (.t 39), none⟩]) (
  .seq (.seq (.region [
    ⟨some 40, .load 2 true 6 (.t 2), none⟩, 
    ⟨some 41, .call true F.msg_Check [(.t 40)], none⟩, 
    ⟨some 42, .move false (.t 8), none⟩, 
    ⟨some 43, .bin .neq (.t 41) (.t 42), none⟩, 
    ⟨some 44, .move false (.t 43), none⟩, 
    ⟨some 45, .move false (.t 10), (some (44, false))⟩, 
    ⟨some 46, .move false (.t 8), (some (44, false))⟩, 
    ⟨some 47, .bin .neq (.t 45) (.t 46), (some (44, false))⟩, 
    ⟨some 48, .pick (.t 44) (.c (.bool true)) (.t 47), none⟩, 
    ⟨some 49, .move false (.t 48), none⟩, 
    ⟨some 50, .move false (.t 8), (some (49, false))⟩, 
    ⟨some 51, .bin .neq (.t 50) (.c (.int .i64 0)), (some (49, false))⟩, 
    ⟨some 52, .move false (.t 51), (some (49, false))⟩, 
    ⟨some 53, .move false (.t 9), (some (52, true))⟩, 
    ⟨some 54, .len (.t 53), (some (52, true))⟩, 
    ⟨some 55, .bin .gtr (.t 54) (.c (.int .i64 0)), (some (52, true))⟩, 
    ⟨some 56, .pick (.t 52) (.t 55) (.c (.bool false)), (some (49, false))⟩, 
    ⟨some 57, .pick (.t 49) (.c (.bool true)) (.t 56), none⟩, 
    ⟨some 58, .move false (.t 57), none⟩, 
    ⟨some 59, .move false (.t 8), (some (58, false))⟩, 
    ⟨some 60, .bin .eql (.t 59) (.c (.int .i64 0)), (some (58, false))⟩, 
    ⟨some 61, .move false (.t 60), (some (58, false))⟩, 
    ⟨some 62, .move false (.t 9), (some (61, true))⟩, 
    ⟨some 63, .load 2 true 6 (.t 2), (some (61, true))⟩, 
    ⟨some 64, .call true F.gantref5_Frame [(.t 63)], (some (61, true))⟩, 
    ⟨some 65, .call true F.slices_Equal_byte [(.t 62), (.t 64)], (some (61, true))⟩, 
    ⟨some 66, .un .not (.t 65), (some (61, true))⟩, 
    ⟨some 67, .pick (.t 61) (.t 66) (.c (.bool false)), (some (58, false))⟩, 
    ⟨some 68, .pick (.t 58) (.c (.bool true)) (.t 67), none⟩]) (
  .cond (.t 68) (.seq (.region [
    ⟨some 4, .move false (.c (.bool false)), none⟩]) (
  .ret)) (.skip))) (
  .seq (.region [
    ⟨some 70, .move false (.t 1), none⟩, 
    ⟨some 71, .call true F.gantref5_Unframe [(.t 70)], none⟩, 
    ⟨some 69, .moveX 71, none⟩, 
    ⟨some 72, .extT 0 69, none⟩, 
    ⟨some 73, .ext 1 (.t 69), none⟩, 
    ⟨some 11, .alloc false [(.int .i64 0), (.int .i64 0), (.int .i64 0), (.int .i64 0), (.int .u32 0), (.lst .nil [])], none⟩, 
    ⟨none, .store 6 (.t 11) (.t 72), none⟩, 
    ⟨some 12, .move false (.t 73), none⟩]) (
  .seq (.seq (.region [
    ⟨some 74, .move false (.t 12), none⟩, 
    ⟨some 75, .bin .eql (.t 74) (.c (.int .i64 0)), none⟩]) (
  .cond (.t 75) (.region [
    ⟨some 76, .load 2 true 6 (.t 11), none⟩, 
    ⟨some 77, .call true F.gantref5_MsgFault [(.t 76)], none⟩, 
    ⟨some 12, .move false (.t 77), none⟩]) (.skip))) (
  .seq (.seq (.region [
    ⟨some 78, .move false (.t 12), none⟩, 
    ⟨some 79, .bin .eql (.t 78) (.c (.int .i64 0)), none⟩]) (
  .cond (.t 79) (.region [
    ⟨some 80, .faddr 5 (.t 11), none⟩, 
    ⟨some 81, .load 2 false 1 (.t 80), none⟩, 
    ⟨some 82, .call true F.gantref5_CellsFault [(.t 81)], none⟩, 
    ⟨some 12, .move false (.t 82), none⟩]) (.skip))) (
  .seq (.region [
    ⟨some 84, .move false (.t 1), none⟩, 
    ⟨some 85, .call true F.msg_Read [(.t 84)], none⟩, 
    ⟨some 83, .moveX 85, none⟩, 
    ⟨some 86, .extT 0 83, none⟩, 
    ⟨some 87, .ext 1 (.t 83), none⟩, 
    ⟨some 13, .alloc false [(.int .i64 0), (.int .i64 0), (.int .i64 0), (.int .i64 0), (.int .u32 0), (.lst .nil [])], none⟩, 
    ⟨none, .store 6 (.t 13) (.t 86), none⟩, 
    ⟨some 14, .move false (.t 87), none⟩]) (
  .seq (.seq (.region [
    ⟨some 88, .move false (.t 12), none⟩, 
    ⟨some 89, .bin .neq (.t 88) (.c (.int .i64 0)), none⟩]) (
  .cond (.t 89) (.seq (.region [
    ⟨some 90, .move false (.t 14), none⟩, 
    ⟨some 91, .move false (.t 12), none⟩, 
    ⟨some 92, .bin .eql (.t 90) (.t 91), none⟩, 
    ⟨some 93, .move false (.t 92), none⟩, 
    ⟨some 94, .load 2 true 6 (.t 13), (some (93, true))⟩, 
    ⟨some 95, .build [(.int .i64 0), (.int .i64 0), (.int .i64 0), (.int .i64 0), (.int .u32 0), (.lst .nil [])] [], (some (93, true))⟩, 
    ⟨some 96, .call true F.msg_Same [(.t 94), (.t 95)], (some (93, true))⟩, 
    ⟨some 97, .pick (.t 93) (.t 96) (.c (.bool false)), none⟩, 
    ⟨some 4, .move false (.t 97), none⟩]) (
  .ret)) (.skip))) (
  .seq (.region [
    ⟨some 98, .move false (.t 14), none⟩, 
    ⟨some 99, .bin .eql (.t 98) (.c (.int .i64 0)), none⟩, 
    ⟨some 100, .move false (.t 99), none⟩, 
    ⟨some 101, .load 2 true 6 (.t 11), (some (100, true))⟩, 
    ⟨some 102, .load 2 true 6 (.t 13), (some (100, true))⟩, 
    ⟨some 103, .call true F.msg_Same [(.t 101), (.t 102)], (some (100, true))⟩, 
    ⟨some 104, .pick (.t 100) (.t 103) (.c (.bool false)), none⟩, 
    ⟨some 105, .move false (.t 104), none⟩, 
    ⟨some 106, .load 2 true 6 (.t 11), (some (105, true))⟩, 
    ⟨some 107, .load 2 true 6 (.t 13), (some (105, true))⟩, 
    ⟨some 108, .call true F.gantlaw5_same [(.t 106), (.t 107)], (some (105, true))⟩, 
    ⟨some 109, .pick (.t 105) (.t 108) (.c (.bool false)), none⟩, 
    ⟨some 110, .move false (.t 109), none⟩, 
    ⟨some 111, .move false (.t 1), (some (110, true))⟩, 
    ⟨some 112, .call true F.msg_Sum [(.t 111)], (some (110, true))⟩, 
    ⟨some 113, .move false (.t 1), (some (110, true))⟩, 
    ⟨some 114, .call true F.gantref5_Crc [(.t 113)], (some (110, true))⟩, 
    ⟨some 115, .bin .eql (.t 112) (.t 114), (some (110, true))⟩, 
    ⟨some 116, .pick (.t 110) (.t 115) (.c (.bool false)), none⟩, 
    ⟨some 4, .move false (.t 116), none⟩]) (
  .ret)))))))))))))
def R.gantlaw5_MsgTells : List ARes := [.t 4]
set_option maxRecDepth 100000 in
theorem K.gantlaw5_MsgTells : ckFun Try.prog Try.f10 C.gantlaw5_MsgTells R.gantlaw5_MsgTells = true := by kernel_rfl
end Go.Proofs.Ytpdajkbfemcdlaa
