/- Annotated code of functions, checked against the program. -/
import Derived.Test.YtpdajkbfemcdlaaGeD
import Derived.Test.YtpdajkbfemcdlaaChecked
import Derived.Test.YtpdajkbfemcdlaaFn
import Derived.KernelRfl
namespace Go.Proofs.Ytpdajkbfemcdlaa
open Go.Ge
/-- slices.Grow[[]byte,byte] -/
def C.slices_Grow_byte : ACode :=
  .seq (.region [
    ⟨some 4, .move false (.c (.lst .nil [])), none⟩]) (
  .seq (.seq (.region [
    ⟨some 5, .move false (.t 1), none⟩, 
    ⟨some 6, .bin .lss (.t 5) (.c (.int .i64 0)), none⟩]) (
  .cond (.t 6) (.region [
    ⟨some 7, .refuse, none⟩, 
    ⟨none, .refuse, none⟩]) (.skip))) (
  .seq (.seq (.region [
    ⟨some 8, .move false (.t 1), none⟩, 
    ⟨some 9, .move false (.t 0), none⟩, 
    ⟨some 10, .capR (.t 9), none⟩, 
    ⟨some 11, .move false (.t 0), none⟩, 
    ⟨some 12, .len (.t 11), none⟩, 
    ⟨some 13, .bin .sub (.t 10) (.t 12), none⟩, 
    ⟨some 14, .bin .sub (.t 8) (.t 13), none⟩, 
    ⟨some 1, .move false (.t 14), none⟩]) (
  .seq (.region [
    ⟨some 15, .move false (.t 1), none⟩, 
    ⟨some 16, .bin .gtr (.t 15) (.c (.int .i64 0)), none⟩]) (
  .cond (.t 16) (.region [
    ⟨some 17, .move false (.t 0), none⟩, 
    ⟨some 18, .move false (.t 0), none⟩, 
    ⟨some 19, .capR (.t 18), none⟩, 
    ⟨some 20, .slnil (.t 17) (.t 19), none⟩, 
    ⟨some 21, .move false (.t 1), none⟩, 
    ⟨some 22, .hop (.appendZ 1 1 (.t 20) (.t 21)), none⟩, 
    ⟨some 23, .move false (.t 0), none⟩, 
    ⟨some 24, .len (.t 23), none⟩, 
    ⟨some 25, .slice 1 (.t 22) none (some (.t 24)) none, none⟩, 
    ⟨some 0, .move false (.t 25), none⟩]) (.skip)))) (
  .seq (.region [
    ⟨some 26, .move false (.t 0), none⟩, 
    ⟨some 4, .move false (.t 26), none⟩]) (
  .own 4 false 1 (.ret)))))
def R.slices_Grow_byte : List ARes := [.t 4]
set_option maxRecDepth 100000 in
theorem K.slices_Grow_byte : ckFun Try.prog Try.f160 C.slices_Grow_byte R.slices_Grow_byte = true := by kernel_rfl
/-- slices.Concat[[]byte,byte] -/
def C.slices_Concat_byte : ACode :=
  .seq (.region [
    ⟨some 2, .move false (.c (.lst .nil [])), none⟩]) (
  .seq (.region [
    ⟨some 3, .move false (.c (.int .i64 0)), none⟩]) (
  .seq (.seq (.region [
    ⟨some 9, .move false (.t 0), none⟩, 
    ⟨some 10, .len (.t 9), none⟩, 
    ⟨some 11, .move false (.c (.int .i64 0)), none⟩]) (
  .block 0 (.loop (.seq (.region [
    ⟨some 12, .bin .lss (.t 11) (.t 10), none⟩]) (
  .seq (.cond (.t 12) (.skip) (.exit 0)) (
  .seq (.block 1 (.seq (.region [
    ⟨some 13, .iaddr 1 (.t 9) (.t 11), none⟩, 
    ⟨some 14, .load 2 false 1 (.t 13), none⟩, 
    ⟨some 5, .move false (.t 14), none⟩]) (
  .seq (.region [
    ⟨some 15, .move false (.t 3), none⟩, 
    ⟨some 16, .move false (.t 5), none⟩, 
    ⟨some 17, .len (.t 16), none⟩, 
    ⟨some 18, .bin .add (.t 15) (.t 17), none⟩, 
    ⟨some 3, .move false (.t 18), none⟩]) (
  .seq (.region [
    ⟨some 19, .move false (.t 3), none⟩, 
    ⟨some 20, .bin .lss (.t 19) (.c (.int .i64 0)), none⟩]) (
  .cond (.t 20) (.region [
    ⟨some 21, .refuse, none⟩, 
    ⟨none, .refuse, none⟩]) (.skip)))))) (
  .region [
    ⟨some 22, .bin .add (.t 11) (.c (.int .i64 1)), none⟩, 
    ⟨some 11, .move false (.t 22), none⟩]))))))) (
  .seq (.region [
    ⟨some 23, .move false (.t 3), none⟩, 
    ⟨some 24, .call true F.slices_Grow_byte [(.c (.lst .nil [])), (.t 23)], none⟩, 
    ⟨some 6, .move true (.t 24), none⟩]) (
  .seq (.seq (.region [
    ⟨some 25, .move false (.t 0), none⟩, 
    ⟨some 26, .len (.t 25), none⟩, 
    ⟨some 27, .move false (.c (.int .i64 0)), none⟩]) (
  .block 2 (.loop (.seq (.region [
    ⟨some 28, .bin .lss (.t 27) (.t 26), none⟩]) (
  .seq (.cond (.t 28) (.skip) (.exit 2)) (
  .seq (.block 3 (.seq (.region [
    ⟨some 29, .iaddr 1 (.t 25) (.t 27), none⟩, 
    ⟨some 30, .load 2 false 1 (.t 29), none⟩, 
    ⟨some 8, .move false (.t 30), none⟩]) (
  .region [
    ⟨some 31, .move true (.t 6), none⟩, 
    ⟨some 32, .move false (.t 8), none⟩, 
    ⟨some 33, .append 1 1 (.t 31) (.t 32), none⟩, 
    ⟨some 6, .move true (.t 33), none⟩]))) (
  .region [
    ⟨some 34, .bin .add (.t 27) (.c (.int .i64 1)), none⟩, 
    ⟨some 27, .move false (.t 34), none⟩]))))))) (
  .seq (.region [
    ⟨some 35, .move true (.t 6), none⟩, 
    ⟨some 2, .move true (.t 35), none⟩]) (
  .ret))))))
def R.slices_Concat_byte : List ARes := [.t 2]
set_option maxRecDepth 100000 in
theorem K.slices_Concat_byte : ckFun Try.prog Try.f79 C.slices_Concat_byte R.slices_Concat_byte = true := by kernel_rfl
/-- gantry/log.scan -/
def C.log_scan : ACode :=
  .seq (.region [
    ⟨some 2, .move false (.c (.lst .nil [])), none⟩, 
    ⟨some 3, .move false (.c (.int .i64 0)), none⟩, 
    ⟨some 4, .move false (.c (.int .u32 0)), none⟩]) (
  .block 0 (.loop (.block 1 (.seq (.region [
    ⟨some 9, .move false (.t 0), none⟩, 
    ⟨some 10, .move false (.t 3), none⟩, 
    ⟨some 11, .slice 1 (.t 9) (some (.t 10)) none none, none⟩, 
    ⟨some 5, .move false (.t 11), none⟩]) (
  .seq (.seq (.region [
    ⟨some 12, .move false (.t 5), none⟩, 
    ⟨some 13, .len (.t 12), none⟩, 
    ⟨some 14, .bin .lss (.t 13) (.c (.int .i64 6)), none⟩]) (
  .cond (.t 14) (.seq (.region [
    ⟨some 15, .move true (.t 2), none⟩, 
    ⟨some 16, .move false (.t 3), none⟩, 
    ⟨some 17, .move false (.t 4), none⟩, 
    ⟨some 2, .move true (.t 15), none⟩, 
    ⟨some 3, .move false (.t 16), none⟩, 
    ⟨some 4, .move false (.t 17), none⟩]) (
  .ret)) (.skip))) (
  .seq (.drawn [0, 1, 2, 3, 4, 5, 6, 7, 8, 9, 10] [0, 1, 3, 7, 15, 0, 32, 96, 224, 511, 1023] [
    ⟨some 18, .move false (.t 5), none⟩, 
    ⟨some 19, .iaddr 1 (.t 18) (.c (.int .i64 0)), none⟩, 
    ⟨some 20, .load 0 false 1 (.t 19), none⟩, 
    ⟨some 21, .conv .i64 (.t 20), none⟩, 
    ⟨some 22, .bin .shl (.t 21) (.c (.int .u64 8)), none⟩, 
    ⟨some 23, .move false (.t 5), none⟩, 
    ⟨some 24, .iaddr 1 (.t 23) (.c (.int .i64 1)), none⟩, 
    ⟨some 25, .load 0 false 1 (.t 24), none⟩, 
    ⟨some 26, .conv .i64 (.t 25), none⟩, 
    ⟨some 27, .bin .or (.t 22) (.t 26), none⟩, 
    ⟨some 6, .move false (.t 27), none⟩]) (
  .seq (.seq (.region [
    ⟨some 28, .move false (.t 6), none⟩, 
    ⟨some 29, .bin .gtr (.t 28) (.c (.int .i64 2000)), none⟩, 
    ⟨some 30, .move false (.t 29), none⟩, 
    ⟨some 31, .move false (.t 5), (some (30, false))⟩, 
    ⟨some 32, .len (.t 31), (some (30, false))⟩, 
    ⟨some 33, .move false (.t 6), (some (30, false))⟩, 
    ⟨some 34, .bin .add (.c (.int .i64 6)) (.t 33), (some (30, false))⟩, 
    ⟨some 35, .bin .lss (.t 32) (.t 34), (some (30, false))⟩, 
    ⟨some 36, .pick (.t 30) (.c (.bool true)) (.t 35), none⟩]) (
  .cond (.t 36) (.seq (.region [
    ⟨some 37, .move true (.t 2), none⟩, 
    ⟨some 38, .move false (.t 3), none⟩, 
    ⟨some 39, .move false (.t 4), none⟩, 
    ⟨some 2, .move true (.t 37), none⟩, 
    ⟨some 3, .move false (.t 38), none⟩, 
    ⟨some 4, .move false (.t 39), none⟩]) (
  .ret)) (.skip))) (
  .seq (.region [
    ⟨some 40, .move false (.t 5), none⟩, 
    ⟨some 41, .move false (.t 6), none⟩, 
    ⟨some 42, .bin .add (.c (.int .i64 2)) (.t 41), none⟩, 
    ⟨some 43, .slice 1 (.t 40) (some (.c (.int .i64 2))) (some (.t 42)) none, none⟩, 
    ⟨some 7, .move false (.t 43), none⟩]) (
  .seq (.region [
    ⟨some 44, .move false (.t 4), none⟩, 
    ⟨some 45, .move false (.t 7), none⟩, 
    ⟨some 46, .call true F.log_sum [(.t 44), (.t 45)], none⟩, 
    ⟨some 8, .move false (.t 46), none⟩]) (
  .seq (.seq (.drawn [0, 1, 2, 3, 4, 5, 6, 7, 8, 9] [0, 0, 2, 0, 8, 31, 0, 64, 255, 511] [
    ⟨some 47, .move false (.t 5), none⟩, 
    ⟨some 48, .move false (.t 6), none⟩, 
    ⟨some 49, .bin .add (.c (.int .i64 2)) (.t 48), none⟩, 
    ⟨some 50, .move false (.t 6), none⟩, 
    ⟨some 51, .bin .add (.c (.int .i64 6)) (.t 50), none⟩, 
    ⟨some 52, .slice 1 (.t 47) (some (.t 49)) (some (.t 51)) none, none⟩, 
    ⟨some 53, .move false (.t 8), none⟩, 
    ⟨some 54, .call false F.log_four [(.t 53)], none⟩, 
    ⟨some 55, .call false F.slices_Equal_byte [(.t 52), (.t 54)], none⟩, 
    ⟨some 56, .un .not (.t 55), none⟩]) (
  .cond (.t 56) (.seq (.region [
    ⟨some 57, .move true (.t 2), none⟩, 
    ⟨some 58, .move false (.t 3), none⟩, 
    ⟨some 59, .move false (.t 4), none⟩, 
    ⟨some 2, .move true (.t 57), none⟩, 
    ⟨some 3, .move false (.t 58), none⟩, 
    ⟨some 4, .move false (.t 59), none⟩]) (
  .ret)) (.skip))) (
  .region [
    ⟨some 60, .move true (.t 2), none⟩, 
    ⟨some 61, .buildS false 1 [], none⟩, 
    ⟨some 62, .move false (.t 7), none⟩, 
    ⟨some 63, .append 1 1 (.t 61) (.t 62), none⟩, 
    ⟨some 64, .buildS false 1 [(.t 63)], none⟩, 
    ⟨some 65, .append 1 24 (.t 60) (.t 64), none⟩, 
    ⟨some 66, .move false (.t 3), none⟩, 
    ⟨some 67, .bin .add (.t 66) (.c (.int .i64 6)), none⟩, 
    ⟨some 68, .move false (.t 6), none⟩, 
    ⟨some 69, .bin .add (.t 67) (.t 68), none⟩, 
    ⟨some 70, .move false (.t 8), none⟩, 
    ⟨some 2, .move true (.t 65), none⟩, 
    ⟨some 3, .move false (.t 69), none⟩, 
    ⟨some 4, .move false (.t 70), none⟩])))))))))))
def R.log_scan : List ARes := [.t 2, .t 3, .t 4]
set_option maxRecDepth 100000 in
theorem K.log_scan : ckFun Try.prog Try.f151 C.log_scan R.log_scan = true := by kernel_rfl
/-- gantry/log.four -/
def C.log_four : ACode :=
  .seq (.region [
    ⟨some 2, .move false (.c (.lst .nil [])), none⟩]) (
  .seq (.region [
    ⟨some 3, .move false (.t 0), none⟩, 
    ⟨some 4, .bin .shr (.t 3) (.c (.int .u64 24)), none⟩, 
    ⟨some 5, .conv .u8 (.t 4), none⟩, 
    ⟨some 6, .move false (.t 0), none⟩, 
    ⟨some 7, .bin .shr (.t 6) (.c (.int .u64 16)), none⟩, 
    ⟨some 8, .conv .u8 (.t 7), none⟩, 
    ⟨some 9, .move false (.t 0), none⟩, 
    ⟨some 10, .bin .shr (.t 9) (.c (.int .u64 8)), none⟩, 
    ⟨some 11, .conv .u8 (.t 10), none⟩, 
    ⟨some 12, .move false (.t 0), none⟩, 
    ⟨some 13, .conv .u8 (.t 12), none⟩, 
    ⟨some 14, .buildS false 1 [(.t 5), (.t 8), (.t 11), (.t 13)], none⟩, 
    ⟨some 2, .move true (.t 14), none⟩]) (
  .ret))
def R.log_four : List ARes := [.t 2]
set_option maxRecDepth 100000 in
theorem K.log_four : ckFun Try.prog Try.f152 C.log_four R.log_four = true := by kernel_rfl
/-- gantry/log.sum -/
def C.log_sum : ACode :=
  .seq (.region [
    ⟨some 4, .move false (.c (.int .u32 0)), none⟩]) (
  .seq (.region [
    ⟨some 5, .move false (.t 0), none⟩, 
    ⟨some 6, .call true F.log_four [(.t 5)], none⟩, 
    ⟨some 7, .move false (.t 1), none⟩, 
    ⟨some 8, .len (.t 7), none⟩, 
    ⟨some 9, .bin .shr (.t 8) (.c (.int .u64 8)), none⟩, 
    ⟨some 10, .conv .u8 (.t 9), none⟩, 
    ⟨some 11, .move false (.t 1), none⟩, 
    ⟨some 12, .len (.t 11), none⟩, 
    ⟨some 13, .conv .u8 (.t 12), none⟩, 
    ⟨some 14, .buildS false 1 [(.t 10), (.t 13)], none⟩, 
    ⟨some 15, .move false (.t 1), none⟩, 
    ⟨some 16, .buildS false 1 [(.t 6), (.t 14), (.t 15)], none⟩, 
    ⟨some 17, .call true F.slices_Concat_byte [(.t 16)], none⟩, 
    ⟨some 18, .call true F.msg_Sum [(.t 17)], none⟩, 
    ⟨some 4, .move false (.t 18), none⟩]) (
  .ret))
def R.log_sum : List ARes := [.t 4]
set_option maxRecDepth 100000 in
theorem K.log_sum : ckFun Try.prog Try.f153 C.log_sum R.log_sum = true := by kernel_rfl
/-- gantry/log.Read -/
def C.log_Read : ACode :=
  .seq (.region [
    ⟨some 2, .move false (.c (.lst .nil [])), none⟩, 
    ⟨some 3, .move false (.c (.int .i64 0)), none⟩]) (
  .seq (.region [
    ⟨some 8, .move false (.t 0), none⟩, 
    ⟨some 9, .call true F.log_scan [(.t 8)], none⟩, 
    ⟨some 7, .moveX 9, none⟩, 
    ⟨some 10, .extT 0 7, none⟩, 
    ⟨some 11, .ext 1 (.t 7), none⟩, 
    ⟨some 12, .ext 2 (.t 7), none⟩, 
    ⟨some 4, .move true (.t 10), none⟩, 
    ⟨some 5, .move false (.t 11), none⟩, 
    ⟨some 6, .move false (.t 12), none⟩]) (
  .seq (.region [
    ⟨some 13, .move true (.t 4), none⟩, 
    ⟨some 14, .move false (.t 5), none⟩, 
    ⟨some 2, .move true (.t 13), none⟩, 
    ⟨some 3, .move false (.t 14), none⟩]) (
  .ret)))
def R.log_Read : List ARes := [.t 2, .t 3]
set_option maxRecDepth 100000 in
theorem K.log_Read : ckFun Try.prog Try.f63 C.log_Read R.log_Read = true := by kernel_rfl
/-- gantry/log.Add -/
def C.log_Add : ACode :=
  .seq (.region [
    ⟨some 4, .move false (.c (.lst .nil [])), none⟩, 
    ⟨some 5, .move false (.c (.int .i64 0)), none⟩]) (
  .seq (.seq (.region [
    ⟨some 10, .move false (.t 1), none⟩, 
    ⟨some 11, .len (.t 10), none⟩, 
    ⟨some 12, .bin .gtr (.t 11) (.c (.int .i64 2000)), none⟩]) (
  .cond (.t 12) (.seq (.region [
    ⟨some 4, .move false (.c (.lst .nil [])), none⟩, 
    ⟨some 5, .move false (.c (.int .i64 2)), none⟩]) (
  .ret)) (.skip))) (
  .seq (.region [
    ⟨some 14, .move false (.t 0), none⟩, 
    ⟨some 15, .call true F.log_scan [(.t 14)], none⟩, 
    ⟨some 13, .move false (.t 15), none⟩, 
    ⟨some 16, .ext 0 (.t 13), none⟩, 
    ⟨some 17, .ext 1 (.t 13), none⟩, 
    ⟨some 18, .ext 2 (.t 13), none⟩, 
    ⟨some 6, .move false (.t 16), none⟩, 
    ⟨some 7, .move false (.t 17), none⟩, 
    ⟨some 8, .move false (.t 18), none⟩]) (
  .seq (.seq (.region [
    ⟨some 19, .move false (.t 7), none⟩, 
    ⟨some 20, .bin .add (.t 19) (.c (.int .i64 6)), none⟩, 
    ⟨some 21, .move false (.t 1), none⟩, 
    ⟨some 22, .len (.t 21), none⟩, 
    ⟨some 23, .bin .add (.t 20) (.t 22), none⟩, 
    ⟨some 24, .bin .gtr (.t 23) (.c (.int .i64 100000)), none⟩]) (
  .cond (.t 24) (.seq (.region [
    ⟨some 4, .move false (.c (.lst .nil [])), none⟩, 
    ⟨some 5, .move false (.c (.int .i64 6)), none⟩]) (
  .ret)) (.skip))) (
  .seq (.region [
    ⟨some 25, .buildS false 1 [], none⟩, 
    ⟨some 26, .move false (.t 0), none⟩, 
    ⟨some 27, .move false (.t 7), none⟩, 
    ⟨some 28, .slice 1 (.t 26) none (some (.t 27)) none, none⟩, 
    ⟨some 29, .append 1 1 (.t 25) (.t 28), none⟩, 
    ⟨some 9, .move true (.t 29), none⟩]) (
  .seq (.region [
    ⟨some 30, .move true (.t 9), none⟩, 
    ⟨some 31, .move false (.t 1), none⟩, 
    ⟨some 32, .len (.t 31), none⟩, 
    ⟨some 33, .bin .shr (.t 32) (.c (.int .u64 8)), none⟩, 
    ⟨some 34, .conv .u8 (.t 33), none⟩, 
    ⟨some 35, .move false (.t 1), none⟩, 
    ⟨some 36, .len (.t 35), none⟩, 
    ⟨some 37, .conv .u8 (.t 36), none⟩, 
    ⟨some 38, .buildS false 1 [(.t 34), (.t 37)], none⟩, 
    ⟨some 39, .append 1 1 (.t 30) (.t 38), none⟩, 
    ⟨some 9, .move true (.t 39), none⟩]) (
  .seq (.region [
    ⟨some 40, .move true (.t 9), none⟩, 
    ⟨some 41, .move false (.t 1), none⟩, 
    ⟨some 42, .append 1 1 (.t 40) (.t 41), none⟩, 
    ⟨some 9, .move true (.t 42), none⟩]) (
  .seq (.region [
    ⟨some 43, .move true (.t 9), none⟩, 
    ⟨some 44, .move false (.t 8), none⟩, 
    ⟨some 45, .move false (.t 1), none⟩, 
    ⟨some 46, .call true F.log_sum [(.t 44), (.t 45)], none⟩, 
    ⟨some 47, .call true F.log_four [(.t 46)], none⟩, 
    ⟨some 48, .append 1 1 (.t 43) (.t 47), none⟩, 
    ⟨some 4, .move true (.t 48), none⟩, 
    ⟨some 5, .move false (.c (.int .i64 0)), none⟩]) (
  .ret))))))))
def R.log_Add : List ARes := [.t 4, .t 5]
set_option maxRecDepth 100000 in
theorem K.log_Add : ckFun Try.prog Try.f61 C.log_Add R.log_Add = true := by kernel_rfl
/-- gantry/log.All -/
def C.log_All : ACode :=
  .seq (.region [
    ⟨some 2, .move false (.c (.lst .nil [])), none⟩, 
    ⟨some 3, .move false (.c (.int .i64 0)), none⟩]) (
  .seq (.region [
    ⟨some 4, .move false (.c (.lst .nil [])), none⟩]) (
  .seq (.seq (.region [
    ⟨some 9, .move false (.t 0), none⟩, 
    ⟨some 10, .len (.t 9), none⟩, 
    ⟨some 11, .move false (.c (.int .i64 0)), none⟩]) (
  .block 0 (.loop (.seq (.region [
    ⟨some 12, .bin .lss (.t 11) (.t 10), none⟩]) (
  .seq (.cond (.t 12) (.skip) (.exit 0)) (
  .seq (.block 1 (.seq (.region [
    ⟨some 13, .iaddr 1 (.t 9) (.t 11), none⟩, 
    ⟨some 14, .load 2 false 1 (.t 13), none⟩, 
    ⟨some 6, .move false (.t 14), none⟩]) (
  .seq (.region [
    ⟨some 16, .move false (.t 4), none⟩, 
    ⟨some 17, .move false (.t 6), none⟩, 
    ⟨some 18, .call true F.log_Add [(.t 16), (.t 17)], none⟩, 
    ⟨some 15, .moveX 18, none⟩, 
    ⟨some 19, .extT 0 15, none⟩, 
    ⟨some 20, .ext 1 (.t 15), none⟩, 
    ⟨some 7, .move true (.t 19), none⟩, 
    ⟨some 8, .move false (.t 20), none⟩]) (
  .seq (.seq (.region [
    ⟨some 21, .move false (.t 8), none⟩, 
    ⟨some 22, .bin .neq (.t 21) (.c (.int .i64 0)), none⟩]) (
  .cond (.t 22) (.seq (.region [
    ⟨some 23, .move false (.t 8), none⟩, 
    ⟨some 2, .move false (.c (.lst .nil [])), none⟩, 
    ⟨some 3, .move false (.t 23), none⟩]) (
  .ret)) (.skip))) (
  .region [
    ⟨some 24, .move true (.t 7), none⟩, 
    ⟨some 4, .move true (.t 24), none⟩]))))) (
  .region [
    ⟨some 25, .bin .add (.t 11) (.c (.int .i64 1)), none⟩, 
    ⟨some 11, .move false (.t 25), none⟩]))))))) (
  .seq (.region [
    ⟨some 26, .move true (.t 4), none⟩, 
    ⟨some 2, .move true (.t 26), none⟩, 
    ⟨some 3, .move false (.c (.int .i64 0)), none⟩]) (
  .ret))))
def R.log_All : List ARes := [.t 2, .t 3]
set_option maxRecDepth 100000 in
theorem K.log_All : ckFun Try.prog Try.f62 C.log_All R.log_All = true := by kernel_rfl
/-- gantry/log.Whole -/
def C.log_Whole : ACode :=
  .seq (.region [
    ⟨some 2, .move false (.c (.bool false)), none⟩]) (
  .seq (.region [
    ⟨some 7, .move false (.t 0), none⟩, 
    ⟨some 8, .call true F.log_scan [(.t 7)], none⟩, 
    ⟨some 6, .move false (.t 8), none⟩, 
    ⟨some 9, .ext 0 (.t 6), none⟩, 
    ⟨some 10, .ext 1 (.t 6), none⟩, 
    ⟨some 11, .ext 2 (.t 6), none⟩, 
    ⟨some 3, .move false (.t 9), none⟩, 
    ⟨some 4, .move false (.t 10), none⟩, 
    ⟨some 5, .move false (.t 11), none⟩]) (
  .seq (.region [
    ⟨some 12, .move false (.t 4), none⟩, 
    ⟨some 13, .move false (.t 0), none⟩, 
    ⟨some 14, .len (.t 13), none⟩, 
    ⟨some 15, .bin .eql (.t 12) (.t 14), none⟩, 
    ⟨some 2, .move false (.t 15), none⟩]) (
  .ret)))
def R.log_Whole : List ARes := [.t 2]
set_option maxRecDepth 100000 in
theorem K.log_Whole : ckFun Try.prog Try.f66 C.log_Whole R.log_Whole = true := by kernel_rfl
/-- slices.Equal[[]byte,byte] -/
def C.slices_Equal_byte : ACode :=
  .seq (.region [
    ⟨some 4, .move false (.c (.bool false)), none⟩]) (
  .seq (.seq (.region [
    ⟨some 6, .move false (.t 0), none⟩, 
    ⟨some 7, .len (.t 6), none⟩, 
    ⟨some 8, .move false (.t 1), none⟩, 
    ⟨some 9, .len (.t 8), none⟩, 
    ⟨some 10, .bin .neq (.t 7) (.t 9), none⟩]) (
  .cond (.t 10) (.seq (.region [
    ⟨some 4, .move false (.c (.bool false)), none⟩]) (
  .ret)) (.skip))) (
  .seq (.seq (.region [
    ⟨some 11, .move false (.t 0), none⟩, 
    ⟨some 12, .len (.t 11), none⟩, 
    ⟨some 13, .move false (.c (.int .i64 0)), none⟩]) (
  .block 0 (.loop (.seq (.region [
    ⟨some 14, .bin .lss (.t 13) (.t 12), none⟩]) (
  .seq (.cond (.t 14) (.skip) (.exit 0)) (
  .seq (.block 1 (.seq (.region [
    ⟨some 15, .move false (.t 13), none⟩, 
    ⟨some 5, .move false (.t 15), none⟩]) (
  .seq (.drawn [0, 1, 2, 3, 4, 5, 6, 7, 8] [0, 0, 3, 7, 0, 0, 48, 112, 255] [
    ⟨some 16, .move false (.t 0), none⟩, 
    ⟨some 17, .move false (.t 5), none⟩, 
    ⟨some 18, .iaddr 1 (.t 16) (.t 17), none⟩, 
    ⟨some 19, .load 0 false 1 (.t 18), none⟩, 
    ⟨some 20, .move false (.t 1), none⟩, 
    ⟨some 21, .move false (.t 5), none⟩, 
    ⟨some 22, .iaddr 1 (.t 20) (.t 21), none⟩, 
    ⟨some 23, .load 0 false 1 (.t 22), none⟩, 
    ⟨some 24, .bin .neq (.t 19) (.t 23), none⟩]) (
  .cond (.t 24) (.seq (.region [
    ⟨some 4, .move false (.c (.bool false)), none⟩]) (
  .ret)) (.skip))))) (
  .region [
    ⟨some 25, .bin .add (.t 13) (.c (.int .i64 1)), none⟩, 
    ⟨some 13, .move false (.t 25), none⟩]))))))) (
  .seq (.region [
    ⟨some 4, .move false (.c (.bool true)), none⟩]) (
  .ret))))
def R.slices_Equal_byte : List ARes := [.t 4]
set_option maxRecDepth 100000 in
theorem K.slices_Equal_byte : ckFun Try.prog Try.f65 C.slices_Equal_byte R.slices_Equal_byte = true := by kernel_rfl
/-- slices.Clone[[][]byte,[]byte] -/
def C.slices_Clone_bs : ACode :=
  .seq (.region [
    ⟨some 2, .move false (.c (.lst .nil [])), none⟩]) (
  .seq (.seq (.region [
    ⟨some 3, .move false (.t 0), none⟩, 
    ⟨some 4, .isnil false false (.t 3), none⟩]) (
  .cond (.t 4) (.seq (.region [
    ⟨some 2, .move false (.c (.lst .nil [])), none⟩]) (
  .ret)) (.skip))) (
  .seq (.region [
    ⟨some 5, .buildS false 1 [], none⟩, 
    ⟨some 6, .move false (.t 0), none⟩, 
    ⟨some 7, .append 1 24 (.t 5) (.t 6), none⟩, 
    ⟨some 2, .move true (.t 7), none⟩]) (
  .ret)))
def R.slices_Clone_bs : List ARes := [.t 2]
set_option maxRecDepth 100000 in
theorem K.slices_Clone_bs : ckFun Try.prog Try.f64 C.slices_Clone_bs R.slices_Clone_bs = true := by kernel_rfl
/-- slices.EqualFunc[[][]byte,[][]byte,[]byte,[]byte] -/
def C.slices_EqualFunc_bs : ACode :=
  .seq (.region [
    ⟨some 6, .move false (.c (.bool false)), none⟩]) (
  .seq (.seq (.region [
    ⟨some 10, .move false (.t 0), none⟩, 
    ⟨some 11, .len (.t 10), none⟩, 
    ⟨some 12, .move false (.t 1), none⟩, 
    ⟨some 13, .len (.t 12), none⟩, 
    ⟨some 14, .bin .neq (.t 11) (.t 13), none⟩]) (
  .cond (.t 14) (.seq (.region [
    ⟨some 6, .move false (.c (.bool false)), none⟩]) (
  .ret)) (.skip))) (
  .seq (.seq (.region [
    ⟨some 15, .move false (.t 0), none⟩, 
    ⟨some 16, .len (.t 15), none⟩, 
    ⟨some 17, .move false (.c (.int .i64 0)), none⟩]) (
  .block 0 (.loop (.seq (.region [
    ⟨some 18, .bin .lss (.t 17) (.t 16), none⟩]) (
  .seq (.cond (.t 18) (.skip) (.exit 0)) (
  .seq (.block 1 (.seq (.region [
    ⟨some 19, .move false (.t 17), none⟩, 
    ⟨some 20, .iaddr 1 (.t 15) (.t 17), none⟩, 
    ⟨some 21, .load 2 false 1 (.t 20), none⟩, 
    ⟨some 7, .move false (.t 19), none⟩, 
    ⟨some 8, .move false (.t 21), none⟩]) (
  .seq (.region [
    ⟨some 22, .move false (.t 1), none⟩, 
    ⟨some 23, .move false (.t 7), none⟩, 
    ⟨some 24, .iaddr 1 (.t 22) (.t 23), none⟩, 
    ⟨some 25, .load 2 false 1 (.t 24), none⟩, 
    ⟨some 9, .move false (.t 25), none⟩]) (
  .seq (.region [
    ⟨some 26, .move false (.t 2), none⟩, 
    ⟨some 27, .move false (.t 8), none⟩, 
    ⟨some 28, .move false (.t 9), none⟩, 
    ⟨some 29, .callv true (.t 26) [(.t 27), (.t 28)], none⟩, 
    ⟨some 30, .un .not (.t 29), none⟩]) (
  .cond (.t 30) (.seq (.region [
    ⟨some 6, .move false (.c (.bool false)), none⟩]) (
  .ret)) (.skip)))))) (
  .region [
    ⟨some 31, .bin .add (.t 17) (.c (.int .i64 1)), none⟩, 
    ⟨some 17, .move false (.t 31), none⟩]))))))) (
  .seq (.region [
    ⟨some 6, .move false (.c (.bool true)), none⟩]) (
  .ret))))
def R.slices_EqualFunc_bs : List ARes := [.t 6]
set_option maxRecDepth 100000 in
theorem K.slices_EqualFunc_bs : ckFun Try.prog Try.f68 C.slices_EqualFunc_bs R.slices_EqualFunc_bs = true := by kernel_rfl
/-- slices.Clone[[]byte,byte] -/
def C.slices_Clone_byte : ACode :=
  .seq (.region [
    ⟨some 2, .move false (.c (.lst .nil [])), none⟩]) (
  .seq (.seq (.region [
    ⟨some 3, .move false (.t 0), none⟩, 
    ⟨some 4, .isnil false false (.t 3), none⟩]) (
  .cond (.t 4) (.seq (.region [
    ⟨some 2, .move false (.c (.lst .nil [])), none⟩]) (
  .ret)) (.skip))) (
  .seq (.region [
    ⟨some 5, .bs0, none⟩, 
    ⟨some 6, .move false (.t 0), none⟩, 
    ⟨some 7, .hop (.appendR 1 1 (.t 5) (.t 6)), none⟩, 
    ⟨some 2, .move false (.t 7), none⟩]) (
  .own 2 false 1 (.ret))))
def R.slices_Clone_byte : List ARes := [.t 2]
set_option maxRecDepth 100000 in
theorem K.slices_Clone_byte : ckFun Try.prog Try.f72 C.slices_Clone_byte R.slices_Clone_byte = true := by kernel_rfl
/-- gantry/gantref5.Records -/
def C.gantref5_Records : ACode :=
  .seq (.region [
    ⟨some 2, .move false (.c (.lst .nil [])), none⟩, 
    ⟨some 3, .move false (.c (.int .i64 0)), none⟩]) (
  .seq (.region [
    ⟨some 4, .move false (.c (.lst .nil [])), none⟩]) (
  .seq (.region [
    ⟨some 5, .move false (.c (.int .i64 0)), none⟩]) (
  .seq (.region [
    ⟨some 10, .buildS false 1 [(.c (.int .u8 0)), (.c (.int .u8 0)), (.c (.int .u8 0)), (.c (.int .u8 0))], none⟩, 
    ⟨some 6, .move false (.t 10), none⟩]) (
  .block 0 (.loop (.block 1 (.seq (.region [
    ⟨some 11, .move false (.t 0), none⟩, 
    ⟨some 12, .move false (.t 5), none⟩, 
    ⟨some 13, .slice 1 (.t 11) (some (.t 12)) none none, none⟩, 
    ⟨some 7, .move false (.t 13), none⟩]) (
  .seq (.seq (.region [
    ⟨some 14, .move false (.t 7), none⟩, 
    ⟨some 15, .len (.t 14), none⟩, 
    ⟨some 16, .bin .lss (.t 15) (.c (.int .i64 2)), none⟩]) (
  .cond (.t 16) (.seq (.region [
    ⟨some 17, .move true (.t 4), none⟩, 
    ⟨some 18, .move false (.t 5), none⟩, 
    ⟨some 2, .move true (.t 17), none⟩, 
    ⟨some 3, .move false (.t 18), none⟩]) (
  .ret)) (.skip))) (
  .seq (.region [
    ⟨some 19, .move false (.t 7), none⟩, 
    ⟨some 20, .slice 1 (.t 19) none (some (.c (.int .i64 2))) none, none⟩, 
    ⟨some 21, .call true F.gantref5_Value [(.t 20)], none⟩, 
    ⟨some 8, .move false (.t 21), none⟩]) (
  .seq (.seq (.region [
    ⟨some 22, .move false (.t 8), none⟩, 
    ⟨some 23, .bin .gtr (.t 22) (.c (.int .i64 2000)), none⟩, 
    ⟨some 24, .move false (.t 23), none⟩, 
    ⟨some 25, .move false (.t 7), (some (24, false))⟩, 
    ⟨some 26, .len (.t 25), (some (24, false))⟩, 
    ⟨some 27, .move false (.t 8), (some (24, false))⟩, 
    ⟨some 28, .bin .add (.t 27) (.c (.int .i64 6)), (some (24, false))⟩, 
    ⟨some 29, .bin .lss (.t 26) (.t 28), (some (24, false))⟩, 
    ⟨some 30, .pick (.t 24) (.c (.bool true)) (.t 29), none⟩]) (
  .cond (.t 30) (.seq (.region [
    ⟨some 31, .move true (.t 4), none⟩, 
    ⟨some 32, .move false (.t 5), none⟩, 
    ⟨some 2, .move true (.t 31), none⟩, 
    ⟨some 3, .move false (.t 32), none⟩]) (
  .ret)) (.skip))) (
  .seq (.region [
    ⟨some 33, .move false (.t 6), none⟩, 
    ⟨some 34, .move false (.t 7), none⟩, 
    ⟨some 35, .move false (.t 8), none⟩, 
    ⟨some 36, .bin .add (.c (.int .i64 2)) (.t 35), none⟩, 
    ⟨some 37, .slice 1 (.t 34) none (some (.t 36)) none, none⟩, 
    ⟨some 38, .buildS false 1 [(.t 33), (.t 37)], none⟩, 
    ⟨some 39, .call true F.slices_Concat_byte [(.t 38)], none⟩, 
    ⟨some 40, .call true F.gantref5_Crc [(.t 39)], none⟩, 
    ⟨some 41, .conv .u64 (.t 40), none⟩, 
    ⟨some 42, .call true F.gantref5_Bytes [(.t 41), (.c (.int .i64 4))], none⟩, 
    ⟨some 9, .move false (.t 42), none⟩]) (
  .seq (.seq (.drawn [0, 1, 2, 3, 4, 5, 6, 7, 8, 9] [0, 1, 0, 0, 8, 0, 32, 124, 252, 511] [
    ⟨some 43, .move false (.t 9), none⟩, 
    ⟨some 44, .b2s (.t 43), none⟩, 
    ⟨some 45, .move false (.t 7), none⟩, 
    ⟨some 46, .move false (.t 8), none⟩, 
    ⟨some 47, .bin .add (.c (.int .i64 2)) (.t 46), none⟩, 
    ⟨some 48, .move false (.t 8), none⟩, 
    ⟨some 49, .bin .add (.c (.int .i64 6)) (.t 48), none⟩, 
    ⟨some 50, .slice 1 (.t 45) (some (.t 47)) (some (.t 49)) none, none⟩, 
    ⟨some 51, .b2s (.t 50), none⟩, 
    ⟨some 52, .bin .neq (.t 44) (.t 51), none⟩]) (
  .cond (.t 52) (.seq (.region [
    ⟨some 53, .move true (.t 4), none⟩, 
    ⟨some 54, .move false (.t 5), none⟩, 
    ⟨some 2, .move true (.t 53), none⟩, 
    ⟨some 3, .move false (.t 54), none⟩]) (
  .ret)) (.skip))) (
  .seq (.region [
    ⟨some 55, .move true (.t 4), none⟩, 
    ⟨some 56, .move false (.t 7), none⟩, 
    ⟨some 57, .move false (.t 8), none⟩, 
    ⟨some 58, .bin .add (.c (.int .i64 2)) (.t 57), none⟩, 
    ⟨some 59, .slice 1 (.t 56) (some (.c (.int .i64 2))) (some (.t 58)) none, none⟩, 
    ⟨some 60, .buildS false 1 [(.t 59)], none⟩, 
    ⟨some 61, .append 1 24 (.t 55) (.t 60), none⟩, 
    ⟨some 4, .move true (.t 61), none⟩]) (
  .seq (.region [
    ⟨some 62, .move false (.t 9), none⟩, 
    ⟨some 6, .move false (.t 62), none⟩]) (
  .region [
    ⟨some 63, .move false (.t 5), none⟩, 
    ⟨some 64, .move false (.t 8), none⟩, 
    ⟨some 65, .bin .add (.t 64) (.c (.int .i64 6)), none⟩, 
    ⟨some 66, .bin .add (.t 63) (.t 65), none⟩, 
    ⟨some 5, .move false (.t 66), none⟩])))))))))))))))
def R.gantref5_Records : List ARes := [.t 2, .t 3]
set_option maxRecDepth 100000 in
theorem K.gantref5_Records : ckFun Try.prog Try.f67 C.gantref5_Records R.gantref5_Records = true := by kernel_rfl
/-- gantry/gantref5.Book -/
def C.gantref5_Book : ACode :=
  .seq (.region [
    ⟨some 2, .move false (.c (.lst .nil [])), none⟩]) (
  .seq (.region [
    ⟨some 3, .move false (.c (.lst .nil [])), none⟩]) (
  .seq (.region [
    ⟨some 8, .buildS false 1 [(.c (.int .u8 0)), (.c (.int .u8 0)), (.c (.int .u8 0)), (.c (.int .u8 0))], none⟩, 
    ⟨some 4, .move false (.t 8), none⟩]) (
  .seq (.seq (.region [
    ⟨some 9, .move false (.t 0), none⟩, 
    ⟨some 10, .len (.t 9), none⟩, 
    ⟨some 11, .move false (.c (.int .i64 0)), none⟩]) (
  .block 0 (.loop (.seq (.region [
    ⟨some 12, .bin .lss (.t 11) (.t 10), none⟩]) (
  .seq (.cond (.t 12) (.skip) (.exit 0)) (
  .seq (.block 1 (.seq (.region [
    ⟨some 13, .iaddr 1 (.t 9) (.t 11), none⟩, 
    ⟨some 14, .load 2 false 1 (.t 13), none⟩, 
    ⟨some 6, .move false (.t 14), none⟩]) (
  .seq (.region [
    ⟨some 15, .move false (.t 6), none⟩, 
    ⟨some 16, .len (.t 15), none⟩, 
    ⟨some 17, .conv .u64 (.t 16), none⟩, 
    ⟨some 18, .call true F.gantref5_Bytes [(.t 17), (.c (.int .i64 2))], none⟩, 
    ⟨some 19, .move false (.t 6), none⟩, 
    ⟨some 20, .buildS false 1 [(.t 18), (.t 19)], none⟩, 
    ⟨some 21, .call true F.slices_Concat_byte [(.t 20)], none⟩, 
    ⟨some 7, .move false (.t 21), none⟩]) (
  .seq (.region [
    ⟨some 22, .move false (.t 4), none⟩, 
    ⟨some 23, .move false (.t 7), none⟩, 
    ⟨some 24, .buildS false 1 [(.t 22), (.t 23)], none⟩, 
    ⟨some 25, .call true F.slices_Concat_byte [(.t 24)], none⟩, 
    ⟨some 26, .call true F.gantref5_Crc [(.t 25)], none⟩, 
    ⟨some 27, .conv .u64 (.t 26), none⟩, 
    ⟨some 28, .call true F.gantref5_Bytes [(.t 27), (.c (.int .i64 4))], none⟩, 
    ⟨some 4, .move false (.t 28), none⟩]) (
  .region [
    ⟨some 29, .move false (.t 3), none⟩, 
    ⟨some 30, .move false (.t 7), none⟩, 
    ⟨some 31, .move false (.t 4), none⟩, 
    ⟨some 32, .buildS false 1 [(.t 29), (.t 30), (.t 31)], none⟩, 
    ⟨some 33, .call true F.slices_Concat_byte [(.t 32)], none⟩, 
    ⟨some 3, .move true (.t 33), none⟩]))))) (
  .region [
    ⟨some 34, .bin .add (.t 11) (.c (.int .i64 1)), none⟩, 
    ⟨some 11, .move false (.t 34), none⟩]))))))) (
  .seq (.region [
    ⟨some 35, .move true (.t 3), none⟩, 
    ⟨some 2, .move true (.t 35), none⟩]) (
  .ret)))))
def R.gantref5_Book : List ARes := [.t 2]
set_option maxRecDepth 100000 in
theorem K.gantref5_Book : ckFun Try.prog Try.f69 C.gantref5_Book R.gantref5_Book = true := by kernel_rfl
/-- gantry/gantref5.Value -/
def C.gantref5_Value : ACode :=
  .seq (.region [
    ⟨some 2, .move false (.c (.int .i64 0)), none⟩]) (
  .seq (.region [
    ⟨some 3, .move false (.c (.int .i64 0)), none⟩]) (
  .seq (.seq (.region [
    ⟨some 6, .move false (.t 0), none⟩, 
    ⟨some 7, .len (.t 6), none⟩, 
    ⟨some 8, .move false (.c (.int .i64 0)), none⟩]) (
  .block 0 (.loop (.seq (.region [
    ⟨some 9, .bin .lss (.t 8) (.t 7), none⟩]) (
  .seq (.cond (.t 9) (.skip) (.exit 0)) (
  .seq (.block 1 (.seq (.region [
    ⟨some 10, .iaddr 1 (.t 6) (.t 8), none⟩, 
    ⟨some 11, .load 2 false 1 (.t 10), none⟩, 
    ⟨some 5, .move false (.t 11), none⟩]) (
  .region [
    ⟨some 12, .move false (.t 3), none⟩, 
    ⟨some 13, .bin .mul (.c (.int .i64 256)) (.t 12), none⟩, 
    ⟨some 14, .move false (.t 5), none⟩, 
    ⟨some 15, .conv .i64 (.t 14), none⟩, 
    ⟨some 16, .bin .add (.t 13) (.t 15), none⟩, 
    ⟨some 3, .move false (.t 16), none⟩]))) (
  .region [
    ⟨some 17, .bin .add (.t 8) (.c (.int .i64 1)), none⟩, 
    ⟨some 8, .move false (.t 17), none⟩]))))))) (
  .seq (.region [
    ⟨some 18, .move false (.t 3), none⟩, 
    ⟨some 2, .move false (.t 18), none⟩]) (
  .ret))))
def R.gantref5_Value : List ARes := [.t 2]
set_option maxRecDepth 100000 in
theorem K.gantref5_Value : ckFun Try.prog Try.f154 C.gantref5_Value R.gantref5_Value = true := by kernel_rfl
/-- gantry/gantkeep5.LogGoes -/
def C.gantkeep5_LogGoes : ACode :=
  .seq (.region [
    ⟨some 6, .move false (.c (.bool false)), none⟩]) (
  .seq (.seq (.region [
    ⟨some 21, .buildS false 1 [(.c (.int .u8 7))], none⟩, 
    ⟨some 22, .call true F.log_Add [(.c (.lst .nil [])), (.t 21)], none⟩, 
    ⟨some 20, .move false (.t 22), none⟩, 
    ⟨some 23, .ext 0 (.t 20), none⟩, 
    ⟨some 24, .ext 1 (.t 20), none⟩, 
    ⟨some 7, .move false (.t 23), none⟩, 
    ⟨some 8, .move false (.t 24), none⟩]) (
  .seq (.region [
    ⟨some 25, .move false (.t 8), none⟩, 
    ⟨some 26, .bin .neq (.t 25) (.c (.int .i64 0)), none⟩, 
    ⟨some 27, .move false (.t 26), none⟩, 
    ⟨some 28, .move false (.t 7), (some (27, false))⟩, 
    ⟨some 29, .len (.t 28), (some (27, false))⟩, 
    ⟨some 30, .bin .neq (.t 29) (.c (.int .i64 7)), (some (27, false))⟩, 
    ⟨some 31, .pick (.t 27) (.c (.bool true)) (.t 30), none⟩]) (
  .cond (.t 31) (.seq (.region [
    ⟨some 6, .move false (.c (.bool false)), none⟩]) (
  .ret)) (.skip)))) (
  .seq (.region [
    ⟨some 32, .move false (.t 0), none⟩, 
    ⟨some 33, .move false (.t 0), none⟩, 
    ⟨some 34, .len (.t 33), none⟩, 
    ⟨some 35, .mn (.t 34) [(.c (.int .i64 20))], none⟩, 
    ⟨some 36, .slice 1 (.t 32) none (some (.t 35)) none, none⟩, 
    ⟨some 0, .move false (.t 36), none⟩]) (
  .seq (.region [
    ⟨some 38, .move false (.t 0), none⟩, 
    ⟨some 39, .call true F.log_All [(.t 38)], none⟩, 
    ⟨some 37, .move false (.t 39), none⟩, 
    ⟨some 40, .ext 0 (.t 37), none⟩, 
    ⟨some 41, .ext 1 (.t 37), none⟩, 
    ⟨some 9, .move false (.t 40), none⟩, 
    ⟨some 10, .move false (.t 41), none⟩]) (
  .seq (.seq (.region [
    ⟨some 42, .move false (.t 10), none⟩, 
    ⟨some 43, .bin .neq (.t 42) (.c (.int .i64 0)), none⟩, 
    ⟨some 44, .move false (.t 43), none⟩, 
    ⟨some 45, .move false (.t 2), (some (44, false))⟩, 
    ⟨some 46, .len (.t 45), (some (44, false))⟩, 
    ⟨some 47, .bin .gtr (.t 46) (.c (.int .i64 2000)), (some (44, false))⟩, 
    ⟨some 48, .pick (.t 44) (.c (.bool true)) (.t 47), none⟩]) (
  .cond (.t 48) (.seq (.region [
    ⟨some 6, .move false (.c (.bool true)), none⟩]) (
  .ret)) (.skip))) (
  .seq (.region [
    ⟨some 49, .move false (.t 9), none⟩, 
    ⟨some 50, .move false (.t 1), none⟩, 
    ⟨some 51, .move false (.t 9), none⟩, 
    ⟨some 52, .len (.t 51), none⟩, 
    ⟨some 53, .bin .add (.t 52) (.c (.int .i64 1)), none⟩, 
    ⟨some 54, .call true F.gantmake_Below [(.t 50), (.t 53)], none⟩, 
    ⟨some 55, .slice 1 (.t 49) none (some (.t 54)) none, none⟩, 
    ⟨some 11, .move false (.t 55), none⟩]) (
  .seq (.region [
    ⟨some 57, .move false (.t 11), none⟩, 
    ⟨some 58, .call true F.log_Read [(.t 57)], none⟩, 
    ⟨some 56, .move false (.t 58), none⟩, 
    ⟨some 59, .ext 0 (.t 56), none⟩, 
    ⟨some 60, .ext 1 (.t 56), none⟩, 
    ⟨some 12, .move false (.t 59), none⟩, 
    ⟨some 13, .move false (.t 60), none⟩]) (
  .seq (.region [
    ⟨some 62, .move false (.t 11), none⟩, 
    ⟨some 63, .move false (.t 2), none⟩, 
    ⟨some 64, .call true F.log_Add [(.t 62), (.t 63)], none⟩, 
    ⟨some 61, .move false (.t 64), none⟩, 
    ⟨some 65, .ext 0 (.t 61), none⟩, 
    ⟨some 66, .ext 1 (.t 61), none⟩, 
    ⟨some 14, .move false (.t 65), none⟩, 
    ⟨some 15, .move false (.t 66), none⟩]) (
  .seq (.region [
    ⟨some 68, .move false (.t 14), none⟩, 
    ⟨some 69, .call true F.log_Read [(.t 68)], none⟩, 
    ⟨some 67, .move false (.t 69), none⟩, 
    ⟨some 70, .ext 0 (.t 67), none⟩, 
    ⟨some 71, .ext 1 (.t 67), none⟩, 
    ⟨some 16, .move false (.t 70), none⟩, 
    ⟨some 17, .move false (.t 71), none⟩]) (
  .seq (.region [
    ⟨some 73, .move false (.t 12), none⟩, 
    ⟨some 74, .call true F.slices_Clone_bs [(.t 73)], none⟩, 
    ⟨some 75, .move false (.t 2), none⟩, 
    ⟨some 76, .buildS false 1 [(.t 75)], none⟩, 
    ⟨some 77, .append 1 24 (.t 74) (.t 76), none⟩, 
    ⟨some 78, .call true F.log_All [(.t 77)], none⟩, 
    ⟨some 72, .move false (.t 78), none⟩, 
    ⟨some 79, .ext 0 (.t 72), none⟩, 
    ⟨some 80, .ext 1 (.t 72), none⟩, 
    ⟨some 18, .move false (.t 79), none⟩, 
    ⟨some 19, .move false (.t 80), none⟩]) (
  .seq (.region [
    ⟨some 81, .move false (.t 15), none⟩, 
    ⟨some 82, .bin .eql (.t 81) (.c (.int .i64 0)), none⟩, 
    ⟨some 83, .move false (.t 82), none⟩, 
    ⟨some 84, .move false (.t 19), (some (83, true))⟩, 
    ⟨some 85, .bin .eql (.t 84) (.c (.int .i64 0)), (some (83, true))⟩, 
    ⟨some 86, .pick (.t 83) (.t 85) (.c (.bool false)), none⟩, 
    ⟨some 87, .move false (.t 86), none⟩, 
    ⟨some 88, .move false (.t 17), (some (87, true))⟩, 
    ⟨some 89, .move false (.t 14), (some (87, true))⟩, 
    ⟨some 90, .len (.t 89), (some (87, true))⟩, 
    ⟨some 91, .bin .eql (.t 88) (.t 90), (some (87, true))⟩, 
    ⟨some 92, .pick (.t 87) (.t 91) (.c (.bool false)), none⟩, 
    ⟨some 93, .move false (.t 92), none⟩, 
    ⟨some 94, .move false (.t 16), (some (93, true))⟩, 
    ⟨some 95, .len (.t 94), (some (93, true))⟩, 
    ⟨some 96, .move false (.t 12), (some (93, true))⟩, 
    ⟨some 97, .len (.t 96), (some (93, true))⟩, 
    ⟨some 98, .bin .add (.t 97) (.c (.int .i64 1)), (some (93, true))⟩, 
    ⟨some 99, .bin .eql (.t 95) (.t 98), (some (93, true))⟩, 
    ⟨some 100, .pick (.t 93) (.t 99) (.c (.bool false)), none⟩, 
    ⟨some 101, .move false (.t 100), none⟩, 
    ⟨some 102, .move false (.t 14), (some (101, true))⟩, 
    ⟨some 103, .move false (.t 18), (some (101, true))⟩, 
    ⟨some 104, .call true F.slices_Equal_byte [(.t 102), (.t 103)], (some (101, true))⟩, 
    ⟨some 105, .pick (.t 101) (.t 104) (.c (.bool false)), none⟩, 
    ⟨some 106, .move false (.t 105), none⟩, 
    ⟨some 107, .move false (.t 14), (some (106, true))⟩, 
    ⟨some 108, .call true F.log_Whole [(.t 107)], (some (106, true))⟩, 
    ⟨some 109, .pick (.t 106) (.t 108) (.c (.bool false)), none⟩, 
    ⟨some 6, .move false (.t 109), none⟩]) (
  .ret)))))))))))
def R.gantkeep5_LogGoes : List ARes := [.t 6]
set_option maxRecDepth 100000 in
theorem K.gantkeep5_LogGoes : ckFun Try.prog Try.f7 C.gantkeep5_LogGoes R.gantkeep5_LogGoes = true := by kernel_rfl
/-- gantry/gantlaw5.LogTells -/
def C.gantlaw5_LogTells : ACode :=
  .seq (.region [
    ⟨some 6, .move false (.c (.bool false)), none⟩]) (
  .seq (.seq (.region [
    ⟨some 22, .call true F.log_Add [(.c (.lst .nil [])), (.c (.lst .nil []))], none⟩, 
    ⟨some 21, .move false (.t 22), none⟩, 
    ⟨some 23, .ext 0 (.t 21), none⟩, 
    ⟨some 24, .ext 1 (.t 21), none⟩, 
    ⟨some 7, .move false (.t 23), none⟩, 
    ⟨some 8, .move false (.t 24), none⟩]) (
  .seq (.region [
    ⟨some 25, .move false (.t 8), none⟩, 
    ⟨some 26, .bin .neq (.t 25) (.c (.int .i64 0)), none⟩, 
    ⟨some 27, .move false (.t 26), none⟩, 
    ⟨some 28, .move false (.t 7), (some (27, false))⟩, 
    ⟨some 29, .len (.t 28), (some (27, false))⟩, 
    ⟨some 30, .bin .neq (.t 29) (.c (.int .i64 6)), (some (27, false))⟩, 
    ⟨some 31, .pick (.t 27) (.c (.bool true)) (.t 30), none⟩]) (
  .cond (.t 31) (.seq (.region [
    ⟨some 6, .move false (.c (.bool false)), none⟩]) (
  .ret)) (.skip)))) (
  .seq (.region [
    ⟨some 33, .move false (.t 0), none⟩, 
    ⟨some 34, .call true F.gantref5_Records [(.t 33)], none⟩, 
    ⟨some 32, .move false (.t 34), none⟩, 
    ⟨some 35, .ext 0 (.t 32), none⟩, 
    ⟨some 36, .ext 1 (.t 32), none⟩, 
    ⟨some 9, .move false (.t 35), none⟩, 
    ⟨some 10, .move false (.t 36), none⟩]) (
  .seq (.region [
    ⟨some 38, .move false (.t 0), none⟩, 
    ⟨some 39, .call true F.log_Read [(.t 38)], none⟩, 
    ⟨some 37, .move false (.t 39), none⟩, 
    ⟨some 40, .ext 0 (.t 37), none⟩, 
    ⟨some 41, .ext 1 (.t 37), none⟩, 
    ⟨some 11, .move false (.t 40), none⟩, 
    ⟨some 12, .move false (.t 41), none⟩]) (
  .seq (.seq (.region [
    ⟨some 42, .move false (.t 12), none⟩, 
    ⟨some 43, .move false (.t 10), none⟩, 
    ⟨some 44, .bin .neq (.t 42) (.t 43), none⟩, 
    ⟨some 45, .move false (.t 44), none⟩, 
    ⟨some 46, .move false (.t 11), (some (45, false))⟩, 
    ⟨some 47, .move false (.t 9), (some (45, false))⟩, 
    ⟨some 48, .call true F.slices_EqualFunc_bs [(.t 46), (.t 47), (.c (.func 65 []))], (some (45, false))⟩, 
    ⟨some 49, .un .not (.t 48), (some (45, false))⟩, 
    ⟨some 50, .pick (.t 45) (.c (.bool true)) (.t 49), none⟩, 
    ⟨some 51, .move false (.t 50), none⟩, 
    ⟨some 52, .move false (.t 0), (some (51, false))⟩, 
    ⟨some 53, .call true F.log_Whole [(.t 52)], (some (51, false))⟩, 
    ⟨some 54, .move false (.t 10), (some (51, false))⟩, 
    ⟨some 55, .move false (.t 0), (some (51, false))⟩, 
    ⟨some 56, .len (.t 55), (some (51, false))⟩, 
    ⟨some 57, .bin .eql (.t 54) (.t 56), (some (51, false))⟩, 
    ⟨some 58, .beq true (.t 53) (.t 57), (some (51, false))⟩, 
    ⟨some 59, .pick (.t 51) (.c (.bool true)) (.t 58), none⟩]) (
  .cond (.t 59) (.seq (.region [
    ⟨some 6, .move false (.c (.bool false)), none⟩]) (
  .ret)) (.skip))) (
  .seq (.region [
    ⟨some 61, .move false (.t 0), none⟩, 
    ⟨some 62, .move false (.t 1), none⟩, 
    ⟨some 63, .call true F.log_Add [(.t 61), (.t 62)], none⟩, 
    ⟨some 60, .move false (.t 63), none⟩, 
    ⟨some 64, .ext 0 (.t 60), none⟩, 
    ⟨some 65, .ext 1 (.t 60), none⟩, 
    ⟨some 13, .move false (.t 64), none⟩, 
    ⟨some 14, .move false (.t 65), none⟩]) (
  .seq (.block 0 (.seq (.region [
    ⟨some 67, .move false (.t 1), none⟩, 
    ⟨some 68, .len (.t 67), none⟩, 
    ⟨some 69, .bin .gtr (.t 68) (.c (.int .i64 2000)), none⟩, 
    ⟨some 66, .move false (.t 69), none⟩]) (
  .cond (.t 66) (.seq (.region [
    ⟨some 70, .move false (.t 14), none⟩, 
    ⟨some 71, .bin .eql (.t 70) (.c (.int .i64 2)), none⟩, 
    ⟨some 72, .move false (.t 71), none⟩, 
    ⟨some 73, .move false (.t 13), (some (72, true))⟩, 
    ⟨some 74, .len (.t 73), (some (72, true))⟩, 
    ⟨some 75, .bin .eql (.t 74) (.c (.int .i64 0)), (some (72, true))⟩, 
    ⟨some 76, .pick (.t 72) (.t 75) (.c (.bool false)), none⟩, 
    ⟨some 6, .move false (.t 76), none⟩]) (
  .ret)) (.seq (.region [
    ⟨some 78, .move false (.t 10), none⟩, 
    ⟨some 79, .bin .add (.t 78) (.c (.int .i64 6)), none⟩, 
    ⟨some 80, .move false (.t 1), none⟩, 
    ⟨some 81, .len (.t 80), none⟩, 
    ⟨some 82, .bin .add (.t 79) (.t 81), none⟩, 
    ⟨some 83, .bin .gtr (.t 82) (.c (.int .i64 100000)), none⟩, 
    ⟨some 77, .move false (.t 83), none⟩]) (
  .cond (.t 77) (.seq (.region [
    ⟨some 84, .move false (.t 14), none⟩, 
    ⟨some 85, .bin .eql (.t 84) (.c (.int .i64 6)), none⟩, 
    ⟨some 86, .move false (.t 85), none⟩, 
    ⟨some 87, .move false (.t 13), (some (86, true))⟩, 
    ⟨some 88, .len (.t 87), (some (86, true))⟩, 
    ⟨some 89, .bin .eql (.t 88) (.c (.int .i64 0)), (some (86, true))⟩, 
    ⟨some 90, .pick (.t 86) (.t 89) (.c (.bool false)), none⟩, 
    ⟨some 6, .move false (.t 90), none⟩]) (
  .ret)) (.seq (.region [
    ⟨some 92, .move false (.t 14), none⟩, 
    ⟨some 93, .bin .neq (.t 92) (.c (.int .i64 0)), none⟩, 
    ⟨some 94, .move false (.t 93), none⟩, 
    ⟨some 95, .move false (.t 13), (some (94, false))⟩, 
    ⟨some 96, .move false (.t 9), (some (94, false))⟩, 
    ⟨some 97, .call true F.slices_Clone_bs [(.t 96)], (some (94, false))⟩, 
    ⟨some 98, .move false (.t 1), (some (94, false))⟩, 
    ⟨some 99, .buildS false 1 [(.t 98)], (some (94, false))⟩, 
    ⟨some 100, .append 1 24 (.t 97) (.t 99), (some (94, false))⟩, 
    ⟨some 101, .call true F.gantref5_Book [(.t 100)], (some (94, false))⟩, 
    ⟨some 102, .call true F.slices_Equal_byte [(.t 95), (.t 101)], (some (94, false))⟩, 
    ⟨some 103, .un .not (.t 102), (some (94, false))⟩, 
    ⟨some 104, .pick (.t 94) (.c (.bool true)) (.t 103), none⟩, 
    ⟨some 91, .move false (.t 104), none⟩]) (
  .cond (.t 91) (.seq (.region [
    ⟨some 6, .move false (.c (.bool false)), none⟩]) (
  .ret)) (.skip)))))))) (
  .seq (.region [
    ⟨some 106, .move false (.t 2), none⟩, 
    ⟨some 107, .call true F.log_All [(.t 106)], none⟩, 
    ⟨some 105, .move false (.t 107), none⟩, 
    ⟨some 108, .ext 0 (.t 105), none⟩, 
    ⟨some 109, .ext 1 (.t 105), none⟩, 
    ⟨some 15, .move false (.t 108), none⟩, 
    ⟨some 16, .move false (.t 109), none⟩]) (
  .seq (.region [
    ⟨some 17, .move false (.c (.int .i64 0)), none⟩]) (
  .seq (.region [
    ⟨some 18, .move false (.c (.int .i64 0)), none⟩]) (
  .seq (.seq (.region [
    ⟨some 110, .move false (.t 2), none⟩, 
    ⟨some 111, .len (.t 110), none⟩, 
    ⟨some 112, .move false (.c (.int .i64 0)), none⟩]) (
  .block 1 (.loop (.seq (.region [
    ⟨some 113, .bin .lss (.t 112) (.t 111), none⟩]) (
  .seq (.cond (.t 113) (.skip) (.exit 1)) (
  .seq (.block 2 (.seq (.region [
    ⟨some 114, .iaddr 1 (.t 110) (.t 112), none⟩, 
    ⟨some 115, .load 2 false 1 (.t 114), none⟩, 
    ⟨some 20, .move false (.t 115), none⟩]) (
  .seq (.region [
    ⟨some 116, .move false (.t 17), none⟩, 
    ⟨some 117, .move false (.t 20), none⟩, 
    ⟨some 118, .len (.t 117), none⟩, 
    ⟨some 119, .bin .add (.c (.int .i64 6)) (.t 118), none⟩, 
    ⟨some 120, .bin .add (.t 116) (.t 119), none⟩, 
    ⟨some 17, .move false (.t 120), none⟩]) (
  .seq (.seq (.region [
    ⟨some 121, .move false (.t 18), none⟩, 
    ⟨some 122, .bin .eql (.t 121) (.c (.int .i64 0)), none⟩, 
    ⟨some 123, .move false (.t 122), none⟩, 
    ⟨some 124, .move false (.t 20), (some (123, true))⟩, 
    ⟨some 125, .len (.t 124), (some (123, true))⟩, 
    ⟨some 126, .bin .gtr (.t 125) (.c (.int .i64 2000)), (some (123, true))⟩, 
    ⟨some 127, .pick (.t 123) (.t 126) (.c (.bool false)), none⟩]) (
  .cond (.t 127) (.region [
    ⟨some 18, .move false (.c (.int .i64 2)), none⟩]) (.skip))) (
  .seq (.region [
    ⟨some 128, .move false (.t 18), none⟩, 
    ⟨some 129, .bin .eql (.t 128) (.c (.int .i64 0)), none⟩, 
    ⟨some 130, .move false (.t 129), none⟩, 
    ⟨some 131, .move false (.t 17), (some (130, true))⟩, 
    ⟨some 132, .bin .gtr (.t 131) (.c (.int .i64 100000)), (some (130, true))⟩, 
    ⟨some 133, .pick (.t 130) (.t 132) (.c (.bool false)), none⟩]) (
  .cond (.t 133) (.region [
    ⟨some 18, .move false (.c (.int .i64 6)), none⟩]) (.skip))))))) (
  .region [
    ⟨some 134, .bin .add (.t 112) (.c (.int .i64 1)), none⟩, 
    ⟨some 112, .move false (.t 134), none⟩]))))))) (
  .seq (.seq (.region [
    ⟨some 135, .move false (.t 18), none⟩, 
    ⟨some 136, .bin .neq (.t 135) (.c (.int .i64 0)), none⟩]) (
  .cond (.t 136) (.seq (.region [
    ⟨some 137, .move false (.t 16), none⟩, 
    ⟨some 138, .move false (.t 18), none⟩, 
    ⟨some 139, .bin .eql (.t 137) (.t 138), none⟩, 
    ⟨some 140, .move false (.t 139), none⟩, 
    ⟨some 141, .move false (.t 15), (some (140, true))⟩, 
    ⟨some 142, .len (.t 141), (some (140, true))⟩, 
    ⟨some 143, .bin .eql (.t 142) (.c (.int .i64 0)), (some (140, true))⟩, 
    ⟨some 144, .pick (.t 140) (.t 143) (.c (.bool false)), none⟩, 
    ⟨some 6, .move false (.t 144), none⟩]) (
  .ret)) (.skip))) (
  .seq (.region [
    ⟨some 145, .move false (.t 16), none⟩, 
    ⟨some 146, .bin .eql (.t 145) (.c (.int .i64 0)), none⟩, 
    ⟨some 147, .move false (.t 146), none⟩, 
    ⟨some 148, .move false (.t 15), (some (147, true))⟩, 
    ⟨some 149, .move false (.t 2), (some (147, true))⟩, 
    ⟨some 150, .call true F.gantref5_Book [(.t 149)], (some (147, true))⟩, 
    ⟨some 151, .call true F.slices_Equal_byte [(.t 148), (.t 150)], (some (147, true))⟩, 
    ⟨some 152, .pick (.t 147) (.t 151) (.c (.bool false)), none⟩, 
    ⟨some 6, .move false (.t 152), none⟩]) (
  .ret)))))))))))))
def R.gantlaw5_LogTells : List ARes := [.t 6]
set_option maxRecDepth 100000 in
theorem K.gantlaw5_LogTells : ckFun Try.prog Try.f8 C.gantlaw5_LogTells R.gantlaw5_LogTells = true := by kernel_rfl
/-- gantry/gantkeep5.LogCut -/
def C.gantkeep5_LogCut : ACode :=
  .seq (.region [
    ⟨some 6, .move false (.c (.bool false)), none⟩]) (
  .seq (.seq (.region [
    ⟨some 19, .buildS false 1 [(.c (.int .u8 0)), (.c (.int .u8 0))], none⟩, 
    ⟨some 20, .call true F.log_Read [(.t 19)], none⟩, 
    ⟨some 18, .move false (.t 20), none⟩, 
    ⟨some 21, .ext 0 (.t 18), none⟩, 
    ⟨some 22, .ext 1 (.t 18), none⟩, 
    ⟨some 7, .move false (.t 21), none⟩, 
    ⟨some 8, .move false (.t 22), none⟩]) (
  .seq (.region [
    ⟨some 23, .move false (.t 8), none⟩, 
    ⟨some 24, .bin .neq (.t 23) (.c (.int .i64 0)), none⟩, 
    ⟨some 25, .move false (.t 24), none⟩, 
    ⟨some 26, .move false (.t 7), (some (25, false))⟩, 
    ⟨some 27, .len (.t 26), (some (25, false))⟩, 
    ⟨some 28, .bin .neq (.t 27) (.c (.int .i64 0)), (some (25, false))⟩, 
    ⟨some 29, .pick (.t 25) (.c (.bool true)) (.t 28), none⟩, 
    ⟨some 30, .move false (.t 29), none⟩, 
    ⟨some 31, .call true F.log_Whole [(.c (.lst .nil []))], (some (30, false))⟩, 
    ⟨some 32, .un .not (.t 31), (some (30, false))⟩, 
    ⟨some 33, .pick (.t 30) (.c (.bool true)) (.t 32), none⟩]) (
  .cond (.t 33) (.seq (.region [
    ⟨some 6, .move false (.c (.bool false)), none⟩]) (
  .ret)) (.skip)))) (
  .seq (.region [
    ⟨some 34, .move false (.t 0), none⟩, 
    ⟨some 35, .move false (.t 0), none⟩, 
    ⟨some 36, .len (.t 35), none⟩, 
    ⟨some 37, .mn (.t 36) [(.c (.int .i64 20))], none⟩, 
    ⟨some 38, .slice 1 (.t 34) none (some (.t 37)) none, none⟩, 
    ⟨some 0, .move false (.t 38), none⟩]) (
  .seq (.region [
    ⟨some 40, .move false (.t 0), none⟩, 
    ⟨some 41, .call true F.log_All [(.t 40)], none⟩, 
    ⟨some 39, .move false (.t 41), none⟩, 
    ⟨some 42, .ext 0 (.t 39), none⟩, 
    ⟨some 43, .ext 1 (.t 39), none⟩, 
    ⟨some 9, .move false (.t 42), none⟩, 
    ⟨some 10, .move false (.t 43), none⟩]) (
  .seq (.seq (.region [
    ⟨some 44, .move false (.t 10), none⟩, 
    ⟨some 45, .bin .neq (.t 44) (.c (.int .i64 0)), none⟩]) (
  .cond (.t 45) (.seq (.region [
    ⟨some 46, .move false (.t 0), none⟩, 
    ⟨some 47, .call true F.slices_ContainsFunc_bs [(.t 46), (.c (.func 71 []))], none⟩, 
    ⟨some 6, .move false (.t 47), none⟩]) (
  .ret)) (.skip))) (
  .seq (.region [
    ⟨some 49, .move false (.t 9), none⟩, 
    ⟨some 50, .call true F.log_Read [(.t 49)], none⟩, 
    ⟨some 48, .move false (.t 50), none⟩, 
    ⟨some 51, .ext 0 (.t 48), none⟩, 
    ⟨some 52, .ext 1 (.t 48), none⟩, 
    ⟨some 11, .move false (.t 51), none⟩, 
    ⟨some 12, .move false (.t 52), none⟩]) (
  .seq (.seq (.region [
    ⟨some 53, .move false (.t 12), none⟩, 
    ⟨some 54, .move false (.t 9), none⟩, 
    ⟨some 55, .len (.t 54), none⟩, 
    ⟨some 56, .bin .neq (.t 53) (.t 55), none⟩, 
    ⟨some 57, .move false (.t 56), none⟩, 
    ⟨some 58, .move false (.t 9), (some (57, false))⟩, 
    ⟨some 59, .call true F.log_Whole [(.t 58)], (some (57, false))⟩, 
    ⟨some 60, .un .not (.t 59), (some (57, false))⟩, 
    ⟨some 61, .pick (.t 57) (.c (.bool true)) (.t 60), none⟩, 
    ⟨some 62, .move false (.t 61), none⟩, 
    ⟨some 63, .move false (.t 11), (some (62, false))⟩, 
    ⟨some 64, .move false (.t 0), (some (62, false))⟩, 
    ⟨some 65, .call true F.slices_EqualFunc_bs [(.t 63), (.t 64), (.c (.func 65 []))], (some (62, false))⟩, 
    ⟨some 66, .un .not (.t 65), (some (62, false))⟩, 
    ⟨some 67, .pick (.t 62) (.c (.bool true)) (.t 66), none⟩]) (
  .cond (.t 67) (.seq (.region [
    ⟨some 6, .move false (.c (.bool false)), none⟩]) (
  .ret)) (.skip))) (
  .seq (.region [
    ⟨some 68, .move false (.t 1), none⟩, 
    ⟨some 69, .move false (.t 9), none⟩, 
    ⟨some 70, .len (.t 69), none⟩, 
    ⟨some 71, .bin .add (.t 70) (.c (.int .i64 1)), none⟩, 
    ⟨some 72, .call true F.gantmake_Below [(.t 68), (.t 71)], none⟩, 
    ⟨some 13, .move false (.t 72), none⟩]) (
  .seq (.region [
    ⟨some 74, .move false (.t 9), none⟩, 
    ⟨some 75, .move false (.t 13), none⟩, 
    ⟨some 76, .slice 1 (.t 74) none (some (.t 75)) none, none⟩, 
    ⟨some 77, .call true F.log_Read [(.t 76)], none⟩, 
    ⟨some 73, .move false (.t 77), none⟩, 
    ⟨some 78, .ext 0 (.t 73), none⟩, 
    ⟨some 79, .ext 1 (.t 73), none⟩, 
    ⟨some 11, .move false (.t 78), none⟩, 
    ⟨some 12, .move false (.t 79), none⟩]) (
  .seq (.seq (.region [
    ⟨some 80, .move false (.t 12), none⟩, 
    ⟨some 81, .move false (.t 13), none⟩, 
    ⟨some 82, .bin .gtr (.t 80) (.t 81), none⟩, 
    ⟨some 83, .move false (.t 82), none⟩, 
    ⟨some 84, .move false (.t 11), (some (83, false))⟩, 
    ⟨some 85, .len (.t 84), (some (83, false))⟩, 
    ⟨some 86, .move false (.t 0), (some (83, false))⟩, 
    ⟨some 87, .len (.t 86), (some (83, false))⟩, 
    ⟨some 88, .bin .gtr (.t 85) (.t 87), (some (83, false))⟩, 
    ⟨some 89, .pick (.t 83) (.c (.bool true)) (.t 88), none⟩, 
    ⟨some 90, .move false (.t 89), none⟩, 
    ⟨some 91, .move false (.t 11), (some (90, false))⟩, 
    ⟨some 92, .move false (.t 0), (some (90, false))⟩, 
    ⟨some 93, .move false (.t 11), (some (90, false))⟩, 
    ⟨some 94, .len (.t 93), (some (90, false))⟩, 
    ⟨some 95, .slice 1 (.t 92) none (some (.t 94)) none, (some (90, false))⟩, 
    ⟨some 96, .call true F.slices_EqualFunc_bs [(.t 91), (.t 95), (.c (.func 65 []))], (some (90, false))⟩, 
    ⟨some 97, .un .not (.t 96), (some (90, false))⟩, 
    ⟨some 98, .pick (.t 90) (.c (.bool true)) (.t 97), none⟩]) (
  .cond (.t 98) (.seq (.region [
    ⟨some 6, .move false (.c (.bool false)), none⟩]) (
  .ret)) (.skip))) (
  .seq (.seq (.region [
    ⟨some 99, .move false (.t 13), none⟩, 
    ⟨some 100, .move false (.t 9), none⟩, 
    ⟨some 101, .len (.t 100), none⟩, 
    ⟨some 102, .bin .eql (.t 99) (.t 101), none⟩, 
    ⟨some 103, .move false (.t 102), none⟩, 
    ⟨some 104, .move false (.t 2), (some (103, false))⟩, 
    ⟨some 105, .bin .eql (.t 104) (.c (.int .u8 0)), (some (103, false))⟩, 
    ⟨some 106, .pick (.t 103) (.c (.bool true)) (.t 105), none⟩]) (
  .cond (.t 106) (.seq (.region [
    ⟨some 6, .move false (.c (.bool true)), none⟩]) (
  .ret)) (.skip))) (
  .seq (.region [
    ⟨some 14, .move false (.c (.int .i64 0)), none⟩]) (
  .seq (.seq (.region [
    ⟨some 107, .move false (.t 0), none⟩, 
    ⟨some 108, .len (.t 107), none⟩, 
    ⟨some 109, .move false (.c (.int .i64 0)), none⟩]) (
  .block 0 (.loop (.seq (.region [
    ⟨some 110, .bin .lss (.t 109) (.t 108), none⟩]) (
  .seq (.cond (.t 110) (.skip) (.exit 0)) (
  .seq (.block 1 (.seq (.region [
    ⟨some 111, .iaddr 1 (.t 107) (.t 109), none⟩, 
    ⟨some 112, .load 2 false 1 (.t 111), none⟩, 
    ⟨some 16, .move false (.t 112), none⟩]) (
  .seq (.seq (.region [
    ⟨some 113, .move false (.t 13), none⟩, 
    ⟨some 114, .move false (.t 14), none⟩, 
    ⟨some 115, .bin .eql (.t 113) (.t 114), none⟩, 
    ⟨some 116, .move false (.t 115), none⟩, 
    ⟨some 117, .move false (.t 13), (some (116, false))⟩, 
    ⟨some 118, .move false (.t 14), (some (116, false))⟩, 
    ⟨some 119, .bin .add (.t 118) (.c (.int .i64 1)), (some (116, false))⟩, 
    ⟨some 120, .bin .eql (.t 117) (.t 119), (some (116, false))⟩, 
    ⟨some 121, .pick (.t 116) (.c (.bool true)) (.t 120), none⟩]) (
  .cond (.t 121) (.seq (.region [
    ⟨some 6, .move false (.c (.bool true)), none⟩]) (
  .ret)) (.skip))) (
  .region [
    ⟨some 122, .move false (.t 14), none⟩, 
    ⟨some 123, .move false (.t 16), none⟩, 
    ⟨some 124, .len (.t 123), none⟩, 
    ⟨some 125, .bin .add (.c (.int .i64 6)) (.t 124), none⟩, 
    ⟨some 126, .bin .add (.t 122) (.t 125), none⟩, 
    ⟨some 14, .move false (.t 126), none⟩])))) (
  .region [
    ⟨some 127, .bin .add (.t 109) (.c (.int .i64 1)), none⟩, 
    ⟨some 109, .move false (.t 127), none⟩]))))))) (
  .seq (.region [
    ⟨some 128, .move false (.t 9), none⟩, 
    ⟨some 129, .call true F.slices_Clone_byte [(.t 128)], none⟩, 
    ⟨some 17, .move true (.t 129), none⟩]) (
  .seq (.thaw 17 (.region [
    ⟨some 130, .move false (.t 17), none⟩, 
    ⟨some 131, .move false (.t 13), none⟩, 
    ⟨some 132, .iaddr 1 (.t 130) (.t 131), none⟩, 
    ⟨some 133, .load 2 false 1 (.t 132), none⟩, 
    ⟨some 134, .move false (.t 2), none⟩, 
    ⟨some 135, .bin .xor (.t 133) (.t 134), none⟩, 
    ⟨some 136, .iaddr 1 (.t 130) (.t 131), none⟩, 
    ⟨none, .store 1 (.t 136) (.t 135), none⟩])) (
  .seq (.own 17 false 1 (.grab 17 (.region [
    ⟨some 138, .move false (.t 17), none⟩, 
    ⟨some 139, .call true F.log_Read [(.t 138)], none⟩, 
    ⟨some 137, .move false (.t 139), none⟩, 
    ⟨some 140, .ext 0 (.t 137), none⟩, 
    ⟨some 141, .ext 1 (.t 137), none⟩, 
    ⟨some 11, .move false (.t 140), none⟩, 
    ⟨some 12, .move false (.t 141), none⟩]))) (
  .seq (.region [
    ⟨some 142, .move false (.t 12), none⟩, 
    ⟨some 143, .move false (.t 13), none⟩, 
    ⟨some 144, .bin .leq (.t 142) (.t 143), none⟩, 
    ⟨some 145, .move false (.t 144), none⟩, 
    ⟨some 146, .move false (.t 11), (some (145, true))⟩, 
    ⟨some 147, .len (.t 146), (some (145, true))⟩, 
    ⟨some 148, .move false (.t 0), (some (145, true))⟩, 
    ⟨some 149, .len (.t 148), (some (145, true))⟩, 
    ⟨some 150, .bin .lss (.t 147) (.t 149), (some (145, true))⟩, 
    ⟨some 151, .pick (.t 145) (.t 150) (.c (.bool false)), none⟩, 
    ⟨some 152, .move false (.t 151), none⟩, 
    ⟨some 153, .move false (.t 11), (some (152, true))⟩, 
    ⟨some 154, .move false (.t 0), (some (152, true))⟩, 
    ⟨some 155, .move false (.t 11), (some (152, true))⟩, 
    ⟨some 156, .len (.t 155), (some (152, true))⟩, 
    ⟨some 157, .slice 1 (.t 154) none (some (.t 156)) none, (some (152, true))⟩, 
    ⟨some 158, .call true F.slices_EqualFunc_bs [(.t 153), (.t 157), (.c (.func 65 []))], (some (152, true))⟩, 
    ⟨some 159, .pick (.t 152) (.t 158) (.c (.bool false)), none⟩, 
    ⟨some 6, .move false (.t 159), none⟩]) (
  .ret)))))))))))))))))
def R.gantkeep5_LogCut : List ARes := [.t 6]
set_option maxRecDepth 100000 in
theorem K.gantkeep5_LogCut : ckFun Try.prog Try.f9 C.gantkeep5_LogCut R.gantkeep5_LogCut = true := by kernel_rfl
/-- slices.ContainsFunc[[][]byte,[]byte] -/
def C.slices_ContainsFunc_bs : ACode :=
  .seq (.region [
    ⟨some 4, .move false (.c (.bool false)), none⟩]) (
  .seq (.region [
    ⟨some 5, .move false (.t 0), none⟩, 
    ⟨some 6, .move false (.t 1), none⟩, 
    ⟨some 7, .call true F.slices_IndexFunc_bs [(.t 5), (.t 6)], none⟩, 
    ⟨some 8, .bin .geq (.t 7) (.c (.int .i64 0)), none⟩, 
    ⟨some 4, .move false (.t 8), none⟩]) (
  .ret))
def R.slices_ContainsFunc_bs : List ARes := [.t 4]
set_option maxRecDepth 100000 in
theorem K.slices_ContainsFunc_bs : ckFun Try.prog Try.f70 C.slices_ContainsFunc_bs R.slices_ContainsFunc_bs = true := by kernel_rfl
/-- slices.IndexFunc[[][]byte,[]byte] -/
def C.slices_IndexFunc_bs : ACode :=
  .seq (.region [
    ⟨some 4, .move false (.c (.int .i64 0)), none⟩]) (
  .seq (.seq (.region [
    ⟨some 6, .move false (.t 0), none⟩, 
    ⟨some 7, .len (.t 6), none⟩, 
    ⟨some 8, .move false (.c (.int .i64 0)), none⟩]) (
  .block 0 (.loop (.seq (.region [
    ⟨some 9, .bin .lss (.t 8) (.t 7), none⟩]) (
  .seq (.cond (.t 9) (.skip) (.exit 0)) (
  .seq (.block 1 (.seq (.region [
    ⟨some 10, .move false (.t 8), none⟩, 
    ⟨some 5, .move false (.t 10), none⟩]) (
  .seq (.region [
    ⟨some 11, .move false (.t 1), none⟩, 
    ⟨some 12, .move false (.t 0), none⟩, 
    ⟨some 13, .move false (.t 5), none⟩, 
    ⟨some 14, .iaddr 1 (.t 12) (.t 13), none⟩, 
    ⟨some 15, .load 2 false 1 (.t 14), none⟩, 
    ⟨some 16, .callv true (.t 11) [(.t 15)], none⟩]) (
  .cond (.t 16) (.seq (.region [
    ⟨some 17, .move false (.t 5), none⟩, 
    ⟨some 4, .move false (.t 17), none⟩]) (
  .ret)) (.skip))))) (
  .region [
    ⟨some 18, .bin .add (.t 8) (.c (.int .i64 1)), none⟩, 
    ⟨some 8, .move false (.t 18), none⟩]))))))) (
  .seq (.region [
    ⟨some 4, .move false (.c (.int .i64 (-1))), none⟩]) (
  .ret)))
def R.slices_IndexFunc_bs : List ARes := [.t 4]
set_option maxRecDepth 100000 in
theorem K.slices_IndexFunc_bs : ckFun Try.prog Try.f156 C.slices_IndexFunc_bs R.slices_IndexFunc_bs = true := by kernel_rfl
/-- gantry/gantkeep5.LogCut$1 -/
def C.gantkeep5_LogCut_1 : ACode :=
  .seq (.region [
    ⟨some 2, .move false (.c (.bool false)), none⟩]) (
  .seq (.region [
    ⟨some 3, .move false (.t 0), none⟩, 
    ⟨some 4, .len (.t 3), none⟩, 
    ⟨some 5, .bin .gtr (.t 4) (.c (.int .i64 2000)), none⟩, 
    ⟨some 2, .move false (.t 5), none⟩]) (
  .ret))
def R.gantkeep5_LogCut_1 : List ARes := [.t 2]
set_option maxRecDepth 100000 in
theorem K.gantkeep5_LogCut_1 : ckFun Try.prog Try.f71 C.gantkeep5_LogCut_1 R.gantkeep5_LogCut_1 = true := by kernel_rfl
end Go.Proofs.Ytpdajkbfemcdlaa
