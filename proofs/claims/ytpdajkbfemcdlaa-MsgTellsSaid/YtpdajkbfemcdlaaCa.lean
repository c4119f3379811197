/- Annotated code of functions, checked against the program. -/
import Derived.Test.YtpdajkbfemcdlaaGeD
import Derived.Test.YtpdajkbfemcdlaaChecked
import Derived.Test.YtpdajkbfemcdlaaFn
import Derived.KernelRfl
namespace Go.Proofs.Ytpdajkbfemcdlaa
open Go.Ge
/-- gantry/msg.Sum -/
def C.msg_Sum : ACode :=
  .seq (.region [
    ⟨some 2, .move false (.c (.int .u32 0)), none⟩]) (
  .seq (.region [
    ⟨some 3, .move false (.c (.int .u32 4294967295)), none⟩]) (
  .seq (.seq (.region [
    ⟨some 6, .move false (.t 0), none⟩, 
    ⟨some 7, .len (.t 6), none⟩, 
    ⟨some 8, .move false (.c (.int .i64 0)), none⟩]) (
  .block 0 (.loop (.seq (.region [
    ⟨some 9, .bin .lss (.t 8) (.t 7), none⟩]) (
  .seq (.cond (.t 9) (.skip) (.exit 0)) (
  .seq (.block 1 (.seq (.region [
    ⟨some 10, .iaddr 1 (.t 6) (.t 8), none⟩, 
    ⟨some 11, .load 2 false 1 (.t 10), none⟩, 
    ⟨some 5, .move false (.t 11), none⟩]) (
  .seq (.region [
    ⟨some 12, .move false (.t 3), none⟩, 
    ⟨some 13, .move false (.t 5), none⟩, 
    ⟨some 14, .conv .u32 (.t 13), none⟩, 
    ⟨some 15, .bin .xor (.t 12) (.t 14), none⟩, 
    ⟨some 3, .move false (.t 15), none⟩]) (
  .seq (.region [
    ⟨some 16, .move false (.c (.int .i64 0)), none⟩]) (
  .block 2 (.loop (.seq (.region [
    ⟨some 17, .bin .lss (.t 16) (.c (.int .i64 8)), none⟩]) (
  .seq (.cond (.t 17) (.skip) (.exit 2)) (
  .seq (.block 3 (.region [
    ⟨some 18, .move false (.t 3), none⟩, 
    ⟨some 19, .bin .shr (.t 18) (.c (.int .u64 1)), none⟩, 
    ⟨some 20, .move false (.t 3), none⟩, 
    ⟨some 21, .bin .and (.t 20) (.c (.int .u32 1)), none⟩, 
    ⟨some 22, .bin .mul (.c (.int .u32 3988292384)) (.t 21), none⟩, 
    ⟨some 23, .bin .xor (.t 19) (.t 22), none⟩, 
    ⟨some 3, .move false (.t 23), none⟩])) (
  .region [
    ⟨some 24, .bin .add (.t 16) (.c (.int .i64 1)), none⟩, 
    ⟨some 16, .move false (.t 24), none⟩])))))))))) (
  .region [
    ⟨some 25, .bin .add (.t 8) (.c (.int .i64 1)), none⟩, 
    ⟨some 8, .move false (.t 25), none⟩]))))))) (
  .seq (.region [
    ⟨some 26, .move false (.t 3), none⟩, 
    ⟨some 27, .un .xor (.t 26), none⟩, 
    ⟨some 2, .move false (.t 27), none⟩]) (
  .ret))))
def R.msg_Sum : List ARes := [.t 2]
set_option maxRecDepth 100000 in
theorem K.msg_Sum : ckFun Try.prog Try.f46 C.msg_Sum R.msg_Sum = true := by kernel_rfl
/-- gantry/gantref5.Bytes -/
def C.gantref5_Bytes : ACode :=
  .seq (.region [
    ⟨some 4, .move false (.c (.lst .nil [])), none⟩]) (
  .seq (.region [
    ⟨some 7, .move false (.t 1), none⟩, 
    ⟨some 8, .mkslice 1 1 true (.int .u8 0) (.t 7), none⟩, 
    ⟨some 5, .move true (.t 8), none⟩]) (
  .seq (.seq (.region [
    ⟨some 9, .move false (.t 1), none⟩, 
    ⟨some 10, .bin .sub (.t 9) (.c (.int .i64 1)), none⟩, 
    ⟨some 6, .move false (.t 10), none⟩]) (
  .block 0 (.thaw 5 (.loop (.seq (.seq (.region [
    ⟨some 11, .move false (.t 6), none⟩, 
    ⟨some 12, .bin .geq (.t 11) (.c (.int .i64 0)), none⟩]) (
  .cond (.t 12) (.skip) (.exit 0))) (
  .seq (.block 1 (.seq (.region [
    ⟨some 15, .move false (.t 5), none⟩, 
    ⟨some 16, .move false (.t 6), none⟩, 
    ⟨some 17, .move false (.t 0), none⟩, 
    ⟨some 18, .conv .u8 (.t 17), none⟩, 
    ⟨some 19, .iaddr 1 (.t 15) (.t 16), none⟩, 
    ⟨none, .store 1 (.t 19) (.t 18), none⟩]) (
  .region [
    ⟨some 20, .move false (.t 0), none⟩, 
    ⟨some 21, .bin .quo (.t 20) (.c (.int .u64 256)), none⟩, 
    ⟨some 0, .move false (.t 21), none⟩]))) (
  .region [
    ⟨some 13, .move false (.t 6), none⟩, 
    ⟨some 14, .bin .sub (.t 13) (.c (.int .i64 1)), none⟩, 
    ⟨some 6, .move false (.t 14), none⟩]))))))) (
  .seq (.region [
    ⟨some 22, .move false (.t 5), none⟩, 
    ⟨some 4, .move false (.t 22), none⟩]) (
  .own 4 false 1 (.ret)))))
def R.gantref5_Bytes : List ARes := [.t 4]
set_option maxRecDepth 100000 in
theorem K.gantref5_Bytes : ckFun Try.prog Try.f155 C.gantref5_Bytes R.gantref5_Bytes = true := by kernel_rfl
end Go.Proofs.Ytpdajkbfemcdlaa
