/- Annotated code of functions, checked against the program. -/
import Derived.Test.YtpdajkbfemcdlaaGeD
import Derived.Test.YtpdajkbfemcdlaaChecked
import Derived.Test.YtpdajkbfemcdlaaFn
import Derived.KernelRfl
namespace Go.Proofs.Ytpdajkbfemcdlaa
open Go.Ge
/-- gantry/gantkeep5.ClockSure -/
def C.gantkeep5_ClockSure : ACode :=
  .seq (.region [
    ⟨some 10, .move false (.c (.bool false)), none⟩]) (
  .seq (.seq (.region [
    ⟨some 22, .call true F.clock_Before [(.c (.int .u32 3)), (.c (.int .u32 9)), (.c (.int .i64 5))], none⟩, 
    ⟨some 21, .move false (.t 22), none⟩, 
    ⟨some 23, .ext 0 (.t 21), none⟩, 
    ⟨some 24, .ext 1 (.t 21), none⟩, 
    ⟨some 11, .move false (.t 23), none⟩, 
    ⟨some 12, .move false (.t 24), none⟩]) (
  .seq (.region [
    ⟨some 25, .move false (.t 12), none⟩, 
    ⟨some 26, .bin .neq (.t 25) (.c (.int .i64 0)), none⟩, 
    ⟨some 27, .move false (.t 26), none⟩, 
    ⟨some 28, .move false (.t 11), (some (27, false))⟩, 
    ⟨some 29, .un .not (.t 28), (some (27, false))⟩, 
    ⟨some 30, .pick (.t 27) (.c (.bool true)) (.t 29), none⟩]) (
  .cond (.t 30) (.seq (.region [
    ⟨some 10, .move false (.c (.bool false)), none⟩]) (
  .ret)) (.skip)))) (
  .seq (.region [
    ⟨some 31, .move false (.t 1), none⟩, 
    ⟨some 32, .call true F.gantmake_Below [(.t 31), (.c (.int .i64 2001))], none⟩, 
    ⟨some 33, .move false (.t 2), none⟩, 
    ⟨some 34, .call true F.gantmake_Below [(.t 33), (.c (.int .i64 2001))], none⟩, 
    ⟨some 35, .move false (.t 4), none⟩, 
    ⟨some 36, .call true F.gantmake_Below [(.t 35), (.c (.int .i64 40))], none⟩, 
    ⟨some 1, .move false (.t 32), none⟩, 
    ⟨some 2, .move false (.t 34), none⟩, 
    ⟨some 4, .move false (.t 36), none⟩]) (
  .seq (.region [
    ⟨some 37, .move false (.t 0), none⟩, 
    ⟨some 38, .move false (.t 1), none⟩, 
    ⟨some 39, .move false (.t 3), none⟩, 
    ⟨some 40, .call true F.clock_Show [(.t 37), (.c (.int .i64 0)), (.t 38), (.t 39)], none⟩, 
    ⟨some 41, .move false (.t 0), none⟩, 
    ⟨some 42, .move false (.t 2), none⟩, 
    ⟨some 43, .move false (.t 3), none⟩, 
    ⟨some 44, .call true F.clock_Show [(.t 41), (.c (.int .i64 1)), (.t 42), (.t 43)], none⟩, 
    ⟨some 13, .move false (.t 40), none⟩, 
    ⟨some 14, .move false (.t 44), none⟩]) (
  .seq (.seq (.region [
    ⟨some 45, .move false (.t 0), none⟩, 
    ⟨some 46, .move false (.t 1), none⟩, 
    ⟨some 47, .conv .u32 (.t 46), none⟩, 
    ⟨some 48, .bin .add (.t 45) (.t 47), none⟩, 
    ⟨some 49, .move false (.t 13), none⟩, 
    ⟨some 50, .call true F.clock_Diff [(.t 48), (.t 49)], none⟩, 
    ⟨some 51, .move false (.t 4), none⟩, 
    ⟨some 52, .bin .gtr (.t 50) (.t 51), none⟩, 
    ⟨some 53, .move false (.t 52), none⟩, 
    ⟨some 54, .move false (.t 0), (some (53, false))⟩, 
    ⟨some 55, .move false (.t 2), (some (53, false))⟩, 
    ⟨some 56, .conv .u32 (.t 55), (some (53, false))⟩, 
    ⟨some 57, .bin .add (.t 54) (.t 56), (some (53, false))⟩, 
    ⟨some 58, .move false (.t 14), (some (53, false))⟩, 
    ⟨some 59, .call true F.clock_Diff [(.t 57), (.t 58)], (some (53, false))⟩, 
    ⟨some 60, .move false (.t 4), (some (53, false))⟩, 
    ⟨some 61, .bin .gtr (.t 59) (.t 60), (some (53, false))⟩, 
    ⟨some 62, .pick (.t 53) (.c (.bool true)) (.t 61), none⟩]) (
  .cond (.t 62) (.seq (.region [
    ⟨some 10, .move false (.c (.bool true)), none⟩]) (
  .ret)) (.skip))) (
  .seq (.region [
    ⟨some 64, .move false (.t 13), none⟩, 
    ⟨some 65, .move false (.t 14), none⟩, 
    ⟨some 66, .move false (.t 4), none⟩, 
    ⟨some 67, .call true F.clock_Before [(.t 64), (.t 65), (.t 66)], none⟩, 
    ⟨some 63, .move false (.t 67), none⟩, 
    ⟨some 68, .ext 0 (.t 63), none⟩, 
    ⟨some 69, .ext 1 (.t 63), none⟩, 
    ⟨some 15, .move false (.t 68), none⟩, 
    ⟨some 16, .move false (.t 69), none⟩]) (
  .seq (.region [
    ⟨some 71, .move false (.t 13), none⟩, 
    ⟨some 72, .move false (.t 4), none⟩, 
    ⟨some 73, .call true F.clock_Range [(.t 71), (.t 72)], none⟩, 
    ⟨some 70, .move false (.t 73), none⟩, 
    ⟨some 74, .ext 0 (.t 70), none⟩, 
    ⟨some 75, .ext 1 (.t 70), none⟩, 
    ⟨some 76, .ext 2 (.t 70), none⟩, 
    ⟨some 17, .move false (.t 74), none⟩, 
    ⟨some 18, .move false (.t 75), none⟩, 
    ⟨some 19, .move false (.t 76), none⟩]) (
  .seq (.region [
    ⟨some 77, .move false (.t 0), none⟩, 
    ⟨some 78, .move false (.t 1), none⟩, 
    ⟨some 79, .conv .u32 (.t 78), none⟩, 
    ⟨some 80, .bin .add (.t 77) (.t 79), none⟩, 
    ⟨some 20, .move false (.t 80), none⟩]) (
  .seq (.region [
    ⟨some 81, .move false (.t 16), none⟩, 
    ⟨some 82, .bin .eql (.t 81) (.c (.int .i64 0)), none⟩, 
    ⟨some 83, .move false (.t 82), none⟩, 
    ⟨some 84, .move false (.t 19), (some (83, true))⟩, 
    ⟨some 85, .bin .eql (.t 84) (.c (.int .i64 0)), (some (83, true))⟩, 
    ⟨some 86, .pick (.t 83) (.t 85) (.c (.bool false)), none⟩, 
    ⟨some 87, .move false (.t 86), none⟩, 
    ⟨some 88, .move false (.t 15), (some (87, true))⟩, 
    ⟨some 89, .un .not (.t 88), (some (87, true))⟩, 
    ⟨some 90, .move false (.t 89), (some (87, true))⟩, 
    ⟨some 91, .move false (.t 1), (some (90, false))⟩, 
    ⟨some 92, .move false (.t 2), (some (90, false))⟩, 
    ⟨some 93, .bin .lss (.t 91) (.t 92), (some (90, false))⟩, 
    ⟨some 94, .pick (.t 90) (.c (.bool true)) (.t 93), (some (87, true))⟩, 
    ⟨some 95, .pick (.t 87) (.t 94) (.c (.bool false)), none⟩, 
    ⟨some 96, .move false (.t 95), none⟩, 
    ⟨some 97, .move false (.t 20), (some (96, true))⟩, 
    ⟨some 98, .move false (.t 17), (some (96, true))⟩, 
    ⟨some 99, .call true F.clock_Diff [(.t 97), (.t 98)], (some (96, true))⟩, 
    ⟨some 100, .bin .geq (.t 99) (.c (.int .i64 0)), (some (96, true))⟩, 
    ⟨some 101, .pick (.t 96) (.t 100) (.c (.bool false)), none⟩, 
    ⟨some 102, .move false (.t 101), none⟩, 
    ⟨some 103, .move false (.t 18), (some (102, true))⟩, 
    ⟨some 104, .move false (.t 20), (some (102, true))⟩, 
    ⟨some 105, .call true F.clock_Diff [(.t 103), (.t 104)], (some (102, true))⟩, 
    ⟨some 106, .bin .geq (.t 105) (.c (.int .i64 0)), (some (102, true))⟩, 
    ⟨some 107, .pick (.t 102) (.t 106) (.c (.bool false)), none⟩, 
    ⟨some 10, .move false (.t 107), none⟩]) (
  .ret)))))))))
def R.gantkeep5_ClockSure : List ARes := [.t 10]
set_option maxRecDepth 100000 in
theorem K.gantkeep5_ClockSure : ckFun Try.prog Try.f3 C.gantkeep5_ClockSure R.gantkeep5_ClockSure = true := by kernel_rfl
/-- gantry/gantmake.Below -/
def C.gantmake_Below : ACode :=
  .seq (.region [
    ⟨some 4, .move false (.c (.int .i64 0)), none⟩]) (
  .seq (.region [
    ⟨some 5, .move false (.t 0), none⟩, 
    ⟨some 6, .move false (.t 1), none⟩, 
    ⟨some 7, .bin .rem (.t 5) (.t 6), none⟩, 
    ⟨some 0, .move false (.t 7), none⟩]) (
  .seq (.seq (.region [
    ⟨some 8, .move false (.t 0), none⟩, 
    ⟨some 9, .bin .lss (.t 8) (.c (.int .i64 0)), none⟩]) (
  .cond (.t 9) (.region [
    ⟨some 10, .move false (.t 0), none⟩, 
    ⟨some 11, .move false (.t 1), none⟩, 
    ⟨some 12, .bin .add (.t 10) (.t 11), none⟩, 
    ⟨some 0, .move false (.t 12), none⟩]) (.skip))) (
  .seq (.region [
    ⟨some 13, .move false (.t 0), none⟩, 
    ⟨some 4, .move false (.t 13), none⟩]) (
  .ret))))
def R.gantmake_Below : List ARes := [.t 4]
set_option maxRecDepth 100000 in
theorem K.gantmake_Below : ckFun Try.prog Try.f42 C.gantmake_Below R.gantmake_Below = true := by kernel_rfl
/-- gantry/clock.Before -/
def C.clock_Before : ACode :=
  .seq (.region [
    ⟨some 6, .move false (.c (.bool false)), none⟩, 
    ⟨some 7, .move false (.c (.int .i64 0)), none⟩]) (
  .seq (.seq (.region [
    ⟨some 8, .move false (.t 2), none⟩, 
    ⟨some 9, .bin .lss (.t 8) (.c (.int .i64 0)), none⟩, 
    ⟨some 10, .move false (.t 9), none⟩, 
    ⟨some 11, .move false (.t 2), (some (10, false))⟩, 
    ⟨some 12, .bin .gtr (.t 11) (.c (.int .i64 1048576)), (some (10, false))⟩, 
    ⟨some 13, .pick (.t 10) (.c (.bool true)) (.t 12), none⟩]) (
  .cond (.t 13) (.seq (.region [
    ⟨some 6, .move false (.c (.bool false)), none⟩, 
    ⟨some 7, .move false (.c (.int .i64 1)), none⟩]) (
  .ret)) (.skip))) (
  .seq (.region [
    ⟨some 14, .move false (.t 1), none⟩, 
    ⟨some 15, .move false (.t 0), none⟩, 
    ⟨some 16, .call true F.clock_Diff [(.t 14), (.t 15)], none⟩, 
    ⟨some 17, .move false (.t 2), none⟩, 
    ⟨some 18, .bin .gtr (.t 16) (.t 17), none⟩, 
    ⟨some 6, .move false (.t 18), none⟩, 
    ⟨some 7, .move false (.c (.int .i64 0)), none⟩]) (
  .ret)))
def R.clock_Before : List ARes := [.t 6, .t 7]
set_option maxRecDepth 100000 in
theorem K.clock_Before : ckFun Try.prog Try.f41 C.clock_Before R.clock_Before = true := by kernel_rfl
/-- gantry/clock.Diff -/
def C.clock_Diff : ACode :=
  .seq (.region [
    ⟨some 4, .move false (.c (.int .i64 0)), none⟩]) (
  .seq (.region [
    ⟨some 5, .move false (.t 0), none⟩, 
    ⟨some 6, .move false (.t 1), none⟩, 
    ⟨some 7, .bin .sub (.t 5) (.t 6), none⟩, 
    ⟨some 8, .conv .i32 (.t 7), none⟩, 
    ⟨some 9, .conv .i64 (.t 8), none⟩, 
    ⟨some 4, .move false (.t 9), none⟩]) (
  .ret))
def R.clock_Diff : List ARes := [.t 4]
set_option maxRecDepth 100000 in
theorem K.clock_Diff : ckFun Try.prog Try.f44 C.clock_Diff R.clock_Diff = true := by kernel_rfl
/-- gantry/clock.Show -/
def C.clock_Show : ACode :=
  .seq (.region [
    ⟨some 8, .move false (.c (.int .u32 0)), none⟩]) (
  .seq (.region [
    ⟨some 9, .move false (.c (.int .i64 0)), none⟩]) (
  .seq (.seq (.region [
    ⟨some 12, .move false (.t 3), none⟩, 
    ⟨some 13, .len (.t 12), none⟩, 
    ⟨some 14, .move false (.c (.int .i64 0)), none⟩]) (
  .block 0 (.loop (.seq (.region [
    ⟨some 15, .bin .lss (.t 14) (.t 13), none⟩]) (
  .seq (.cond (.t 15) (.skip) (.exit 0)) (
  .seq (.block 1 (.seq (.region [
    ⟨some 16, .iaddr 3 (.t 12) (.t 14), none⟩, 
    ⟨some 17, .load 2 true 3 (.t 16), none⟩, 
    ⟨some 11, .alloc false [(.int .i64 0), (.int .i64 0), (.int .i64 0)], none⟩, 
    ⟨none, .store 3 (.t 11) (.t 17), none⟩]) (
  .seq (.region [
    ⟨some 18, .faddr 1 (.t 11), none⟩, 
    ⟨some 19, .load 2 false 1 (.t 18), none⟩, 
    ⟨some 20, .bin .eql (.t 19) (.c (.int .i64 5)), none⟩, 
    ⟨some 21, .move false (.t 20), none⟩, 
    ⟨some 22, .faddr 2 (.t 11), (some (21, true))⟩, 
    ⟨some 23, .load 2 false 1 (.t 22), (some (21, true))⟩, 
    ⟨some 24, .move false (.t 1), (some (21, true))⟩, 
    ⟨some 25, .bin .eql (.t 23) (.t 24), (some (21, true))⟩, 
    ⟨some 26, .pick (.t 21) (.t 25) (.c (.bool false)), none⟩, 
    ⟨some 27, .move false (.t 26), none⟩, 
    ⟨some 28, .faddr 0 (.t 11), (some (27, true))⟩, 
    ⟨some 29, .load 2 false 1 (.t 28), (some (27, true))⟩, 
    ⟨some 30, .bin .geq (.t 29) (.c (.int .i64 0)), (some (27, true))⟩, 
    ⟨some 31, .pick (.t 27) (.t 30) (.c (.bool false)), none⟩, 
    ⟨some 32, .move false (.t 31), none⟩, 
    ⟨some 33, .faddr 0 (.t 11), (some (32, true))⟩, 
    ⟨some 34, .load 2 false 1 (.t 33), (some (32, true))⟩, 
    ⟨some 35, .move false (.t 2), (some (32, true))⟩, 
    ⟨some 36, .bin .leq (.t 34) (.t 35), (some (32, true))⟩, 
    ⟨some 37, .pick (.t 32) (.t 36) (.c (.bool false)), none⟩]) (
  .cond (.t 37) (.region [
    ⟨some 38, .move false (.t 9), none⟩, 
    ⟨some 39, .bin .add (.t 38) (.c (.int .i64 1)), none⟩, 
    ⟨some 9, .move false (.t 39), none⟩]) (.skip))))) (
  .region [
    ⟨some 40, .bin .add (.t 14) (.c (.int .i64 1)), none⟩, 
    ⟨some 14, .move false (.t 40), none⟩]))))))) (
  .seq (.region [
    ⟨some 41, .move false (.t 0), none⟩, 
    ⟨some 42, .move false (.t 2), none⟩, 
    ⟨some 43, .mx (.t 42) [(.c (.int .i64 0))], none⟩, 
    ⟨some 44, .move false (.t 9), none⟩, 
    ⟨some 45, .bin .sub (.t 43) (.t 44), none⟩, 
    ⟨some 46, .call true F.clock_After [(.t 41), (.t 45)], none⟩, 
    ⟨some 8, .move false (.t 46), none⟩]) (
  .ret))))
def R.clock_Show : List ARes := [.t 8]
set_option maxRecDepth 100000 in
theorem K.clock_Show : ckFun Try.prog Try.f43 C.clock_Show R.clock_Show = true := by kernel_rfl
/-- gantry/clock.Range -/
def C.clock_Range : ACode :=
  .seq (.region [
    ⟨some 4, .move false (.c (.int .u32 0)), none⟩, 
    ⟨some 5, .move false (.c (.int .u32 0)), none⟩, 
    ⟨some 6, .move false (.c (.int .i64 0)), none⟩]) (
  .seq (.seq (.region [
    ⟨some 7, .move false (.t 1), none⟩, 
    ⟨some 8, .bin .lss (.t 7) (.c (.int .i64 0)), none⟩, 
    ⟨some 9, .move false (.t 8), none⟩, 
    ⟨some 10, .move false (.t 1), (some (9, false))⟩, 
    ⟨some 11, .bin .gtr (.t 10) (.c (.int .i64 1048576)), (some (9, false))⟩, 
    ⟨some 12, .pick (.t 9) (.c (.bool true)) (.t 11), none⟩]) (
  .cond (.t 12) (.seq (.region [
    ⟨some 4, .move false (.c (.int .u32 0)), none⟩, 
    ⟨some 5, .move false (.c (.int .u32 0)), none⟩, 
    ⟨some 6, .move false (.c (.int .i64 1)), none⟩]) (
  .ret)) (.skip))) (
  .seq (.region [
    ⟨some 13, .move false (.t 0), none⟩, 
    ⟨some 14, .move false (.t 0), none⟩, 
    ⟨some 15, .move false (.t 1), none⟩, 
    ⟨some 16, .call true F.clock_After [(.t 14), (.t 15)], none⟩, 
    ⟨some 4, .move false (.t 13), none⟩, 
    ⟨some 5, .move false (.t 16), none⟩, 
    ⟨some 6, .move false (.c (.int .i64 0)), none⟩]) (
  .ret)))
def R.clock_Range : List ARes := [.t 4, .t 5, .t 6]
set_option maxRecDepth 100000 in
theorem K.clock_Range : ckFun Try.prog Try.f45 C.clock_Range R.clock_Range = true := by kernel_rfl
/-- gantry/clock.After -/
def C.clock_After : ACode :=
  .seq (.region [
    ⟨some 4, .move false (.c (.int .u32 0)), none⟩]) (
  .seq (.region [
    ⟨some 5, .move false (.t 0), none⟩, 
    ⟨some 6, .move false (.t 1), none⟩, 
    ⟨some 7, .conv .u32 (.t 6), none⟩, 
    ⟨some 8, .bin .add (.t 5) (.t 7), none⟩, 
    ⟨some 4, .move false (.t 8), none⟩]) (
  .ret))
def R.clock_After : List ARes := [.t 4]
set_option maxRecDepth 100000 in
theorem K.clock_After : ckFun Try.prog Try.f52 C.clock_After R.clock_After = true := by kernel_rfl
/-- gantry/clock.Middle -/
def C.clock_Middle : ACode :=
  .seq (.region [
    ⟨some 4, .move false (.c (.int .u32 0)), none⟩]) (
  .seq (.region [
    ⟨some 5, .move false (.t 0), none⟩, 
    ⟨some 6, .move false (.t 1), none⟩, 
    ⟨some 7, .move false (.t 0), none⟩, 
    ⟨some 8, .call true F.clock_Diff [(.t 6), (.t 7)], none⟩, 
    ⟨some 9, .bin .quo (.t 8) (.c (.int .i64 2)), none⟩, 
    ⟨some 10, .call true F.clock_After [(.t 5), (.t 9)], none⟩, 
    ⟨some 4, .move false (.t 10), none⟩]) (
  .ret))
def R.clock_Middle : List ARes := [.t 4]
set_option maxRecDepth 100000 in
theorem K.clock_Middle : ckFun Try.prog Try.f56 C.clock_Middle R.clock_Middle = true := by kernel_rfl
/-- gantry/clock.Latest -/
def C.clock_Latest : ACode :=
  .seq (.region [
    ⟨some 2, .move false (.c (.int .i64 0)), none⟩]) (
  .seq (.seq (.region [
    ⟨some 8, .move false (.t 0), none⟩, 
    ⟨some 9, .len (.t 8), none⟩, 
    ⟨some 10, .move false (.c (.int .i64 0)), none⟩]) (
  .block 0 (.loop (.seq (.region [
    ⟨some 11, .bin .lss (.t 10) (.t 9), none⟩]) (
  .seq (.cond (.t 11) (.skip) (.exit 0)) (
  .seq (.block 1 (.seq (.region [
    ⟨some 12, .move false (.t 10), none⟩, 
    ⟨some 13, .iaddr 1 (.t 8) (.t 10), none⟩, 
    ⟨some 14, .load 2 false 1 (.t 13), none⟩, 
    ⟨some 3, .move false (.t 12), none⟩, 
    ⟨some 4, .move false (.t 14), none⟩]) (
  .seq (.region [
    ⟨some 5, .move false (.c (.bool true)), none⟩]) (
  .seq (.seq (.region [
    ⟨some 15, .move false (.t 0), none⟩, 
    ⟨some 16, .len (.t 15), none⟩, 
    ⟨some 17, .move false (.c (.int .i64 0)), none⟩]) (
  .block 2 (.loop (.seq (.region [
    ⟨some 18, .bin .lss (.t 17) (.t 16), none⟩]) (
  .seq (.cond (.t 18) (.skip) (.exit 2)) (
  .seq (.block 3 (.seq (.region [
    ⟨some 19, .iaddr 1 (.t 15) (.t 17), none⟩, 
    ⟨some 20, .load 2 false 1 (.t 19), none⟩, 
    ⟨some 7, .move false (.t 20), none⟩]) (
  .region [
    ⟨some 21, .move false (.t 5), none⟩, 
    ⟨some 22, .move false (.t 21), none⟩, 
    ⟨some 23, .move false (.t 7), (some (22, true))⟩, 
    ⟨some 24, .move false (.t 4), (some (22, true))⟩, 
    ⟨some 25, .call true F.clock_Diff [(.t 23), (.t 24)], (some (22, true))⟩, 
    ⟨some 26, .bin .leq (.t 25) (.c (.int .i64 0)), (some (22, true))⟩, 
    ⟨some 27, .pick (.t 22) (.t 26) (.c (.bool false)), none⟩, 
    ⟨some 5, .move false (.t 27), none⟩]))) (
  .region [
    ⟨some 28, .bin .add (.t 17) (.c (.int .i64 1)), none⟩, 
    ⟨some 17, .move false (.t 28), none⟩]))))))) (
  .seq (.region [
    ⟨some 29, .move false (.t 5), none⟩]) (
  .cond (.t 29) (.seq (.region [
    ⟨some 30, .move false (.t 3), none⟩, 
    ⟨some 2, .move false (.t 30), none⟩]) (
  .ret)) (.skip))))))) (
  .region [
    ⟨some 31, .bin .add (.t 10) (.c (.int .i64 1)), none⟩, 
    ⟨some 10, .move false (.t 31), none⟩]))))))) (
  .seq (.region [
    ⟨some 2, .move false (.c (.int .i64 (-1))), none⟩]) (
  .ret)))
def R.clock_Latest : List ARes := [.t 2]
set_option maxRecDepth 100000 in
theorem K.clock_Latest : ckFun Try.prog Try.f55 C.clock_Latest R.clock_Latest = true := by kernel_rfl
/-- gantry/gantlaw5.ClockTells -/
def C.gantlaw5_ClockTells : ACode :=
  .seq (.region [
    ⟨some 13, .bx true (.t 6), none⟩, 
    ⟨some 14, .move false (.c (.bool false)), none⟩]) (
  .seq (.seq (.region [
    ⟨some 25, .call true F.clock_Diff [(.c (.int .u32 5)), (.c (.int .u32 3))], none⟩, 
    ⟨some 26, .bin .neq (.t 25) (.c (.int .i64 2)), none⟩, 
    ⟨some 27, .move false (.t 26), none⟩, 
    ⟨some 28, .call true F.clock_Diff [(.c (.int .u32 0)), (.c (.int .u32 4294967295))], (some (27, false))⟩, 
    ⟨some 29, .bin .neq (.t 28) (.c (.int .i64 1)), (some (27, false))⟩, 
    ⟨some 30, .pick (.t 27) (.c (.bool true)) (.t 29), none⟩]) (
  .cond (.t 30) (.seq (.region [
    ⟨some 14, .move false (.c (.bool false)), none⟩]) (
  .ret)) (.skip))) (
  .seq (.seq (.region [
    ⟨some 31, .move false (.t 0), none⟩, 
    ⟨some 32, .move false (.t 1), none⟩, 
    ⟨some 33, .call true F.clock_Diff [(.t 31), (.t 32)], none⟩, 
    ⟨some 34, .move false (.t 0), none⟩, 
    ⟨some 35, .move false (.t 1), none⟩, 
    ⟨some 36, .call true F.gantref5_Later [(.t 34), (.t 35)], none⟩, 
    ⟨some 37, .bin .neq (.t 33) (.t 36), none⟩, 
    ⟨some 38, .move false (.t 37), none⟩, 
    ⟨some 39, .move false (.t 0), (some (38, false))⟩, 
    ⟨some 40, .move false (.t 2), (some (38, false))⟩, 
    ⟨some 41, .call true F.clock_After [(.t 39), (.t 40)], (some (38, false))⟩, 
    ⟨some 42, .move false (.t 0), (some (38, false))⟩, 
    ⟨some 43, .conv .i64 (.t 42), (some (38, false))⟩, 
    ⟨some 44, .move false (.t 2), (some (38, false))⟩, 
    ⟨some 45, .bin .add (.t 43) (.t 44), (some (38, false))⟩, 
    ⟨some 46, .conv .u32 (.t 45), (some (38, false))⟩, 
    ⟨some 47, .bin .neq (.t 41) (.t 46), (some (38, false))⟩, 
    ⟨some 48, .pick (.t 38) (.c (.bool true)) (.t 47), none⟩]) (
  .cond (.t 48) (.seq (.region [
    ⟨some 14, .move false (.c (.bool false)), none⟩]) (
  .ret)) (.skip))) (
  .seq (.region [
    ⟨some 15, .move false (.c (.int .i64 0)), none⟩]) (
  .seq (.seq (.region [
    ⟨some 49, .move false (.t 5), none⟩, 
    ⟨some 50, .len (.t 49), none⟩, 
    ⟨some 51, .move false (.c (.int .i64 0)), none⟩]) (
  .block 0 (.loop (.seq (.region [
    ⟨some 52, .bin .lss (.t 51) (.t 50), none⟩]) (
  .seq (.cond (.t 52) (.skip) (.exit 0)) (
  .seq (.block 1 (.seq (.region [
    ⟨some 53, .iaddr 3 (.t 49) (.t 51), none⟩, 
    ⟨some 54, .load 2 true 3 (.t 53), none⟩, 
    ⟨some 17, .alloc false [(.int .i64 0), (.int .i64 0), (.int .i64 0)], none⟩, 
    ⟨none, .store 3 (.t 17) (.t 54), none⟩]) (
  .seq (.region [
    ⟨some 55, .faddr 1 (.t 17), none⟩, 
    ⟨some 56, .load 2 false 1 (.t 55), none⟩, 
    ⟨some 57, .bin .eql (.t 56) (.c (.int .i64 5)), none⟩, 
    ⟨some 58, .move false (.t 57), none⟩, 
    ⟨some 59, .faddr 2 (.t 17), (some (58, true))⟩, 
    ⟨some 60, .load 2 false 1 (.t 59), (some (58, true))⟩, 
    ⟨some 61, .move false (.t 4), (some (58, true))⟩, 
    ⟨some 62, .bin .eql (.t 60) (.t 61), (some (58, true))⟩, 
    ⟨some 63, .pick (.t 58) (.t 62) (.c (.bool false)), none⟩, 
    ⟨some 64, .move false (.t 63), none⟩, 
    ⟨some 65, .faddr 0 (.t 17), (some (64, true))⟩, 
    ⟨some 66, .load 2 false 1 (.t 65), (some (64, true))⟩, 
    ⟨some 67, .bin .leq (.c (.int .i64 0)) (.t 66), (some (64, true))⟩, 
    ⟨some 68, .pick (.t 64) (.t 67) (.c (.bool false)), none⟩, 
    ⟨some 69, .move false (.t 68), none⟩, 
    ⟨some 70, .faddr 0 (.t 17), (some (69, true))⟩, 
    ⟨some 71, .load 2 false 1 (.t 70), (some (69, true))⟩, 
    ⟨some 72, .move false (.t 2), (some (69, true))⟩, 
    ⟨some 73, .bin .leq (.t 71) (.t 72), (some (69, true))⟩, 
    ⟨some 74, .pick (.t 69) (.t 73) (.c (.bool false)), none⟩]) (
  .cond (.t 74) (.region [
    ⟨some 75, .move false (.t 15), none⟩, 
    ⟨some 76, .bin .add (.t 75) (.c (.int .i64 1)), none⟩, 
    ⟨some 15, .move false (.t 76), none⟩]) (.skip))))) (
  .region [
    ⟨some 77, .bin .add (.t 51) (.c (.int .i64 1)), none⟩, 
    ⟨some 51, .move false (.t 77), none⟩]))))))) (
  .seq (.seq (.region [
    ⟨some 78, .move false (.t 0), none⟩, 
    ⟨some 79, .move false (.t 4), none⟩, 
    ⟨some 80, .move false (.t 2), none⟩, 
    ⟨some 81, .move false (.t 5), none⟩, 
    ⟨some 82, .call true F.clock_Show [(.t 78), (.t 79), (.t 80), (.t 81)], none⟩, 
    ⟨some 83, .move false (.t 0), none⟩, 
    ⟨some 84, .move false (.t 2), none⟩, 
    ⟨some 85, .mx (.t 84) [(.c (.int .i64 0))], none⟩, 
    ⟨some 86, .conv .u32 (.t 85), none⟩, 
    ⟨some 87, .bin .add (.t 83) (.t 86), none⟩, 
    ⟨some 88, .move false (.t 15), none⟩, 
    ⟨some 89, .conv .u32 (.t 88), none⟩, 
    ⟨some 90, .bin .sub (.t 87) (.t 89), none⟩, 
    ⟨some 91, .bin .neq (.t 82) (.t 90), none⟩]) (
  .cond (.t 91) (.seq (.region [
    ⟨some 14, .move false (.c (.bool false)), none⟩]) (
  .ret)) (.skip))) (
  .seq (.region [
    ⟨some 93, .move false (.t 0), none⟩, 
    ⟨some 94, .move false (.t 1), none⟩, 
    ⟨some 95, .move false (.t 3), none⟩, 
    ⟨some 96, .call true F.clock_Before [(.t 93), (.t 94), (.t 95)], none⟩, 
    ⟨some 92, .move false (.t 96), none⟩, 
    ⟨some 97, .ext 0 (.t 92), none⟩, 
    ⟨some 98, .ext 1 (.t 92), none⟩, 
    ⟨some 18, .move false (.t 97), none⟩, 
    ⟨some 19, .move false (.t 98), none⟩]) (
  .seq (.region [
    ⟨some 100, .move false (.t 0), none⟩, 
    ⟨some 101, .move false (.t 3), none⟩, 
    ⟨some 102, .call true F.clock_Range [(.t 100), (.t 101)], none⟩, 
    ⟨some 99, .move false (.t 102), none⟩, 
    ⟨some 103, .ext 0 (.t 99), none⟩, 
    ⟨some 104, .ext 1 (.t 99), none⟩, 
    ⟨some 105, .ext 2 (.t 99), none⟩, 
    ⟨some 20, .move false (.t 103), none⟩, 
    ⟨some 21, .move false (.t 104), none⟩, 
    ⟨some 22, .move false (.t 105), none⟩]) (
  .seq (.seq (.region [
    ⟨some 106, .move false (.t 3), none⟩, 
    ⟨some 107, .bin .lss (.t 106) (.c (.int .i64 0)), none⟩, 
    ⟨some 108, .move false (.t 107), none⟩, 
    ⟨some 109, .move false (.t 3), (some (108, false))⟩, 
    ⟨some 110, .bin .gtr (.t 109) (.c (.int .i64 1048576)), (some (108, false))⟩, 
    ⟨some 111, .pick (.t 108) (.c (.bool true)) (.t 110), none⟩]) (
  .cond (.t 111) (.seq (.region [
    ⟨some 112, .move false (.t 19), none⟩, 
    ⟨some 113, .bin .eql (.t 112) (.c (.int .i64 1)), none⟩, 
    ⟨some 114, .move false (.t 113), none⟩, 
    ⟨some 115, .move false (.t 18), (some (114, true))⟩, 
    ⟨some 116, .un .not (.t 115), (some (114, true))⟩, 
    ⟨some 117, .pick (.t 114) (.t 116) (.c (.bool false)), none⟩, 
    ⟨some 118, .move false (.t 117), none⟩, 
    ⟨some 119, .move false (.t 22), (some (118, true))⟩, 
    ⟨some 120, .bin .eql (.t 119) (.c (.int .i64 1)), (some (118, true))⟩, 
    ⟨some 121, .pick (.t 118) (.t 120) (.c (.bool false)), none⟩, 
    ⟨some 122, .move false (.t 121), none⟩, 
    ⟨some 123, .move false (.t 20), (some (122, true))⟩, 
    ⟨some 124, .bin .eql (.t 123) (.c (.int .u32 0)), (some (122, true))⟩, 
    ⟨some 125, .pick (.t 122) (.t 124) (.c (.bool false)), none⟩, 
    ⟨some 126, .move false (.t 125), none⟩, 
    ⟨some 127, .move false (.t 21), (some (126, true))⟩, 
    ⟨some 128, .bin .eql (.t 127) (.c (.int .u32 0)), (some (126, true))⟩, 
    ⟨some 129, .pick (.t 126) (.t 128) (.c (.bool false)), none⟩, 
    ⟨some 14, .move false (.t 129), none⟩]) (
  .ret)) (.skip))) (
  .seq (.region [
    ⟨some 23, .move false (.c (.int .i64 (-1))), none⟩]) (
  .seq (.seq (.region [
    ⟨some 130, .load 2 false 1 (.t 13), none⟩, 
    ⟨some 131, .len (.t 130), none⟩, 
    ⟨some 132, .bin .sub (.t 131) (.c (.int .i64 1)), none⟩, 
    ⟨some 24, .alloc false [(.int .i64 0)], none⟩, 
    ⟨none, .store 1 (.t 24) (.t 132), none⟩]) (
  .prom 13 (.block 2 (.loop (.seq (.seq (.region [
    ⟨some 133, .load 2 false 1 (.t 24), none⟩, 
    ⟨some 134, .bin .geq (.t 133) (.c (.int .i64 0)), none⟩]) (
  .cond (.t 134) (.skip) (.exit 2))) (
  .seq (.block 3 (.seq (.region [
    ⟨some 137, .load 2 false 1 (.t 13), none⟩, 
    ⟨some 138, .mkf F.gantlaw5_ClockTells_1 [(.t 13), (.t 24)], none⟩, 
    ⟨some 139, .call true F.slices_ContainsFunc_uint32 [(.t 137), (.t 138)], none⟩, 
    ⟨some 140, .un .not (.t 139), none⟩]) (
  .cond (.t 140) (.region [
    ⟨some 141, .load 2 false 1 (.t 24), none⟩, 
    ⟨some 23, .move false (.t 141), none⟩]) (.skip)))) (
  .seq (.seq (.region [
    ⟨some 142, .load 2 false 1 (.t 24), none⟩]) (
  .region [
    ⟨some 24, .alloc false [(.int .i64 0)], none⟩, 
    ⟨none, .store 1 (.t 24) (.t 142), none⟩])) (
  .region [
    ⟨some 135, .load 2 false 1 (.t 24), none⟩, 
    ⟨some 136, .bin .sub (.t 135) (.c (.int .i64 1)), none⟩, 
    ⟨none, .store 1 (.t 24) (.t 136), none⟩])))))))) (
  .seq (.region [
    ⟨some 143, .move false (.t 19), none⟩, 
    ⟨some 144, .bin .eql (.t 143) (.c (.int .i64 0)), none⟩, 
    ⟨some 145, .move false (.t 144), none⟩, 
    ⟨some 146, .move false (.t 18), (some (145, true))⟩, 
    ⟨some 147, .move false (.t 1), (some (145, true))⟩, 
    ⟨some 148, .move false (.t 0), (some (145, true))⟩, 
    ⟨some 149, .call true F.gantref5_Later [(.t 147), (.t 148)], (some (145, true))⟩, 
    ⟨some 150, .move false (.t 3), (some (145, true))⟩, 
    ⟨some 151, .bin .gtr (.t 149) (.t 150), (some (145, true))⟩, 
    ⟨some 152, .beq false (.t 146) (.t 151), (some (145, true))⟩, 
    ⟨some 153, .pick (.t 145) (.t 152) (.c (.bool false)), none⟩, 
    ⟨some 154, .move false (.t 153), none⟩, 
    ⟨some 155, .move false (.t 22), (some (154, true))⟩, 
    ⟨some 156, .bin .eql (.t 155) (.c (.int .i64 0)), (some (154, true))⟩, 
    ⟨some 157, .pick (.t 154) (.t 156) (.c (.bool false)), none⟩, 
    ⟨some 158, .move false (.t 157), none⟩, 
    ⟨some 159, .move false (.t 20), (some (158, true))⟩, 
    ⟨some 160, .move false (.t 0), (some (158, true))⟩, 
    ⟨some 161, .bin .eql (.t 159) (.t 160), (some (158, true))⟩, 
    ⟨some 162, .pick (.t 158) (.t 161) (.c (.bool false)), none⟩, 
    ⟨some 163, .move false (.t 162), none⟩, 
    ⟨some 164, .move false (.t 21), (some (163, true))⟩, 
    ⟨some 165, .move false (.t 0), (some (163, true))⟩, 
    ⟨some 166, .move false (.t 3), (some (163, true))⟩, 
    ⟨some 167, .conv .u32 (.t 166), (some (163, true))⟩, 
    ⟨some 168, .bin .add (.t 165) (.t 167), (some (163, true))⟩, 
    ⟨some 169, .bin .eql (.t 164) (.t 168), (some (163, true))⟩, 
    ⟨some 170, .pick (.t 163) (.t 169) (.c (.bool false)), none⟩, 
    ⟨some 171, .move false (.t 170), none⟩, 
    ⟨some 172, .load 2 false 1 (.t 13), (some (171, true))⟩, 
    ⟨some 173, .call true F.clock_Latest [(.t 172)], (some (171, true))⟩, 
    ⟨some 174, .move false (.t 23), (some (171, true))⟩, 
    ⟨some 175, .bin .eql (.t 173) (.t 174), (some (171, true))⟩, 
    ⟨some 176, .pick (.t 171) (.t 175) (.c (.bool false)), none⟩, 
    ⟨some 177, .move false (.t 176), none⟩, 
    ⟨some 178, .move false (.t 0), (some (177, true))⟩, 
    ⟨some 179, .move false (.t 1), (some (177, true))⟩, 
    ⟨some 180, .call true F.clock_Middle [(.t 178), (.t 179)], (some (177, true))⟩, 
    ⟨some 181, .move false (.t 0), (some (177, true))⟩, 
    ⟨some 182, .move false (.t 1), (some (177, true))⟩, 
    ⟨some 183, .move false (.t 0), (some (177, true))⟩, 
    ⟨some 184, .call true F.gantref5_Later [(.t 182), (.t 183)], (some (177, true))⟩, 
    ⟨some 185, .bin .quo (.t 184) (.c (.int .i64 2)), (some (177, true))⟩, 
    ⟨some 186, .conv .i32 (.t 185), (some (177, true))⟩, 
    ⟨some 187, .conv .u32 (.t 186), (some (177, true))⟩, 
    ⟨some 188, .bin .add (.t 181) (.t 187), (some (177, true))⟩, 
    ⟨some 189, .bin .eql (.t 180) (.t 188), (some (177, true))⟩, 
    ⟨some 190, .pick (.t 177) (.t 189) (.c (.bool false)), none⟩, 
    ⟨some 14, .move false (.t 190), none⟩]) (
  .ret))))))))))))
def R.gantlaw5_ClockTells : List ARes := [.t 14]
set_option maxRecDepth 100000 in
theorem K.gantlaw5_ClockTells : ckFun Try.prog Try.f5 C.gantlaw5_ClockTells R.gantlaw5_ClockTells = true := by kernel_rfl
/-- gantry/gantref5.Later -/
def C.gantref5_Later : ACode :=
  .seq (.region [
    ⟨some 4, .move false (.c (.int .i64 0)), none⟩]) (
  .seq (.region [
    ⟨some 6, .move false (.t 0), none⟩, 
    ⟨some 7, .conv .i64 (.t 6), none⟩, 
    ⟨some 8, .move false (.t 1), none⟩, 
    ⟨some 9, .conv .i64 (.t 8), none⟩, 
    ⟨some 10, .bin .sub (.t 7) (.t 9), none⟩, 
    ⟨some 11, .bin .rem (.t 10) (.c (.int .i64 4294967296)), none⟩, 
    ⟨some 5, .move false (.t 11), none⟩]) (
  .seq (.block 0 (.loop (.seq (.seq (.region [
    ⟨some 12, .move false (.t 5), none⟩, 
    ⟨some 13, .bin .geq (.t 12) (.c (.int .i64 2147483648)), none⟩]) (
  .cond (.t 13) (.skip) (.exit 0))) (
  .block 1 (.region [
    ⟨some 14, .move false (.t 5), none⟩, 
    ⟨some 15, .bin .sub (.t 14) (.c (.int .i64 4294967296)), none⟩, 
    ⟨some 5, .move false (.t 15), none⟩]))))) (
  .seq (.block 2 (.loop (.seq (.seq (.region [
    ⟨some 16, .move false (.t 5), none⟩, 
    ⟨some 17, .bin .lss (.t 16) (.c (.int .i64 (-2147483648))), none⟩]) (
  .cond (.t 17) (.skip) (.exit 2))) (
  .block 3 (.region [
    ⟨some 18, .move false (.t 5), none⟩, 
    ⟨some 19, .bin .add (.t 18) (.c (.int .i64 4294967296)), none⟩, 
    ⟨some 5, .move false (.t 19), none⟩]))))) (
  .seq (.region [
    ⟨some 20, .move false (.t 5), none⟩, 
    ⟨some 4, .move false (.t 20), none⟩]) (
  .ret)))))
def R.gantref5_Later : List ARes := [.t 4]
set_option maxRecDepth 100000 in
theorem K.gantref5_Later : ckFun Try.prog Try.f51 C.gantref5_Later R.gantref5_Later = true := by kernel_rfl
/-- gantry/gantlaw5.ClockTells$1 -/
def C.gantlaw5_ClockTells_1 : ACode :=
  .seq (.region [
    ⟨some 4, .move false (.c (.bool false)), none⟩]) (
  .seq (.region [
    ⟨some 5, .move false (.t 0), none⟩, 
    ⟨some 6, .load 2 false 1 (.t 1), none⟩, 
    ⟨some 7, .load 2 false 1 (.t 2), none⟩, 
    ⟨some 8, .iaddr 1 (.t 6) (.t 7), none⟩, 
    ⟨some 9, .load 2 false 1 (.t 8), none⟩, 
    ⟨some 10, .call true F.gantref5_Later [(.t 5), (.t 9)], none⟩, 
    ⟨some 11, .bin .gtr (.t 10) (.c (.int .i64 0)), none⟩, 
    ⟨some 4, .move false (.t 11), none⟩]) (
  .ret))
def R.gantlaw5_ClockTells_1 : List ARes := [.t 4]
set_option maxRecDepth 100000 in
theorem K.gantlaw5_ClockTells_1 : ckFun Try.prog Try.f54 C.gantlaw5_ClockTells_1 R.gantlaw5_ClockTells_1 = true := by kernel_rfl
/-- slices.ContainsFunc[[]uint32,uint32] -/
def C.slices_ContainsFunc_uint32 : ACode :=
  .seq (.region [
    ⟨some 4, .move false (.c (.bool false)), none⟩]) (
  .seq (.region [
    ⟨some 5, .move false (.t 0), none⟩, 
    ⟨some 6, .move false (.t 1), none⟩, 
    ⟨some 7, .call true F.slices_IndexFunc_uint32 [(.t 5), (.t 6)], none⟩, 
    ⟨some 8, .bin .geq (.t 7) (.c (.int .i64 0)), none⟩, 
    ⟨some 4, .move false (.t 8), none⟩]) (
  .ret))
def R.slices_ContainsFunc_uint32 : List ARes := [.t 4]
set_option maxRecDepth 100000 in
theorem K.slices_ContainsFunc_uint32 : ckFun Try.prog Try.f53 C.slices_ContainsFunc_uint32 R.slices_ContainsFunc_uint32 = true := by kernel_rfl
/-- slices.IndexFunc[[]uint32,uint32] -/
def C.slices_IndexFunc_uint32 : ACode :=
  .seq (.region [
    ⟨some 4, .move false (.c (.int .i64 0)), none⟩]) (
  .seq (.seq (.region [
    ⟨some 6, .move false (.t 0), none⟩, 
    ⟨some 7, .len (.t 6), none⟩, 
    ⟨some 8, .move false (.c (.int .i64 0)), none⟩]) (
  .block 0 (.loop (.seq (.region [
    ⟨some 9, .bin .lss (.t 8) (.t 7), none⟩]) (
  .seq (.cond (.t 9) (.skip) (.exit 0)) (
  .seq (.block 1 (.seq (.region [
    ⟨some 10, .move false (.t 8), none⟩, 
    ⟨some 5, .move false (.t 10), none⟩]) (
  .seq (.region [
    ⟨some 11, .move false (.t 1), none⟩, 
    ⟨some 12, .move false (.t 0), none⟩, 
    ⟨some 13, .move false (.t 5), none⟩, 
    ⟨some 14, .iaddr 1 (.t 12) (.t 13), none⟩, 
    ⟨some 15, .load 2 false 1 (.t 14), none⟩, 
    ⟨some 16, .callv true (.t 11) [(.t 15)], none⟩]) (
  .cond (.t 16) (.seq (.region [
    ⟨some 17, .move false (.t 5), none⟩, 
    ⟨some 4, .move false (.t 17), none⟩]) (
  .ret)) (.skip))))) (
  .region [
    ⟨some 18, .bin .add (.t 8) (.c (.int .i64 1)), none⟩, 
    ⟨some 8, .move false (.t 18), none⟩]))))))) (
  .seq (.region [
    ⟨some 4, .move false (.c (.int .i64 (-1))), none⟩]) (
  .ret)))
def R.slices_IndexFunc_uint32 : List ARes := [.t 4]
set_option maxRecDepth 100000 in
theorem K.slices_IndexFunc_uint32 : ckFun Try.prog Try.f150 C.slices_IndexFunc_uint32 R.slices_IndexFunc_uint32 = true := by kernel_rfl
end Go.Proofs.Ytpdajkbfemcdlaa
