/- Part 8 of 15 of a proof; joined from ValidLow0. Functions of the program, lowered: each is held against the program's own text by the kernel. -/
import Derived.Test.YtnjblmbobmbgkaaDoorKe6
import Derived.Test.YtnjblmbobmbgkaaDoorProg
section
set_option linter.unusedSimpArgs false
set_option linter.unusedVariables false
/- Functions of the program, lowered: each is held against the program's own text by the kernel. -/
set_option linter.unusedVariables false
set_option maxRecDepth 100000
namespace Go.TA.Tryd
def B3x0 : LCode :=
  (.seq (.region [
    { dst := some 38, op := .bin .lss (.t 37) (.t 36), ix := 0 }] false [0, 5, 6, 7, 36, 37, 38] []) (.seq (.cond (.t 38) (.keep [0, 5, 6, 7, 36, 37] [] .skip) (.keep [6] [] (.exit 0))) (.keep [0, 5, 6, 7, 36, 37] [] (.seq (.block 1 (.seq (.region [
    { dst := some 39, op := .move (.t 37), ix := 0 },
    { dst := some 8, op := .move (.t 39), ix := 1 }] false [0, 5, 6, 7, 8, 36, 37] []) (.seq (.region [
    { dst := some 40, op := .move (.t 7), ix := 0 },
    { dst := some 41, op := .move (.t 8), ix := 1 },
    { dst := some 42, op := .indexAddr 6 (.t 40) (.t 41), ix := 2 },
    { dst := some 43, op := .fieldAddr 0 (.t 42), ix := 3 },
    { dst := some 44, op := .load 1 false (.t 43), ix := 4 },
    { dst := some 9, op := .move (.t 44), ix := 5 }] false [0, 5, 6, 7, 8, 9, 36, 37] []) (.seq (.region [
    { dst := some 45, op := .move (.t 9), ix := 0 },
    { dst := some 46, op := .bin .lss (.t 45) (.c (.int .i64 1)), ix := 1 },
    { dst := some 47, op := .move (.t 46), ix := 2 },
    { dst := some 48, op := .move (.t 9), guard := some (47, false), ix := 3 },
    { dst := some 49, op := .move (.t 5), guard := some (47, false), ix := 4 },
    { dst := some 50, op := .call 12 [(.t 49, .as)], guard := some (47, false), ix := 5 },
    { dst := some 51, op := .bin .geq (.t 48) (.t 50), guard := some (47, false), ix := 6 },
    { dst := some 52, op := .pick (.t 47) (.c (.bool true)) (.t 51), ix := 7 }] false [0, 5, 6, 7, 8, 9, 36, 37, 52] []) (.seq (.cond (.t 52) (.seq (.region [
    { dst := some 4, op := .move (.c (.bool false)), ix := 0 }] false [4] []) (.keep [4] [] .ret)) (.keep [0, 5, 6, 7, 8, 9, 36, 37] [] .skip)) (.keep [0, 5, 6, 7, 8, 9, 36, 37] [] (.seq (.region [
    { dst := some 53, op := .move (.t 9), ix := 0 },
    { dst := some 54, op := .move (.t 0), ix := 1 },
    { dst := some 55, op := .len 1 (.t 54), ix := 2 },
    { dst := some 56, op := .bin .gtr (.t 53) (.t 55), ix := 3 }] false [0, 5, 6, 7, 8, 9, 36, 37, 56] []) (.seq (.cond (.t 56) (.keep [0, 5, 6, 7, 36, 37] [] (.exit 1)) (.keep [0, 5, 6, 7, 8, 9, 36, 37] [] .skip)) (.keep [0, 5, 6, 7, 8, 9, 36, 37] [] (.seq (.region [
    { dst := some 10, op := .move (.c (.int .i64 0)), ix := 0 }] false [0, 5, 6, 7, 8, 9, 10, 36, 37] []) (.seq (.region [
    { dst := some 57, op := .move (.t 7), ix := 0 },
    { dst := some 58, op := .move (.t 8), ix := 1 },
    { dst := some 59, op := .indexAddr 6 (.t 57) (.t 58), ix := 2 },
    { dst := some 60, op := .fieldAddr 1 (.t 59), ix := 3 },
    { dst := some 61, op := .load 1 false (.t 60), ix := 4 },
    { dst := some 62, op := .bin .gtr (.t 61) (.c (.int .i64 0)), ix := 5 }] false [0, 5, 6, 7, 8, 9, 10, 36, 37, 62] []) (.seq (.cond (.t 62) (.seq (.region [
    { dst := some 63, op := .move (.t 7), ix := 0 },
    { dst := some 64, op := .move (.t 7), ix := 1 },
    { dst := some 65, op := .move (.t 8), ix := 2 },
    { dst := some 66, op := .indexAddr 6 (.t 64) (.t 65), ix := 3 },
    { dst := some 67, op := .fieldAddr 1 (.t 66), ix := 4 },
    { dst := some 68, op := .load 1 false (.t 67), ix := 5 },
    { dst := some 69, op := .bin .sub (.t 68) (.c (.int .i64 1)), ix := 6 },
    { dst := some 70, op := .indexAddr 6 (.t 63) (.t 69), ix := 7 },
    { dst := some 71, op := .fieldAddr 0 (.t 70), ix := 8 },
    { dst := some 72, op := .load 1 false (.t 71), ix := 9 },
    { dst := some 10, op := .move (.t 72), ix := 10 }] false [0, 5, 6, 7, 8, 9, 10, 36, 37] []) (.keep [0, 5, 6, 7, 8, 9, 10, 36, 37] [] .skip)) (.keep [0, 5, 6, 7, 8, 9, 10, 36, 37] [] .skip)) (.keep [0, 5, 6, 7, 8, 9, 10, 36, 37] [] (.seq (.region [
    { dst := some 73, op := .move (.t 7), ix := 0 },
    { dst := some 74, op := .move (.t 8), ix := 1 },
    { dst := some 75, op := .indexAddr 6 (.t 73) (.t 74), ix := 2 },
    { dst := some 76, op := .fieldAddr 2 (.t 75), ix := 3 },
    { dst := some 77, op := .load 1 false (.t 76), ix := 4 },
    { dst := some 78, op := .move (.t 0), ix := 5 },
    { dst := some 79, op := .move (.t 9), ix := 6 },
    { dst := some 80, op := .bin .sub (.t 79) (.c (.int .i64 1)), ix := 7 },
    { dst := some 81, op := .indexAddr 6 (.t 78) (.t 80), ix := 8 },
    { dst := some 82, op := .fieldAddr 2 (.t 81), ix := 9 },
    { dst := some 83, op := .load 1 false (.t 82), ix := 10 },
    { dst := some 84, op := .eq .s true (.t 77) (.t 83), ix := 11 },
    { dst := some 85, op := .move (.t 84), ix := 12 },
    { dst := some 86, op := .move (.t 7), guard := some (85, false), ix := 13 },
    { dst := some 87, op := .move (.t 8), guard := some (85, false), ix := 14 },
    { dst := some 88, op := .indexAddr 6 (.t 86) (.t 87), guard := some (85, false), ix := 15 },
    { dst := some 89, op := .fieldAddr 3 (.t 88), guard := some (85, false), ix := 16 },
    { dst := some 90, op := .load 1 false (.t 89), guard := some (85, false), ix := 17 },
    { dst := some 91, op := .move (.t 0), guard := some (85, false), ix := 18 },
    { dst := some 92, op := .move (.t 9), guard := some (85, false), ix := 19 },
    { dst := some 93, op := .bin .sub (.t 92) (.c (.int .i64 1)), guard := some (85, false), ix := 20 },
    { dst := some 94, op := .indexAddr 6 (.t 91) (.t 93), guard := some (85, false), ix := 21 },
    { dst := some 95, op := .fieldAddr 3 (.t 94), guard := some (85, false), ix := 22 },
    { dst := some 96, op := .load 1 false (.t 95), guard := some (85, false), ix := 23 },
    { dst := some 97, op := .eq .s true (.t 90) (.t 96), guard := some (85, false), ix := 24 },
    { dst := some 98, op := .pick (.t 85) (.c (.bool true)) (.t 97), ix := 25 },
    { dst := some 99, op := .move (.t 98), ix := 26 },
    { dst := some 100, op := .move (.t 10), guard := some (99, false), ix := 27 },
    { dst := some 101, op := .move (.t 0), guard := some (99, false), ix := 28 },
    { dst := some 102, op := .move (.t 9), guard := some (99, false), ix := 29 },
    { dst := some 103, op := .bin .sub (.t 102) (.c (.int .i64 1)), guard := some (99, false), ix := 30 },
    { dst := some 104, op := .indexAddr 6 (.t 101) (.t 103), guard := some (99, false), ix := 31 },
    { dst := some 105, op := .fieldAddr 1 (.t 104), guard := some (99, false), ix := 32 },
    { dst := some 106, op := .load 1 false (.t 105), guard := some (99, false), ix := 33 },
    { dst := some 107, op := .eq .i true (.t 100) (.t 106), guard := some (99, false), ix := 34 },
    { dst := some 108, op := .pick (.t 99) (.c (.bool true)) (.t 107), ix := 35 }] true [0, 5, 6, 7, 36, 37, 108] []) (.seq (.cond (.t 108) (.seq (.region [
    { dst := some 4, op := .move (.c (.bool false)), ix := 0 }] false [4] []) (.keep [4] [] .ret)) (.keep [0, 5, 6, 7, 36, 37] [] .skip)) (.keep [0, 5, 6, 7, 36, 37] [] .skip)))))))))))))))) (.keep [0, 5, 6, 7, 36, 37] [] (.seq (.region [
    { dst := some 109, op := .bin .add (.t 37) (.c (.int .i64 1)), ix := 0 },
    { dst := some 37, op := .move (.t 109), ix := 1 }] false [0, 5, 6, 7, 36, 37] []) (.keep [0, 5, 6, 7, 36, 37] [] .skip)))))))
def F3 : LFunc := { nparams := 2, results := [.tmp 4], pure := true, body :=
  (.seq (.region [
    { dst := some 4, op := .move (.c (.bool false)), ix := 0 }] false [0, 1] []) (.seq (.region [
    { dst := some 11, op := .move (.t 0), ix := 0 },
    { dst := some 12, op := .pcall 5 [(.t 11, .as), (.c (.int .i64 120), .as)], ix := 1 },
    { dst := some 13, op := .un .not (.t 12), ix := 2 },
    { dst := some 14, op := .move (.t 13), ix := 3 },
    { dst := some 15, op := .move (.t 1), guard := some (14, false), ix := 4 },
    { dst := some 16, op := .pcall 6 [(.t 15, .as), (.c (.int .i64 150), .as)], guard := some (14, false), ix := 5 },
    { dst := some 17, op := .un .not (.t 16), guard := some (14, false), ix := 6 },
    { dst := some 18, op := .pick (.t 14) (.c (.bool true)) (.t 17), ix := 7 },
    { dst := some 19, op := .move (.t 18), ix := 8 },
    { dst := some 20, op := .move (.t 0), guard := some (19, false), ix := 9 },
    { dst := some 21, op := .pcall 7 [(.t 20, .as)], guard := some (19, false), ix := 10 },
    { dst := some 22, op := .eq .i true (.t 21) (.c (.int .i64 0)), guard := some (19, false), ix := 11 },
    { dst := some 23, op := .pick (.t 19) (.c (.bool true)) (.t 22), ix := 12 }] false [0, 1, 23] []) (.seq (.cond (.t 23) (.seq (.region [
    { dst := some 24, op := .pcall 8 [], ix := 0 },
    { dst := some 4, op := .move (.t 24), ix := 1 }] false [4] []) (.keep [4] [] .ret)) (.keep [0, 1] [] .skip)) (.keep [0, 1] [] (.seq (.region [
    { dst := some 26, op := .move (.t 0), ix := 0 },
    { dst := some 27, op := .call 9 [(.t 26, .as)], ix := 1 },
    { dst := some 25, op := .move (.t 27), ix := 2 },
    { dst := some 28, op := .extract (.t 25) 0, ix := 3 },
    { dst := some 29, op := .extract (.t 25) 1, ix := 4 },
    { dst := some 5, op := .move (.t 28), ix := 5 },
    { dst := some 6, op := .move (.t 29), ix := 6 }] false [0, 1, 5, 6] []) (.seq (.region [
    { dst := some 30, op := .move (.t 5), ix := 0 },
    { dst := some 31, op := .move (.t 1), ix := 1 },
    { dst := some 32, op := .call 10 [(.t 30, .as), (.t 31, .as)], ix := 2 }] false [0, 5, 6] []) (.seq (.region [
    { dst := some 33, op := .move (.t 5), ix := 0 },
    { dst := some 34, op := .call 11 [(.t 33, .as)], ix := 1 },
    { dst := some 7, op := .move (.t 34), ix := 2 }] false [0, 5, 6, 7] []) (.seq (.region [
    { dst := some 35, op := .move (.t 7), ix := 0 },
    { dst := some 36, op := .len 1 (.t 35), ix := 1 },
    { dst := some 37, op := .move (.c (.int .i64 0)), ix := 2 }] false [0, 5, 6, 7, 36, 37] []) (.seq (.block 0 (.seq (.keep [0, 5, 6, 7, 36, 37] [] (.loop B3x0)) (.keep [6] [] .skip))) (.keep [6] [] (.seq (.region [
    { dst := some 110, op := .move (.t 6), ix := 0 },
    { dst := some 111, op := .eq .i false (.t 110) (.c (.int .i64 0)), ix := 1 },
    { dst := some 112, op := .move (.t 111), ix := 2 },
    { dst := some 113, op := .pcall 8 [], guard := some (112, true), ix := 3 },
    { dst := some 114, op := .pick (.t 112) (.t 113) (.c (.bool false)), ix := 4 },
    { dst := some 4, op := .move (.t 114), ix := 5 }] false [4] []) (.keep [4] [] .ret)))))))))))) }
theorem ok3 : fnSoundB Go.Proofs.Tryd.prog 3 F3 = true := by decide +kernel
def B4x0 : LCode :=
  (.seq (.region [
    { dst := some 56, op := .bin .lss (.t 55) (.t 54), ix := 0 }] false [0, 1, 5, 7, 54, 55, 56] [5]) (.seq (.cond (.t 56) (.keep [0, 1, 5, 7, 54, 55] [5] .skip) (.keep [0, 1, 5] [5] (.exit 0))) (.keep [0, 1, 5, 7, 54, 55] [5] (.seq (.block 1 (.seq (.region [
    { dst := some 57, op := .move (.t 55), ix := 0 },
    { dst := some 10, op := .move (.t 57), ix := 1 }] false [0, 1, 5, 7, 10, 54, 55] [5]) (.seq (.region [
    { dst := some 58, op := .move (.t 7), ix := 0 },
    { dst := some 59, op := .move (.t 10), ix := 1 },
    { dst := some 60, op := .indexAddr 6 (.t 58) (.t 59), ix := 2 },
    { dst := some 61, op := .fieldAddr 0 (.t 60), ix := 3 },
    { dst := some 62, op := .load 1 false (.t 61), ix := 4 },
    { dst := some 63, op := .move (.t 10), ix := 5 },
    { dst := some 64, op := .bin .add (.t 63) (.c (.int .i64 1)), ix := 6 },
    { dst := some 65, op := .eq .i true (.t 62) (.t 64), ix := 7 }] false [0, 1, 5, 7, 54, 55, 65] [5]) (.seq (.cond (.t 65) (.seq (.region [
    { dst := some 6, op := .move (.c (.bool false)), ix := 0 }] false [6] []) (.keep [6] [] .ret)) (.keep [0, 1, 5, 7, 54, 55] [5] .skip)) (.keep [0, 1, 5, 7, 54, 55] [5] .skip))))) (.keep [0, 1, 5, 7, 54, 55] [5] (.seq (.region [
    { dst := some 66, op := .bin .add (.t 55) (.c (.int .i64 1)), ix := 0 },
    { dst := some 55, op := .move (.t 66), ix := 1 }] false [0, 1, 5, 7, 54, 55] [5]) (.keep [0, 1, 5, 7, 54, 55] [5] .skip)))))))
def F4 : LFunc := { nparams := 3, results := [.tmp 6], pure := true, body :=
  (.seq (.region [
    { dst := some 5, op := .box false 5 (.t 2), ix := 0 },
    { dst := some 6, op := .move (.c (.bool false)), ix := 1 }] false [0, 1, 5] [5]) (.seq (.region [
    { dst := some 15, op := .move (.t 0), ix := 0 },
    { dst := some 16, op := .pcall 5 [(.t 15, .as), (.c (.int .i64 120), .as)], ix := 1 },
    { dst := some 17, op := .un .not (.t 16), ix := 2 },
    { dst := some 18, op := .move (.t 17), ix := 3 },
    { dst := some 19, op := .move (.t 1), guard := some (18, false), ix := 4 },
    { dst := some 20, op := .pcall 6 [(.t 19, .as), (.c (.int .i64 100), .as)], guard := some (18, false), ix := 5 },
    { dst := some 21, op := .un .not (.t 20), guard := some (18, false), ix := 6 },
    { dst := some 22, op := .pick (.t 18) (.c (.bool true)) (.t 21), ix := 7 },
    { dst := some 23, op := .move (.t 22), ix := 8 },
    { dst := some 24, op := .load 9 true (.t 5), guard := some (23, false), ix := 9 },
    { dst := some 25, op := .row 9 [.t 24], guard := some (23, false), ix := 10 },
    { dst := some 26, op := .pcall 6 [(.t 25, .look), (.c (.int .i64 100), .as)], guard := some (23, false), ix := 11 },
    { dst := some 27, op := .un .not (.t 26), guard := some (23, false), ix := 12 },
    { dst := some 28, op := .pick (.t 23) (.c (.bool true)) (.t 27), ix := 13 },
    { dst := some 29, op := .move (.t 28), ix := 14 },
    { dst := some 30, op := .move (.t 0), guard := some (29, false), ix := 15 },
    { dst := some 31, op := .pcall 7 [(.t 30, .as)], guard := some (29, false), ix := 16 },
    { dst := some 32, op := .eq .i true (.t 31) (.c (.int .i64 0)), guard := some (29, false), ix := 17 },
    { dst := some 33, op := .pick (.t 29) (.c (.bool true)) (.t 32), ix := 18 }] false [0, 1, 5, 33] [5]) (.seq (.cond (.t 33) (.seq (.region [
    { dst := some 34, op := .pcall 13 [], ix := 0 },
    { dst := some 6, op := .move (.t 34), ix := 1 }] false [6] []) (.keep [6] [] .ret)) (.keep [0, 1, 5] [5] .skip)) (.keep [0, 1, 5] [5] (.seq (.region [
    { dst := some 36, op := .move (.t 0), ix := 0 },
    { dst := some 37, op := .pcall 14 [(.t 36, .as), (.c (.list []), .as), (.c (.int .i64 0), .as)], ix := 1 },
    { dst := some 35, op := .move (.t 37), ix := 2 },
    { dst := some 38, op := .extract (.t 35) 0, ix := 3 },
    { dst := some 39, op := .extract (.t 35) 1, ix := 4 },
    { dst := some 40, op := .extract (.t 35) 2, ix := 5 },
    { dst := some 7, op := .move (.t 38), ix := 6 },
    { dst := some 8, op := .move (.t 39), ix := 7 },
    { dst := some 9, op := .move (.t 40), ix := 8 }] false [0, 1, 5, 7, 8, 9] [5]) (.seq (.region [
    { dst := some 41, op := .move (.t 7), ix := 0 },
    { dst := some 42, op := .move (.t 0), ix := 1 },
    { dst := some 43, op := .pcall 15 [(.t 41, .as), (.t 42, .as)], ix := 2 },
    { dst := some 44, op := .un .not (.t 43), ix := 3 },
    { dst := some 45, op := .move (.t 44), ix := 4 },
    { dst := some 46, op := .move (.t 8), guard := some (45, false), ix := 5 },
    { dst := some 47, op := .eq .i true (.t 46) (.c (.int .i64 0)), guard := some (45, false), ix := 6 },
    { dst := some 48, op := .pick (.t 45) (.c (.bool true)) (.t 47), ix := 7 },
    { dst := some 49, op := .move (.t 48), ix := 8 },
    { dst := some 50, op := .move (.t 9), guard := some (49, false), ix := 9 },
    { dst := some 51, op := .eq .i true (.t 50) (.c (.int .i64 0)), guard := some (49, false), ix := 10 },
    { dst := some 52, op := .pick (.t 49) (.c (.bool true)) (.t 51), ix := 11 }] false [0, 1, 5, 7, 52] [5]) (.seq (.cond (.t 52) (.seq (.region [
    { dst := some 6, op := .move (.c (.bool false)), ix := 0 }] false [6] []) (.keep [6] [] .ret)) (.keep [0, 1, 5, 7] [5] .skip)) (.keep [0, 1, 5, 7] [5] (.seq (.region [
    { dst := some 53, op := .move (.t 7), ix := 0 },
    { dst := some 54, op := .len 1 (.t 53), ix := 1 },
    { dst := some 55, op := .move (.c (.int .i64 0)), ix := 2 }] false [0, 1, 5, 7, 54, 55] [5]) (.seq (.block 0 (.seq (.keep [0, 1, 5, 7, 54, 55] [5] (.loop B4x0)) (.keep [0, 1, 5] [5] .skip))) (.keep [0, 1, 5] [5] (.seq (.region [
    { dst := some 67, op := .load 9 true (.t 5), ix := 0 },
    { dst := some 68, op := .pcall 16 [(.t 67, .as)], ix := 1 },
    { dst := some 69, op := .eq .i false (.t 68) (.c (.int .i64 0)), ix := 2 }] false [0, 1, 5, 69] [5]) (.seq (.cond (.t 69) (.seq (.region [
    { dst := some 70, op := .pcall 13 [], ix := 0 },
    { dst := some 6, op := .move (.t 70), ix := 1 }] false [6] []) (.keep [6] [] .ret)) (.keep [0, 1, 5] [5] .skip)) (.keep [0, 1, 5] [5] (.seq (.region [
    { dst := some 11, op := .nilown false 1000 9, ix := 0 }] false [0, 1, 5, 11] [5, 1000]) (.seq (.region [
    { dst := some 71, op := .move (.t 11), ix := 0 },
    { dst := some 72, op := .move (.t 1), ix := 1 },
    { dst := some 73, op := .append false 1001 9 120 (.t 71) (.t 72), ix := 2 },
    { dst := some 11, op := .move (.t 73), ix := 3 }] false [0, 5, 11] [5, 1000]) (.seq (.region [
    { dst := some 74, op := .move (.t 11), ix := 0 },
    { dst := some 75, op := .load 9 true (.t 5), ix := 1 },
    { dst := some 76, op := .row 9 [.t 75], ix := 2 },
    { dst := some 77, op := .append false 1002 9 120 (.t 74) (.t 76), ix := 3 },
    { dst := some 11, op := .move (.t 77), ix := 4 }] false [0, 11] [1000]) (.seq (.region [
    { dst := some 79, op := .move (.t 0), ix := 0 },
    { dst := some 80, op := .move (.t 11), ix := 1 },
    { dst := some 81, op := .move (.t 11), ix := 2 },
    { dst := some 82, op := .len 1 (.t 81), ix := 3 },
    { dst := some 83, op := .pcall 14 [(.t 79, .as), (.t 80, .freeze), (.t 82, .as)], ix := 4 },
    { dst := some 78, op := .move (.t 83), ix := 5 },
    { dst := some 84, op := .extract (.t 78) 0, ix := 6 },
    { dst := some 85, op := .extract (.t 78) 1, ix := 7 },
    { dst := some 86, op := .extract (.t 78) 2, ix := 8 },
    { dst := some 12, op := .move (.t 84), ix := 9 },
    { dst := some 13, op := .move (.t 85), ix := 10 },
    { dst := some 14, op := .move (.t 86), ix := 11 }] false [14] []) (.seq (.region [
    { dst := some 87, op := .move (.t 14), ix := 0 },
    { dst := some 88, op := .eq .i true (.t 87) (.c (.int .i64 0)), ix := 1 },
    { dst := some 89, op := .move (.t 88), ix := 2 },
    { dst := some 90, op := .pcall 13 [], guard := some (89, true), ix := 3 },
    { dst := some 91, op := .pick (.t 89) (.t 90) (.c (.bool false)), ix := 4 },
    { dst := some 6, op := .move (.t 91), ix := 5 }] false [6] []) (.keep [6] [] .ret)))))))))))))))))))) }
theorem ok4 : fnSoundB Go.Proofs.Tryd.prog 4 F4 = true := by decide +kernel
def B5x1 : LCode :=
  (.seq (.region [
    { dst := some 54, op := .bin .lss (.t 53) (.t 52), ix := 0 }] false [0, 5, 6, 10, 11, 52, 53, 54] []) (.seq (.cond (.t 54) (.keep [0, 5, 6, 10, 11, 52, 53] [] .skip) (.keep [0, 5, 10, 11] [] (.exit 2))) (.keep [0, 5, 6, 10, 11, 52, 53] [] (.seq (.block 3 (.seq (.region [
    { dst := some 55, op := .move (.t 53), ix := 0 },
    { dst := some 7, op := .move (.t 55), ix := 1 }] false [0, 5, 6, 7, 10, 11, 52, 53] []) (.seq (.region [
    { dst := some 56, op := .move (.t 5), ix := 0 },
    { dst := some 57, op := .move (.t 0), ix := 1 },
    { dst := some 58, op := .move (.t 6), ix := 2 },
    { dst := some 59, op := .indexAddr 6 (.t 57) (.t 58), ix := 3 },
    { dst := some 60, op := .fieldAddr 5 (.t 59), ix := 4 },
    { dst := some 61, op := .load 1 false (.t 60), ix := 5 },
    { dst := some 62, op := .move (.t 7), ix := 6 },
    { dst := some 63, op := .indexAddr 2 (.t 61) (.t 62), ix := 7 },
    { dst := some 64, op := .fieldAddr 1 (.t 63), ix := 8 },
    { dst := some 65, op := .load 1 false (.t 64), ix := 9 },
    { dst := some 66, op := .len 0 (.t 65), ix := 10 },
    { dst := some 67, op := .move (.t 0), ix := 11 },
    { dst := some 68, op := .move (.t 6), ix := 12 },
    { dst := some 69, op := .indexAddr 6 (.t 67) (.t 68), ix := 13 },
    { dst := some 70, op := .fieldAddr 5 (.t 69), ix := 14 },
    { dst := some 71, op := .load 1 false (.t 70), ix := 15 },
    { dst := some 72, op := .move (.t 7), ix := 16 },
    { dst := some 73, op := .indexAddr 2 (.t 71) (.t 72), ix := 17 },
    { dst := some 74, op := .fieldAddr 0 (.t 73), ix := 18 },
    { dst := some 75, op := .load 1 false (.t 74), ix := 19 },
    { dst := some 76, op := .len 0 (.t 75), ix := 20 },
    { dst := some 77, op := .bin .add (.t 66) (.t 76), ix := 21 },
    { dst := some 78, op := .bin .quo (.t 77) (.c (.int .i64 4096)), ix := 22 },
    { dst := some 79, op := .bin .sub (.t 56) (.t 78), ix := 23 },
    { dst := some 5, op := .move (.t 79), ix := 24 }] true [0, 5, 6, 10, 11, 52, 53] []) (.keep [0, 5, 6, 10, 11, 52, 53] [] .skip)))) (.keep [0, 5, 6, 10, 11, 52, 53] [] (.seq (.region [
    { dst := some 80, op := .bin .add (.t 53) (.c (.int .i64 1)), ix := 0 },
    { dst := some 53, op := .move (.t 80), ix := 1 }] false [0, 5, 6, 10, 11, 52, 53] []) (.keep [0, 5, 6, 10, 11, 52, 53] [] .skip)))))))
def B5x0 : LCode :=
  (.seq (.region [
    { dst := some 12, op := .bin .lss (.t 11) (.t 10), ix := 0 }] false [0, 5, 10, 11, 12] []) (.seq (.cond (.t 12) (.keep [0, 5, 10, 11] [] .skip) (.keep [5] [] (.exit 0))) (.keep [0, 5, 10, 11] [] (.seq (.block 1 (.seq (.region [
    { dst := some 13, op := .move (.t 11), ix := 0 },
    { dst := some 6, op := .move (.t 13), ix := 1 }] false [0, 5, 6, 10, 11] []) (.seq (.region [
    { dst := some 14, op := .move (.t 5), ix := 0 },
    { dst := some 15, op := .bin .sub (.t 14) (.c (.int .i64 1)), ix := 1 },
    { dst := some 16, op := .move (.t 0), ix := 2 },
    { dst := some 17, op := .move (.t 6), ix := 3 },
    { dst := some 18, op := .indexAddr 6 (.t 16) (.t 17), ix := 4 },
    { dst := some 19, op := .fieldAddr 5 (.t 18), ix := 5 },
    { dst := some 20, op := .load 1 false (.t 19), ix := 6 },
    { dst := some 21, op := .len 1 (.t 20), ix := 7 },
    { dst := some 22, op := .bin .sub (.t 15) (.t 21), ix := 8 },
    { dst := some 23, op := .move (.t 0), ix := 9 },
    { dst := some 24, op := .move (.t 6), ix := 10 },
    { dst := some 25, op := .indexAddr 6 (.t 23) (.t 24), ix := 11 },
    { dst := some 26, op := .fieldAddr 4 (.t 25), ix := 12 },
    { dst := some 27, op := .load 1 false (.t 26), ix := 13 },
    { dst := some 28, op := .len 0 (.t 27), ix := 14 },
    { dst := some 29, op := .move (.t 0), ix := 15 },
    { dst := some 30, op := .move (.t 6), ix := 16 },
    { dst := some 31, op := .indexAddr 6 (.t 29) (.t 30), ix := 17 },
    { dst := some 32, op := .fieldAddr 3 (.t 31), ix := 18 },
    { dst := some 33, op := .load 1 false (.t 32), ix := 19 },
    { dst := some 34, op := .len 0 (.t 33), ix := 20 },
    { dst := some 35, op := .bin .add (.t 28) (.t 34), ix := 21 },
    { dst := some 36, op := .move (.t 0), ix := 22 },
    { dst := some 37, op := .move (.t 6), ix := 23 },
    { dst := some 38, op := .indexAddr 6 (.t 36) (.t 37), ix := 24 },
    { dst := some 39, op := .fieldAddr 2 (.t 38), ix := 25 },
    { dst := some 40, op := .load 1 false (.t 39), ix := 26 },
    { dst := some 41, op := .len 0 (.t 40), ix := 27 },
    { dst := some 42, op := .bin .add (.t 35) (.t 41), ix := 28 },
    { dst := some 43, op := .bin .quo (.t 42) (.c (.int .i64 4096)), ix := 29 },
    { dst := some 44, op := .bin .sub (.t 22) (.t 43), ix := 30 },
    { dst := some 5, op := .move (.t 44), ix := 31 }] true [0, 5, 6, 10, 11] []) (.seq (.region [
    { dst := some 45, op := .move (.t 5), ix := 0 },
    { dst := some 46, op := .bin .lss (.t 45) (.c (.int .i64 0)), ix := 1 }] false [0, 5, 6, 10, 11, 46] []) (.seq (.cond (.t 46) (.seq (.region [
    { dst := some 4, op := .move (.c (.bool false)), ix := 0 }] false [4] []) (.keep [4] [] .ret)) (.keep [0, 5, 6, 10, 11] [] .skip)) (.keep [0, 5, 6, 10, 11] [] (.seq (.region [
    { dst := some 47, op := .move (.t 0), ix := 0 },
    { dst := some 48, op := .move (.t 6), ix := 1 },
    { dst := some 49, op := .indexAddr 6 (.t 47) (.t 48), ix := 2 },
    { dst := some 50, op := .fieldAddr 5 (.t 49), ix := 3 },
    { dst := some 51, op := .load 1 false (.t 50), ix := 4 },
    { dst := some 52, op := .len 1 (.t 51), ix := 5 },
    { dst := some 53, op := .move (.c (.int .i64 0)), ix := 6 }] false [0, 5, 6, 10, 11, 52, 53] []) (.seq (.block 2 (.seq (.keep [0, 5, 6, 10, 11, 52, 53] [] (.loop B5x1)) (.keep [0, 5, 10, 11] [] .skip))) (.keep [0, 5, 10, 11] [] .skip))))))))) (.keep [0, 5, 10, 11] [] (.seq (.region [
    { dst := some 81, op := .bin .add (.t 11) (.c (.int .i64 1)), ix := 0 },
    { dst := some 11, op := .move (.t 81), ix := 1 }] false [0, 5, 10, 11] []) (.keep [0, 5, 10, 11] [] .skip)))))))
def F5 : LFunc := { nparams := 2, results := [.tmp 4], pure := true, body :=
  (.seq (.region [
    { dst := some 4, op := .move (.c (.bool false)), ix := 0 }] false [0, 1] []) (.seq (.region [
    { dst := some 8, op := .move (.t 1), ix := 0 },
    { dst := some 5, op := .move (.t 8), ix := 1 }] false [0, 5] []) (.seq (.region [
    { dst := some 9, op := .move (.t 0), ix := 0 },
    { dst := some 10, op := .len 1 (.t 9), ix := 1 },
    { dst := some 11, op := .move (.c (.int .i64 0)), ix := 2 }] false [0, 5, 10, 11] []) (.seq (.block 0 (.seq (.keep [0, 5, 10, 11] [] (.loop B5x0)) (.keep [5] [] .skip))) (.keep [5] [] (.seq (.region [
    { dst := some 82, op := .move (.t 5), ix := 0 },
    { dst := some 83, op := .bin .geq (.t 82) (.c (.int .i64 0)), ix := 1 },
    { dst := some 4, op := .move (.t 83), ix := 2 }] false [4] []) (.keep [4] [] .ret))))))) }
theorem ok5 : fnSoundB Go.Proofs.Tryd.prog 5 F5 = true := by decide +kernel
def B6x1 : LCode :=
  (.seq (.region [
    { dst := some 48, op := .bin .lss (.t 47) (.t 46), ix := 0 }] false [0, 5, 7, 11, 12, 46, 47, 48] [7]) (.seq (.cond (.t 48) (.keep [0, 5, 7, 11, 12, 46, 47] [7] .skip) (.keep [0, 5, 11, 12] [] (.exit 2))) (.keep [0, 5, 7, 11, 12, 46, 47] [7] (.seq (.block 3 (.seq (.region [
    { dst := some 49, op := .move (.t 47), ix := 0 },
    { dst := some 8, op := .move (.t 49), ix := 1 }] false [0, 5, 7, 8, 11, 12, 46, 47] [7]) (.seq (.region [
    { dst := some 50, op := .move (.t 5), ix := 0 },
    { dst := some 51, op := .fieldAddr 8 (.t 7), ix := 1 },
    { dst := some 52, op := .load 1 false (.t 51), ix := 2 },
    { dst := some 53, op := .move (.t 8), ix := 3 },
    { dst := some 54, op := .indexAddr 2 (.t 52) (.t 53), ix := 4 },
    { dst := some 55, op := .fieldAddr 1 (.t 54), ix := 5 },
    { dst := some 56, op := .load 1 false (.t 55), ix := 6 },
    { dst := some 57, op := .len 0 (.t 56), ix := 7 },
    { dst := some 58, op := .fieldAddr 8 (.t 7), ix := 8 },
    { dst := some 59, op := .load 1 false (.t 58), ix := 9 },
    { dst := some 60, op := .move (.t 8), ix := 10 },
    { dst := some 61, op := .indexAddr 2 (.t 59) (.t 60), ix := 11 },
    { dst := some 62, op := .fieldAddr 0 (.t 61), ix := 12 },
    { dst := some 63, op := .load 1 false (.t 62), ix := 13 },
    { dst := some 64, op := .len 0 (.t 63), ix := 14 },
    { dst := some 65, op := .bin .add (.t 57) (.t 64), ix := 15 },
    { dst := some 66, op := .bin .quo (.t 65) (.c (.int .i64 4096)), ix := 16 },
    { dst := some 67, op := .bin .sub (.t 50) (.t 66), ix := 17 },
    { dst := some 5, op := .move (.t 67), ix := 18 }] true [0, 5, 7, 11, 12, 46, 47] [7]) (.keep [0, 5, 7, 11, 12, 46, 47] [7] .skip)))) (.keep [0, 5, 7, 11, 12, 46, 47] [7] (.seq (.region [
    { dst := some 68, op := .bin .add (.t 47) (.c (.int .i64 1)), ix := 0 },
    { dst := some 47, op := .move (.t 68), ix := 1 }] false [0, 5, 7, 11, 12, 46, 47] [7]) (.keep [0, 5, 7, 11, 12, 46, 47] [7] .skip)))))))
def B6x0 : LCode :=
  (.seq (.region [
    { dst := some 13, op := .bin .lss (.t 12) (.t 11), ix := 0 }] false [0, 5, 11, 12, 13] []) (.seq (.cond (.t 13) (.keep [0, 5, 11, 12] [] .skip) (.keep [5] [] (.exit 0))) (.keep [0, 5, 11, 12] [] (.seq (.block 1 (.seq (.region [
    { dst := some 14, op := .move (.t 12), ix := 0 },
    { dst := some 6, op := .move (.t 14), ix := 1 }] false [0, 5, 6, 11, 12] []) (.seq (.region [
    { dst := some 15, op := .move (.t 0), ix := 0 },
    { dst := some 16, op := .move (.t 6), ix := 1 },
    { dst := some 17, op := .indexAddr 9 (.t 15) (.t 16), ix := 2 },
    { dst := some 18, op := .load 9 true (.t 17), ix := 3 },
    { dst := some 7, op := .alloc false 7 [.p (.int .i64 0), .p (.int .i64 0), .p (.int .i64 0), .p (.int .i64 0), .p (.str []), .p (.str []), .p (.str []), .p (.str []), .p (.list [])] [], ix := 4 },
    { dst := none, op := .store 9 true (.t 7) (.t 18), ix := 5 }] false [0, 5, 7, 11, 12] [7]) (.seq (.region [
    { dst := some 19, op := .move (.t 5), ix := 0 },
    { dst := some 20, op := .bin .sub (.t 19) (.c (.int .i64 1)), ix := 1 },
    { dst := some 21, op := .fieldAddr 8 (.t 7), ix := 2 },
    { dst := some 22, op := .load 1 false (.t 21), ix := 3 },
    { dst := some 23, op := .len 1 (.t 22), ix := 4 },
    { dst := some 24, op := .bin .sub (.t 20) (.t 23), ix := 5 },
    { dst := some 25, op := .fieldAddr 7 (.t 7), ix := 6 },
    { dst := some 26, op := .load 1 false (.t 25), ix := 7 },
    { dst := some 27, op := .len 0 (.t 26), ix := 8 },
    { dst := some 28, op := .fieldAddr 5 (.t 7), ix := 9 },
    { dst := some 29, op := .load 1 false (.t 28), ix := 10 },
    { dst := some 30, op := .len 0 (.t 29), ix := 11 },
    { dst := some 31, op := .bin .add (.t 27) (.t 30), ix := 12 },
    { dst := some 32, op := .fieldAddr 4 (.t 7), ix := 13 },
    { dst := some 33, op := .load 1 false (.t 32), ix := 14 },
    { dst := some 34, op := .len 0 (.t 33), ix := 15 },
    { dst := some 35, op := .bin .add (.t 31) (.t 34), ix := 16 },
    { dst := some 36, op := .fieldAddr 6 (.t 7), ix := 17 },
    { dst := some 37, op := .load 1 false (.t 36), ix := 18 },
    { dst := some 38, op := .len 0 (.t 37), ix := 19 },
    { dst := some 39, op := .bin .add (.t 35) (.t 38), ix := 20 },
    { dst := some 40, op := .bin .quo (.t 39) (.c (.int .i64 4096)), ix := 21 },
    { dst := some 41, op := .bin .sub (.t 24) (.t 40), ix := 22 },
    { dst := some 5, op := .move (.t 41), ix := 23 }] false [0, 5, 7, 11, 12] [7]) (.seq (.region [
    { dst := some 42, op := .move (.t 5), ix := 0 },
    { dst := some 43, op := .bin .lss (.t 42) (.c (.int .i64 0)), ix := 1 }] false [0, 5, 7, 11, 12, 43] [7]) (.seq (.cond (.t 43) (.seq (.region [
    { dst := some 4, op := .move (.c (.bool false)), ix := 0 }] false [4] []) (.keep [4] [] .ret)) (.keep [0, 5, 7, 11, 12] [7] .skip)) (.keep [0, 5, 7, 11, 12] [7] (.seq (.region [
    { dst := some 44, op := .fieldAddr 8 (.t 7), ix := 0 },
    { dst := some 45, op := .load 1 false (.t 44), ix := 1 },
    { dst := some 46, op := .len 1 (.t 45), ix := 2 },
    { dst := some 47, op := .move (.c (.int .i64 0)), ix := 3 }] false [0, 5, 7, 11, 12, 46, 47] [7]) (.seq (.block 2 (.seq (.keep [0, 5, 7, 11, 12, 46, 47] [7] (.loop B6x1)) (.keep [0, 5, 11, 12] [] .skip))) (.keep [0, 5, 11, 12] [] .skip)))))))))) (.keep [0, 5, 11, 12] [] (.seq (.region [
    { dst := some 69, op := .bin .add (.t 12) (.c (.int .i64 1)), ix := 0 },
    { dst := some 12, op := .move (.t 69), ix := 1 }] false [0, 5, 11, 12] []) (.keep [0, 5, 11, 12] [] .skip)))))))
def F6 : LFunc := { nparams := 2, results := [.tmp 4], pure := true, body :=
  (.seq (.region [
    { dst := some 4, op := .move (.c (.bool false)), ix := 0 }] false [0, 1] []) (.seq (.region [
    { dst := some 9, op := .move (.t 1), ix := 0 },
    { dst := some 5, op := .move (.t 9), ix := 1 }] false [0, 5] []) (.seq (.region [
    { dst := some 10, op := .move (.t 0), ix := 0 },
    { dst := some 11, op := .len 1 (.t 10), ix := 1 },
    { dst := some 12, op := .move (.c (.int .i64 0)), ix := 2 }] false [0, 5, 11, 12] []) (.seq (.block 0 (.seq (.keep [0, 5, 11, 12] [] (.loop B6x0)) (.keep [5] [] .skip))) (.keep [5] [] (.seq (.region [
    { dst := some 70, op := .move (.t 5), ix := 0 },
    { dst := some 71, op := .bin .geq (.t 70) (.c (.int .i64 0)), ix := 1 },
    { dst := some 4, op := .move (.t 71), ix := 2 }] false [4] []) (.keep [4] [] .ret))))))) }
theorem ok6 : fnSoundB Go.Proofs.Tryd.prog 6 F6 = true := by decide +kernel
def B7x1 : LCode :=
  (.seq (.region [
    { dst := some 48, op := .bin .lss (.t 47) (.t 46), ix := 0 }] false [0, 3, 10, 11, 46, 47, 48] []) (.seq (.cond (.t 48) (.keep [0, 3, 10, 11, 46, 47] [] .skip) (.keep [0, 10, 11] [] (.exit 2))) (.keep [0, 3, 10, 11, 46, 47] [] (.seq (.block 3 (.seq (.region [
    { dst := some 49, op := .move (.t 47), ix := 0 },
    { dst := some 5, op := .move (.t 49), ix := 1 }] false [0, 3, 5, 10, 11, 46, 47] []) (.seq (.region [
    { dst := some 50, op := .move (.t 0), ix := 0 },
    { dst := some 51, op := .move (.t 3), ix := 1 },
    { dst := some 52, op := .indexAddr 6 (.t 50) (.t 51), ix := 2 },
    { dst := some 53, op := .fieldAddr 3 (.t 52), ix := 3 },
    { dst := some 54, op := .load 1 false (.t 53), ix := 4 },
    { dst := some 55, op := .eq .s true (.t 54) (.c (.str [])), ix := 5 },
    { dst := some 56, op := .move (.t 55), ix := 6 },
    { dst := some 57, op := .move (.t 0), guard := some (56, true), ix := 7 },
    { dst := some 58, op := .move (.t 5), guard := some (56, true), ix := 8 },
    { dst := some 59, op := .indexAddr 6 (.t 57) (.t 58), guard := some (56, true), ix := 9 },
    { dst := some 60, op := .fieldAddr 1 (.t 59), guard := some (56, true), ix := 10 },
    { dst := some 61, op := .load 1 false (.t 60), guard := some (56, true), ix := 11 },
    { dst := some 62, op := .move (.t 0), guard := some (56, true), ix := 12 },
    { dst := some 63, op := .move (.t 3), guard := some (56, true), ix := 13 },
    { dst := some 64, op := .indexAddr 6 (.t 62) (.t 63), guard := some (56, true), ix := 14 },
    { dst := some 65, op := .fieldAddr 1 (.t 64), guard := some (56, true), ix := 15 },
    { dst := some 66, op := .load 1 false (.t 65), guard := some (56, true), ix := 16 },
    { dst := some 67, op := .eq .i false (.t 61) (.t 66), guard := some (56, true), ix := 17 },
    { dst := some 68, op := .pick (.t 56) (.t 67) (.c (.bool false)), ix := 18 },
    { dst := some 69, op := .move (.t 68), ix := 19 },
    { dst := some 70, op := .move (.t 0), guard := some (69, true), ix := 20 },
    { dst := some 71, op := .move (.t 5), guard := some (69, true), ix := 21 },
    { dst := some 72, op := .indexAddr 6 (.t 70) (.t 71), guard := some (69, true), ix := 22 },
    { dst := some 73, op := .fieldAddr 3 (.t 72), guard := some (69, true), ix := 23 },
    { dst := some 74, op := .load 1 false (.t 73), guard := some (69, true), ix := 24 },
    { dst := some 75, op := .move (.t 0), guard := some (69, true), ix := 25 },
    { dst := some 76, op := .move (.t 3), guard := some (69, true), ix := 26 },
    { dst := some 77, op := .indexAddr 6 (.t 75) (.t 76), guard := some (69, true), ix := 27 },
    { dst := some 78, op := .fieldAddr 3 (.t 77), guard := some (69, true), ix := 28 },
    { dst := some 79, op := .load 1 false (.t 78), guard := some (69, true), ix := 29 },
    { dst := some 80, op := .eq .s false (.t 74) (.t 79), guard := some (69, true), ix := 30 },
    { dst := some 81, op := .pick (.t 69) (.t 80) (.c (.bool false)), ix := 31 }] true [0, 3, 10, 11, 46, 47, 81] []) (.seq (.cond (.t 81) (.seq (.region [
    { dst := some 2, op := .move (.c (.int .i64 10)), ix := 0 }] false [2] []) (.keep [2] [] .ret)) (.keep [0, 3, 10, 11, 46, 47] [] .skip)) (.keep [0, 3, 10, 11, 46, 47] [] .skip))))) (.keep [0, 3, 10, 11, 46, 47] [] (.seq (.region [
    { dst := some 82, op := .bin .add (.t 47) (.c (.int .i64 1)), ix := 0 },
    { dst := some 47, op := .move (.t 82), ix := 1 }] false [0, 3, 10, 11, 46, 47] []) (.keep [0, 3, 10, 11, 46, 47] [] .skip)))))))
def B7x0 : LCode :=
  (.seq (.region [
    { dst := some 12, op := .bin .lss (.t 11) (.t 10), ix := 0 }] false [0, 10, 11, 12] []) (.seq (.cond (.t 12) (.keep [0, 10, 11] [] .skip) (.keep [] [] (.exit 0))) (.keep [0, 10, 11] [] (.seq (.block 1 (.seq (.region [
    { dst := some 13, op := .move (.t 11), ix := 0 },
    { dst := some 3, op := .move (.t 13), ix := 1 }] false [0, 3, 10, 11] []) (.seq (.region [
    { dst := some 14, op := .move (.t 3), ix := 0 },
    { dst := some 15, op := .eq .i false (.t 14) (.c (.int .i64 4096)), ix := 1 }] false [0, 3, 10, 11, 15] []) (.seq (.cond (.t 15) (.seq (.region [
    { dst := some 2, op := .move (.c (.int .i64 12)), ix := 0 }] false [2] []) (.keep [2] [] .ret)) (.keep [0, 3, 10, 11] [] .skip)) (.keep [0, 3, 10, 11] [] (.seq (.region [
    { dst := some 16, op := .move (.t 0), ix := 0 },
    { dst := some 17, op := .move (.t 3), ix := 1 },
    { dst := some 18, op := .bin .add (.t 17) (.c (.int .i64 1)), ix := 2 },
    { dst := some 19, op := .pcall 18 [(.t 16, .as), (.t 18, .as)], ix := 3 },
    { dst := some 20, op := .bin .gtr (.t 19) (.c (.int .i64 64)), ix := 4 }] false [0, 3, 10, 11, 20] []) (.seq (.cond (.t 20) (.seq (.region [
    { dst := some 2, op := .move (.c (.int .i64 11)), ix := 0 }] false [2] []) (.keep [2] [] .ret)) (.keep [0, 3, 10, 11] [] .skip)) (.keep [0, 3, 10, 11] [] (.seq (.region [
    { dst := some 21, op := .move (.t 0), ix := 0 },
    { dst := some 22, op := .move (.t 3), ix := 1 },
    { dst := some 23, op := .indexAddr 6 (.t 21) (.t 22), ix := 2 },
    { dst := some 24, op := .fieldAddr 2 (.t 23), ix := 3 },
    { dst := some 25, op := .load 1 false (.t 24), ix := 4 },
    { dst := some 26, op := .move (.t 0), ix := 5 },
    { dst := some 27, op := .move (.t 3), ix := 6 },
    { dst := some 28, op := .indexAddr 6 (.t 26) (.t 27), ix := 7 },
    { dst := some 29, op := .fieldAddr 3 (.t 28), ix := 8 },
    { dst := some 30, op := .load 1 false (.t 29), ix := 9 },
    { dst := some 31, op := .move (.t 0), ix := 10 },
    { dst := some 32, op := .move (.t 3), ix := 11 },
    { dst := some 33, op := .indexAddr 6 (.t 31) (.t 32), ix := 12 },
    { dst := some 34, op := .fieldAddr 4 (.t 33), ix := 13 },
    { dst := some 35, op := .load 1 false (.t 34), ix := 14 },
    { dst := some 36, op := .move (.t 0), ix := 15 },
    { dst := some 37, op := .move (.t 3), ix := 16 },
    { dst := some 38, op := .indexAddr 6 (.t 36) (.t 37), ix := 17 },
    { dst := some 39, op := .fieldAddr 5 (.t 38), ix := 18 },
    { dst := some 40, op := .load 1 false (.t 39), ix := 19 },
    { dst := some 41, op := .build [.p (.str []), .p (.str []), .p (.str []), .p (.list []), .nils] [(0, 1, .t 25), (1, 1, .t 30), (2, 1, .t 35), (3, 1, .t 40)], ix := 20 },
    { dst := some 42, op := .pcall 19 [(.t 41, .look)], ix := 21 },
    { dst := some 4, op := .move (.t 42), ix := 22 }] true [0, 3, 4, 10, 11] []) (.seq (.region [
    { dst := some 43, op := .move (.t 4), ix := 0 },
    { dst := some 44, op := .eq .i true (.t 43) (.c (.int .i64 0)), ix := 1 }] false [0, 3, 4, 10, 11, 44] []) (.seq (.cond (.t 44) (.seq (.region [
    { dst := some 45, op := .move (.t 4), ix := 0 },
    { dst := some 2, op := .move (.t 45), ix := 1 }] false [2] []) (.keep [2] [] .ret)) (.keep [0, 3, 10, 11] [] .skip)) (.keep [0, 3, 10, 11] [] (.seq (.region [
    { dst := some 46, op := .move (.t 3), ix := 0 },
    { dst := some 47, op := .move (.c (.int .i64 0)), ix := 1 }] false [0, 3, 10, 11, 46, 47] []) (.seq (.block 2 (.seq (.keep [0, 3, 10, 11, 46, 47] [] (.loop B7x1)) (.keep [0, 10, 11] [] .skip))) (.keep [0, 10, 11] [] .skip))))))))))))))) (.keep [0, 10, 11] [] (.seq (.region [
    { dst := some 83, op := .bin .add (.t 11) (.c (.int .i64 1)), ix := 0 },
    { dst := some 11, op := .move (.t 83), ix := 1 }] false [0, 10, 11] []) (.keep [0, 10, 11] [] .skip)))))))
def F7 : LFunc := { nparams := 1, results := [.tmp 2], pure := true, body :=
  (.seq (.region [
    { dst := some 2, op := .move (.c (.int .i64 0)), ix := 0 }] false [0] []) (.seq (.region [
    { dst := some 6, op := .move (.t 0), ix := 0 },
    { dst := some 7, op := .pcall 17 [(.t 6, .as)], ix := 1 },
    { dst := some 8, op := .un .not (.t 7), ix := 2 }] false [0, 8] []) (.seq (.cond (.t 8) (.seq (.region [
    { dst := some 2, op := .move (.c (.int .i64 2)), ix := 0 }] false [2] []) (.keep [2] [] .ret)) (.keep [0] [] .skip)) (.keep [0] [] (.seq (.region [
    { dst := some 9, op := .move (.t 0), ix := 0 },
    { dst := some 10, op := .len 1 (.t 9), ix := 1 },
    { dst := some 11, op := .move (.c (.int .i64 0)), ix := 2 }] false [0, 10, 11] []) (.seq (.block 0 (.seq (.keep [0, 10, 11] [] (.loop B7x0)) (.keep [] [] .skip))) (.keep [] [] (.seq (.region [
    { dst := some 2, op := .move (.c (.int .i64 0)), ix := 0 }] false [2] []) (.keep [2] [] .ret))))))))) }
theorem ok7 : fnSoundB Go.Proofs.Tryd.prog 7 F7 = true := by decide +kernel
def F8 : LFunc := { nparams := 0, results := [.tmp 0], pure := true, body :=
  (.seq (.region [
    { dst := some 0, op := .move (.c (.bool false)), ix := 0 }] false [] []) (.seq (.region [
    { dst := some 7, op := .build [.p (.int .i64 0), .p (.int .i64 0), .p (.str []), .p (.str []), .p (.str []), .p (.list [])] [(2, 1, .c (.str [112]))], ix := 0 },
    { dst := some 8, op := .row 6 [.t 7], ix := 1 },
    { dst := some 9, op := .call 9 [(.t 8, .freeze)], ix := 2 },
    { dst := some 6, op := .move (.t 9), ix := 3 },
    { dst := some 10, op := .extract (.t 6) 0, ix := 4 },
    { dst := some 11, op := .extract (.t 6) 1, ix := 5 },
    { dst := some 1, op := .move (.t 10), ix := 6 },
    { dst := some 2, op := .move (.t 11), ix := 7 }] false [1, 2] []) (.seq (.region [
    { dst := some 13, op := .move (.t 1), ix := 0 },
    { dst := some 14, op := .build [.p (.int .i64 0), .p (.int .i64 0), .p (.int .i64 0), .p (.int .i64 0), .p (.str []), .p (.str []), .p (.str []), .p (.str []), .p (.list [])] [(0, 1, .c (.int .i64 1)), (4, 1, .c (.str [98]))], ix := 1 },
    { dst := some 15, op := .build [.p (.int .i64 0), .p (.int .i64 0), .p (.int .i64 0), .p (.int .i64 0), .p (.str []), .p (.str []), .p (.str []), .p (.str []), .p (.list [])] [(0, 1, .c (.int .i64 2)), (1, 1, .c (.int .i64 2)), (2, 1, .c (.int .i64 1))], ix := 2 },
    { dst := some 16, op := .build [.p (.int .i64 0), .p (.int .i64 0), .p (.int .i64 0), .p (.int .i64 0), .p (.str []), .p (.str []), .p (.str []), .p (.str []), .p (.list [])] [(0, 1, .c (.int .i64 2)), (1, 1, .c (.int .i64 2))], ix := 3 },
    { dst := some 17, op := .row 9 [.t 14, .t 15, .t 16], ix := 4 },
    { dst := some 18, op := .call 10 [(.t 13, .as), (.t 17, .freeze)], ix := 5 },
    { dst := some 12, op := .move (.t 18), ix := 6 },
    { dst := some 19, op := .extract (.t 12) 0, ix := 7 },
    { dst := some 20, op := .extract (.t 12) 1, ix := 8 },
    { dst := some 3, op := .move (.t 19), ix := 9 },
    { dst := some 4, op := .move (.t 20), ix := 10 }] false [1, 2, 3, 4] []) (.seq (.region [
    { dst := some 21, op := .move (.t 1), ix := 0 },
    { dst := some 22, op := .call 11 [(.t 21, .as)], ix := 1 },
    { dst := some 5, op := .move (.t 22), ix := 2 }] false [1, 2, 3, 4, 5] []) (.seq (.region [
    { dst := some 23, op := .move (.t 2), ix := 0 },
    { dst := some 24, op := .eq .i false (.t 23) (.c (.int .i64 0)), ix := 1 },
    { dst := some 25, op := .move (.t 24), ix := 2 },
    { dst := some 26, op := .move (.t 3), guard := some (25, true), ix := 3 },
    { dst := some 27, op := .eq .i false (.t 26) (.c (.int .i64 2)), guard := some (25, true), ix := 4 },
    { dst := some 28, op := .pick (.t 25) (.t 27) (.c (.bool false)), ix := 5 },
    { dst := some 29, op := .move (.t 28), ix := 6 },
    { dst := some 30, op := .move (.t 4), guard := some (29, true), ix := 7 },
    { dst := some 31, op := .eq .i false (.t 30) (.c (.int .i64 15)), guard := some (29, true), ix := 8 },
    { dst := some 32, op := .pick (.t 29) (.t 31) (.c (.bool false)), ix := 9 },
    { dst := some 33, op := .move (.t 32), ix := 10 },
    { dst := some 34, op := .move (.t 5), guard := some (33, true), ix := 11 },
    { dst := some 35, op := .len 1 (.t 34), guard := some (33, true), ix := 12 },
    { dst := some 36, op := .eq .i false (.t 35) (.c (.int .i64 2)), guard := some (33, true), ix := 13 },
    { dst := some 37, op := .pick (.t 33) (.t 36) (.c (.bool false)), ix := 14 },
    { dst := some 38, op := .move (.t 37), ix := 15 },
    { dst := some 39, op := .move (.t 5), guard := some (38, true), ix := 16 },
    { dst := some 40, op := .indexAddr 6 (.t 39) (.c (.int .i64 1)), guard := some (38, true), ix := 17 },
    { dst := some 41, op := .fieldAddr 0 (.t 40), guard := some (38, true), ix := 18 },
    { dst := some 42, op := .load 1 false (.t 41), guard := some (38, true), ix := 19 },
    { dst := some 43, op := .eq .i false (.t 42) (.c (.int .i64 2)), guard := some (38, true), ix := 20 },
    { dst := some 44, op := .pick (.t 38) (.t 43) (.c (.bool false)), ix := 21 },
    { dst := some 45, op := .move (.t 44), ix := 22 },
    { dst := some 46, op := .move (.t 5), guard := some (45, true), ix := 23 },
    { dst := some 47, op := .indexAddr 6 (.t 46) (.c (.int .i64 1)), guard := some (45, true), ix := 24 },
    { dst := some 48, op := .fieldAddr 1 (.t 47), guard := some (45, true), ix := 25 },
    { dst := some 49, op := .load 1 false (.t 48), guard := some (45, true), ix := 26 },
    { dst := some 50, op := .eq .i false (.t 49) (.c (.int .i64 1)), guard := some (45, true), ix := 27 },
    { dst := some 51, op := .pick (.t 45) (.t 50) (.c (.bool false)), ix := 28 },
    { dst := some 52, op := .move (.t 51), ix := 29 },
    { dst := some 53, op := .move (.t 1), guard := some (52, true), ix := 30 },
    { dst := some 54, op := .call 12 [(.t 53, .as)], guard := some (52, true), ix := 31 },
    { dst := some 55, op := .eq .i false (.t 54) (.c (.int .i64 3)), guard := some (52, true), ix := 32 },
    { dst := some 56, op := .pick (.t 52) (.t 55) (.c (.bool false)), ix := 33 },
    { dst := some 57, op := .move (.t 56), ix := 34 },
    { dst := some 58, op := .move (.t 1), guard := some (57, true), ix := 35 },
    { dst := some 59, op := .call 20 [(.t 58, .as)], guard := some (57, true), ix := 36 },
    { dst := some 60, op := .len 1 (.t 59), guard := some (57, true), ix := 37 },
    { dst := some 61, op := .eq .i false (.t 60) (.c (.int .i64 0)), guard := some (57, true), ix := 38 },
    { dst := some 62, op := .pick (.t 57) (.t 61) (.c (.bool false)), ix := 39 },
    { dst := some 0, op := .move (.t 62), ix := 40 }] false [0] []) (.keep [0] [] .ret)))))) }
theorem ok8 : fnSoundB Go.Proofs.Tryd.prog 8 F8 = true := by decide +kernel
def B9x0 : LCode :=
  (.seq (.region [
    { dst := some 20, op := .bin .lss (.t 19) (.t 18), ix := 0 }] false [5, 17, 18, 19, 20] []) (.seq (.cond (.t 20) (.keep [5, 17, 18, 19] [] .skip) (.keep [5] [] (.exit 0))) (.keep [5, 17, 18, 19] [] (.seq (.block 1 (.seq (.region [
    { dst := some 21, op := .move (.t 19), ix := 0 },
    { dst := some 22, op := .indexAddr 6 (.t 17) (.t 19), ix := 1 },
    { dst := some 23, op := .load 6 true (.t 22), ix := 2 },
    { dst := some 7, op := .alloc false 7 [.p (.int .i64 0), .p (.int .i64 0), .p (.str []), .p (.str []), .p (.str []), .p (.list [])] [], ix := 3 },
    { dst := some 6, op := .move (.t 21), ix := 4 },
    { dst := none, op := .store 6 true (.t 7) (.t 23), ix := 5 }] false [5, 6, 7, 17, 18, 19] [7]) (.seq (.draw [
    { dst := some 24, op := .move (.t 5), ix := 0 },
    { dst := some 25, op := .move (.t 5), ix := 1 },
    { dst := some 26, op := .nilCheck (.t 25), ix := 2 },
    { dst := some 27, op := .fieldAddr 0 (.t 26), ix := 3 },
    { dst := some 28, op := .load 1 false (.t 27), ix := 4 },
    { dst := some 29, op := .fieldAddr 1 (.t 7), ix := 5 },
    { dst := some 30, op := .load 1 false (.t 29), ix := 6 },
    { dst := some 31, op := .fieldAddr 2 (.t 7), ix := 7 },
    { dst := some 32, op := .load 1 false (.t 31), ix := 8 },
    { dst := some 33, op := .fieldAddr 3 (.t 7), ix := 9 },
    { dst := some 34, op := .load 1 false (.t 33), ix := 10 },
    { dst := some 35, op := .fieldAddr 4 (.t 7), ix := 11 },
    { dst := some 36, op := .load 1 false (.t 35), ix := 12 },
    { dst := some 37, op := .fieldAddr 5 (.t 7), ix := 13 },
    { dst := some 38, op := .load 1 false (.t 37), ix := 14 },
    { dst := some 39, op := .pcall 22 [(.t 38, .as)], ix := 15 },
    { dst := some 40, op := .build [.p (.bool false), .p (.int .i64 0), .nils, .p (.str []), .p (.str []), .p (.str []), .p (.list [])] [(0, 1, .c (.bool true)), (1, 1, .t 30), (3, 1, .t 32), (4, 1, .t 34), (5, 1, .t 36), (6, 1, .t 39)], ix := 16 },
    { dst := some 41, op := .row 7 [.t 40], ix := 17 },
    { dst := some 42, op := .append true 1000 7 112 (.t 28) (.t 41), ix := 18 },
    { dst := some 43, op := .nilCheck (.t 24), ix := 19 },
    { dst := some 44, op := .fieldAddr 0 (.t 43), ix := 20 },
    { dst := none, op := .store 1 false (.t 44) (.t 42), ix := 21 }] [5, 6, 7, 17, 18, 19] [7]) (.seq (.draw [
    { dst := some 45, op := .move (.t 5), ix := 0 },
    { dst := some 46, op := .nilCheck (.t 45), ix := 1 },
    { dst := some 47, op := .fieldAddr 0 (.t 46), ix := 2 },
    { dst := some 48, op := .load 1 false (.t 47), ix := 3 },
    { dst := some 49, op := .fieldAddr 1 (.t 7), ix := 4 },
    { dst := some 50, op := .load 1 false (.t 49), ix := 5 },
    { dst := some 51, op := .move (.t 5), ix := 6 },
    { dst := some 52, op := .nilCheck (.t 51), ix := 7 },
    { dst := some 53, op := .fieldAddr 0 (.t 52), ix := 8 },
    { dst := some 54, op := .load 1 false (.t 53), ix := 9 },
    { dst := some 55, op := .fieldAddr 1 (.t 7), ix := 10 },
    { dst := some 56, op := .load 1 false (.t 55), ix := 11 },
    { dst := some 57, op := .indexAddr 7 (.t 54) (.t 56), ix := 12 },
    { dst := some 58, op := .fieldAddr 2 (.t 57), ix := 13 },
    { dst := some 59, op := .load 1 false (.t 58), ix := 14 },
    { dst := some 60, op := .move (.t 6), ix := 15 },
    { dst := some 61, op := .bin .add (.t 60) (.c (.int .i64 1)), ix := 16 },
    { dst := some 62, op := .row 1 [.t 61], ix := 17 },
    { dst := some 63, op := .append true 1001 1 8 (.t 59) (.t 62), ix := 18, again := [3, 5] },
    { dst := some 64, op := .indexAddr 7 (.t 48) (.t 50), ix := 19 },
    { dst := some 65, op := .fieldAddr 2 (.t 64), ix := 20 },
    { dst := none, op := .store 1 false (.t 65) (.t 63), ix := 21 }] [5, 17, 18, 19] []) (.keep [5, 17, 18, 19] [] .skip))))) (.keep [5, 17, 18, 19] [] (.seq (.region [
    { dst := some 66, op := .bin .add (.t 19) (.c (.int .i64 1)), ix := 0 },
    { dst := some 19, op := .move (.t 66), ix := 1 }] false [5, 17, 18, 19] []) (.keep [5, 17, 18, 19] [] .skip)))))))
def F9 : LFunc := { nparams := 1, results := [.tmp 2, .tmp 3], pure := false, body :=
  (.seq (.region [
    { dst := some 2, op := .move (.c (.nilp)), ix := 0 },
    { dst := some 3, op := .move (.c (.int .i64 0)), ix := 1 }] false [0] []) (.seq (.region [
    { dst := some 8, op := .move (.t 0), ix := 0 },
    { dst := some 9, op := .pcall 21 [(.t 8, .as)], ix := 1 },
    { dst := some 4, op := .move (.t 9), ix := 2 }] false [0, 4] []) (.seq (.region [
    { dst := some 10, op := .move (.t 4), ix := 0 },
    { dst := some 11, op := .eq .i true (.t 10) (.c (.int .i64 0)), ix := 1 }] false [0, 4, 11] []) (.seq (.cond (.t 11) (.seq (.region [
    { dst := some 12, op := .move (.t 4), ix := 0 },
    { dst := some 2, op := .move (.c (.nilp)), ix := 1 },
    { dst := some 3, op := .move (.t 12), ix := 2 }] false [2, 3] []) (.keep [2, 3] [] .ret)) (.keep [0] [] .skip)) (.keep [0] [] (.seq (.region [
    { dst := some 13, op := .build [.p (.bool false), .p (.int .i64 0), .nils, .p (.str []), .p (.str []), .p (.str []), .p (.list [])] [(0, 1, .c (.bool true)), (1, 1, .c (.int .i64 (-1)))], ix := 0 },
    { dst := some 14, op := .rowOwn true 14 7 [.t 13], ix := 1 },
    { dst := some 15, op := .build [.nils] [(0, 1, .t 14)], ix := 2 },
    { dst := some 16, op := .box true 16 (.t 15), ix := 3 },
    { dst := some 5, op := .move (.t 16), ix := 4 }] false [0, 5] []) (.seq (.region [
    { dst := some 17, op := .move (.t 0), ix := 0 },
    { dst := some 18, op := .len 1 (.t 17), ix := 1 },
    { dst := some 19, op := .move (.c (.int .i64 0)), ix := 2 }] false [5, 17, 18, 19] []) (.seq (.block 0 (.seq (.keep [5, 17, 18, 19] [] (.loop B9x0)) (.keep [5] [] .skip))) (.keep [5] [] (.seq (.region [
    { dst := some 67, op := .move (.t 5), ix := 0 },
    { dst := some 2, op := .move (.t 67), ix := 1 },
    { dst := some 3, op := .move (.c (.int .i64 0)), ix := 2 }] false [2, 3] []) (.keep [2, 3] [] .ret))))))))))) }
theorem ok9 : fnSoundB Go.Proofs.Tryd.prog 9 F9 = true := by decide +kernel
def B10x0 : LCode :=
  (.seq (.region [
    { dst := some 22, op := .bin .lss (.t 21) (.t 20), ix := 0 }] false [0, 1, 19, 20, 21, 22] []) (.seq (.cond (.t 22) (.keep [0, 1, 19, 20, 21] [] .skip) (.keep [1] [] (.exit 0))) (.keep [0, 1, 19, 20, 21] [] (.seq (.block 1 (.seq (.region [
    { dst := some 23, op := .move (.t 21), ix := 0 },
    { dst := some 24, op := .indexAddr 9 (.t 19) (.t 21), ix := 1 },
    { dst := some 25, op := .load 9 true (.t 24), ix := 2 },
    { dst := some 7, op := .alloc false 7 [.p (.int .i64 0), .p (.int .i64 0), .p (.int .i64 0), .p (.int .i64 0), .p (.str []), .p (.str []), .p (.str []), .p (.str []), .p (.list [])] [], ix := 3 },
    { dst := some 6, op := .move (.t 23), ix := 4 },
    { dst := none, op := .store 9 true (.t 7) (.t 25), ix := 5 }] false [0, 1, 6, 7, 19, 20, 21] [7]) (.seq (.region [
    { dst := some 26, op := .move (.t 0), ix := 0 },
    { dst := some 27, op := .load 9 true (.t 7), ix := 1 },
    { dst := some 28, op := .call 23 [(.t 26, .as), (.t 27, .as)], ix := 2 },
    { dst := some 8, op := .move (.t 28), ix := 3 }] false [0, 1, 6, 8, 19, 20, 21] []) (.seq (.region [
    { dst := some 29, op := .move (.t 8), ix := 0 },
    { dst := some 30, op := .eq .i true (.t 29) (.c (.int .i64 0)), ix := 1 }] false [0, 1, 6, 8, 19, 20, 21, 30] []) (.seq (.cond (.t 30) (.seq (.region [
    { dst := some 31, op := .move (.t 6), ix := 0 },
    { dst := some 32, op := .move (.t 8), ix := 1 },
    { dst := some 4, op := .move (.t 31), ix := 2 },
    { dst := some 5, op := .move (.t 32), ix := 3 }] false [4, 5] []) (.keep [4, 5] [] .ret)) (.keep [0, 1, 19, 20, 21] [] .skip)) (.keep [0, 1, 19, 20, 21] [] .skip)))))) (.keep [0, 1, 19, 20, 21] [] (.seq (.region [
    { dst := some 33, op := .bin .add (.t 21) (.c (.int .i64 1)), ix := 0 },
    { dst := some 21, op := .move (.t 33), ix := 1 }] false [0, 1, 19, 20, 21] []) (.keep [0, 1, 19, 20, 21] [] .skip)))))))
def F10 : LFunc := { nparams := 2, results := [.tmp 4, .tmp 5], pure := false, body :=
  (.seq (.region [
    { dst := some 4, op := .move (.c (.int .i64 0)), ix := 0 },
    { dst := some 5, op := .move (.c (.int .i64 0)), ix := 1 }] false [0, 1] []) (.seq (.region [
    { dst := some 9, op := .move (.t 0), ix := 0 },
    { dst := some 10, op := .eq .ptr false (.t 9) (.c (.nilp)), ix := 1 },
    { dst := some 11, op := .move (.t 10), ix := 2 },
    { dst := some 12, op := .move (.t 0), guard := some (11, false), ix := 3 },
    { dst := some 13, op := .nilCheck (.t 12), guard := some (11, false), ix := 4 },
    { dst := some 14, op := .fieldAddr 0 (.t 13), guard := some (11, false), ix := 5 },
    { dst := some 15, op := .load 1 false (.t 14), guard := some (11, false), ix := 6 },
    { dst := some 16, op := .len 1 (.t 15), guard := some (11, false), ix := 7 },
    { dst := some 17, op := .eq .i false (.t 16) (.c (.int .i64 0)), guard := some (11, false), ix := 8 },
    { dst := some 18, op := .pick (.t 11) (.c (.bool true)) (.t 17), ix := 9 }] false [0, 1, 18] []) (.seq (.cond (.t 18) (.seq (.region [
    { dst := some 4, op := .move (.c (.int .i64 0)), ix := 0 },
    { dst := some 5, op := .move (.c (.int .i64 1)), ix := 1 }] false [4, 5] []) (.keep [4, 5] [] .ret)) (.keep [0, 1] [] .skip)) (.keep [0, 1] [] (.seq (.region [
    { dst := some 19, op := .move (.t 1), ix := 0 },
    { dst := some 20, op := .len 1 (.t 19), ix := 1 },
    { dst := some 21, op := .move (.c (.int .i64 0)), ix := 2 }] false [0, 1, 19, 20, 21] []) (.seq (.block 0 (.seq (.keep [0, 1, 19, 20, 21] [] (.loop B10x0)) (.keep [1] [] .skip))) (.keep [1] [] (.seq (.region [
    { dst := some 34, op := .move (.t 1), ix := 0 },
    { dst := some 35, op := .len 1 (.t 34), ix := 1 },
    { dst := some 4, op := .move (.t 35), ix := 2 },
    { dst := some 5, op := .move (.c (.int .i64 0)), ix := 3 }] false [4, 5] []) (.keep [4, 5] [] .ret))))))))) }
theorem ok10 : fnSoundB Go.Proofs.Tryd.prog 10 F10 = true := by decide +kernel
def F11 : LFunc := { nparams := 1, results := [.tmp 2], pure := false, body :=
  (.seq (.region [
    { dst := some 2, op := .move (.c (.list [])), ix := 0 }] false [0] []) (.seq (.region [
    { dst := some 3, op := .move (.t 0), ix := 0 },
    { dst := some 4, op := .eq .ptr false (.t 3) (.c (.nilp)), ix := 1 },
    { dst := some 5, op := .move (.t 4), ix := 2 },
    { dst := some 6, op := .move (.t 0), guard := some (5, false), ix := 3 },
    { dst := some 7, op := .nilCheck (.t 6), guard := some (5, false), ix := 4 },
    { dst := some 8, op := .fieldAddr 0 (.t 7), guard := some (5, false), ix := 5 },
    { dst := some 9, op := .load 1 false (.t 8), guard := some (5, false), ix := 6 },
    { dst := some 10, op := .len 1 (.t 9), guard := some (5, false), ix := 7 },
    { dst := some 11, op := .eq .i false (.t 10) (.c (.int .i64 0)), guard := some (5, false), ix := 8 },
    { dst := some 12, op := .pick (.t 5) (.c (.bool true)) (.t 11), ix := 9 }] false [0, 12] []) (.seq (.cond (.t 12) (.seq (.region [
    { dst := some 2, op := .move (.c (.list [])), ix := 0 }] false [2] []) (.keep [2] [] .ret)) (.keep [0] [] .skip)) (.keep [0] [] (.seq (.region [
    { dst := some 13, op := .move (.t 0), ix := 0 },
    { dst := some 14, op := .call 24 [(.t 13, .as), (.c (.list []), .fresh 6), (.c (.int .i64 0), .as), (.c (.int .i64 0), .as)], ix := 1 },
    { dst := some 2, op := .move (.t 14), ix := 2 }] false [2] []) (.keep [2] [] .ret)))))) }
theorem ok11 : fnSoundB Go.Proofs.Tryd.prog 11 F11 = true := by decide +kernel
def F12 : LFunc := { nparams := 1, results := [.tmp 2], pure := false, body :=
  (.seq (.region [
    { dst := some 2, op := .move (.c (.int .i64 0)), ix := 0 }] false [0] []) (.seq (.region [
    { dst := some 3, op := .move (.t 0), ix := 0 },
    { dst := some 4, op := .eq .ptr false (.t 3) (.c (.nilp)), ix := 1 }] false [0, 4] []) (.seq (.cond (.t 4) (.seq (.region [
    { dst := some 2, op := .move (.c (.int .i64 0)), ix := 0 }] false [2] []) (.keep [2] [] .ret)) (.keep [0] [] .skip)) (.keep [0] [] (.seq (.region [
    { dst := some 5, op := .move (.t 0), ix := 0 },
    { dst := some 6, op := .nilCheck (.t 5), ix := 1 },
    { dst := some 7, op := .fieldAddr 0 (.t 6), ix := 2 },
    { dst := some 8, op := .load 1 false (.t 7), ix := 3 },
    { dst := some 9, op := .len 1 (.t 8), ix := 4 },
    { dst := some 2, op := .move (.t 9), ix := 5 }] false [2] []) (.keep [2] [] .ret)))))) }
theorem ok12 : fnSoundB Go.Proofs.Tryd.prog 12 F12 = true := by decide +kernel
def F13 : LFunc := { nparams := 0, results := [.tmp 0], pure := true, body :=
  (.seq (.region [
    { dst := some 0, op := .move (.c (.bool false)), ix := 0 }] false [] []) (.seq (.region [
    { dst := some 11, op := .build [.p (.int .i64 0), .p (.int .i64 0), .p (.int .i64 0), .p (.int .i64 0), .p (.str []), .p (.str []), .p (.str []), .p (.str []), .p (.list [])] [(0, 1, .c (.int .i64 1)), (4, 1, .c (.str [112]))], ix := 0 },
    { dst := some 12, op := .build [.p (.int .i64 0), .p (.int .i64 0), .p (.int .i64 0), .p (.int .i64 0), .p (.str []), .p (.str []), .p (.str []), .p (.str []), .p (.list [])] [(0, 1, .c (.int .i64 2)), (1, 1, .c (.int .i64 1))], ix := 1 },
    { dst := some 13, op := .row 9 [.t 11, .t 12], ix := 2 },
    { dst := some 1, op := .move (.t 13), ix := 3 }] false [1] []) (.seq (.region [
    { dst := some 15, op := .move (.t 1), ix := 0 },
    { dst := some 16, op := .pcall 14 [(.c (.list []), .as), (.t 15, .freeze), (.c (.int .i64 1), .as)], ix := 1 },
    { dst := some 14, op := .move (.t 16), ix := 2 },
    { dst := some 17, op := .extract (.t 14) 0, ix := 3 },
    { dst := some 18, op := .extract (.t 14) 1, ix := 4 },
    { dst := some 19, op := .extract (.t 14) 2, ix := 5 },
    { dst := some 2, op := .move (.t 17), ix := 6 },
    { dst := some 3, op := .move (.t 18), ix := 7 },
    { dst := some 4, op := .move (.t 19), ix := 8 }] false [1, 2, 3, 4] []) (.seq (.region [
    { dst := some 21, op := .move (.t 1), ix := 0 },
    { dst := some 22, op := .slice false 9 (.t 21) none (some (.c (.int .i64 1))), ix := 1 },
    { dst := some 23, op := .pcall 14 [(.c (.list []), .as), (.t 22, .freeze), (.c (.int .i64 1), .as)], ix := 2 },
    { dst := some 20, op := .move (.t 23), ix := 3 },
    { dst := some 24, op := .extract (.t 20) 0, ix := 4 },
    { dst := some 25, op := .extract (.t 20) 1, ix := 5 },
    { dst := some 26, op := .extract (.t 20) 2, ix := 6 },
    { dst := some 5, op := .move (.t 24), ix := 7 },
    { dst := some 6, op := .move (.t 25), ix := 8 },
    { dst := some 7, op := .move (.t 26), ix := 9 }] false [1, 2, 3, 4, 6, 7] []) (.seq (.region [
    { dst := some 28, op := .move (.t 1), ix := 0 },
    { dst := some 29, op := .pcall 14 [(.c (.list []), .as), (.t 28, .freeze), (.c (.int .i64 0), .as)], ix := 1 },
    { dst := some 27, op := .move (.t 29), ix := 2 },
    { dst := some 30, op := .extract (.t 27) 0, ix := 3 },
    { dst := some 31, op := .extract (.t 27) 1, ix := 4 },
    { dst := some 32, op := .extract (.t 27) 2, ix := 5 },
    { dst := some 8, op := .move (.t 30), ix := 6 },
    { dst := some 9, op := .move (.t 31), ix := 7 },
    { dst := some 10, op := .move (.t 32), ix := 8 }] false [2, 3, 4, 6, 7, 9, 10] []) (.seq (.region [
    { dst := some 33, op := .move (.t 2), ix := 0 },
    { dst := some 34, op := .len 1 (.t 33), ix := 1 },
    { dst := some 35, op := .eq .i false (.t 34) (.c (.int .i64 1)), ix := 2 },
    { dst := some 36, op := .move (.t 35), ix := 3 },
    { dst := some 37, op := .move (.t 2), guard := some (36, true), ix := 4 },
    { dst := some 38, op := .indexAddr 6 (.t 37) (.c (.int .i64 0)), guard := some (36, true), ix := 5 },
    { dst := some 39, op := .fieldAddr 0 (.t 38), guard := some (36, true), ix := 6 },
    { dst := some 40, op := .load 1 false (.t 39), guard := some (36, true), ix := 7 },
    { dst := some 41, op := .eq .i false (.t 40) (.c (.int .i64 1)), guard := some (36, true), ix := 8 },
    { dst := some 42, op := .pick (.t 36) (.t 41) (.c (.bool false)), ix := 9 },
    { dst := some 43, op := .move (.t 42), ix := 10 },
    { dst := some 44, op := .move (.t 3), guard := some (43, true), ix := 11 },
    { dst := some 45, op := .eq .i false (.t 44) (.c (.int .i64 0)), guard := some (43, true), ix := 12 },
    { dst := some 46, op := .pick (.t 43) (.t 45) (.c (.bool false)), ix := 13 },
    { dst := some 47, op := .move (.t 46), ix := 14 },
    { dst := some 48, op := .move (.t 4), guard := some (47, true), ix := 15 },
    { dst := some 49, op := .eq .i false (.t 48) (.c (.int .i64 0)), guard := some (47, true), ix := 16 },
    { dst := some 50, op := .pick (.t 47) (.t 49) (.c (.bool false)), ix := 17 },
    { dst := some 51, op := .move (.t 50), ix := 18 },
    { dst := some 52, op := .move (.t 6), guard := some (51, true), ix := 19 },
    { dst := some 53, op := .eq .i false (.t 52) (.c (.int .i64 1)), guard := some (51, true), ix := 20 },
    { dst := some 54, op := .pick (.t 51) (.t 53) (.c (.bool false)), ix := 21 },
    { dst := some 55, op := .move (.t 54), ix := 22 },
    { dst := some 56, op := .move (.t 7), guard := some (55, true), ix := 23 },
    { dst := some 57, op := .eq .i false (.t 56) (.c (.int .i64 19)), guard := some (55, true), ix := 24 },
    { dst := some 58, op := .pick (.t 55) (.t 57) (.c (.bool false)), ix := 25 },
    { dst := some 59, op := .move (.t 58), ix := 26 },
    { dst := some 60, op := .move (.t 9), guard := some (59, true), ix := 27 },
    { dst := some 61, op := .eq .i false (.t 60) (.c (.int .i64 2)), guard := some (59, true), ix := 28 },
    { dst := some 62, op := .pick (.t 59) (.t 61) (.c (.bool false)), ix := 29 },
    { dst := some 63, op := .move (.t 62), ix := 30 },
    { dst := some 64, op := .move (.t 10), guard := some (63, true), ix := 31 },
    { dst := some 65, op := .eq .i false (.t 64) (.c (.int .i64 21)), guard := some (63, true), ix := 32 },
    { dst := some 66, op := .pick (.t 63) (.t 65) (.c (.bool false)), ix := 33 },
    { dst := some 0, op := .move (.t 66), ix := 34 }] false [0] []) (.keep [0] [] .ret))))))) }
theorem ok13 : fnSoundB Go.Proofs.Tryd.prog 13 F13 = true := by decide +kernel
def F14 : LFunc := { nparams := 3, results := [.tmp 6, .tmp 7, .tmp 8], pure := true, body :=
  (.seq (.region [
    { dst := some 6, op := .move (.c (.list [])), ix := 0 },
    { dst := some 7, op := .move (.c (.int .i64 0)), ix := 1 },
    { dst := some 8, op := .move (.c (.int .i64 0)), ix := 2 }] false [0, 1, 2] []) (.seq (.region [
    { dst := some 17, op := .move (.t 0), ix := 0 },
    { dst := some 18, op := .call 9 [(.t 17, .as)], ix := 1 },
    { dst := some 16, op := .move (.t 18), ix := 2 },
    { dst := some 19, op := .extract (.t 16) 0, ix := 3 },
    { dst := some 20, op := .extract (.t 16) 1, ix := 4 },
    { dst := some 9, op := .move (.t 19), ix := 5 },
    { dst := some 10, op := .move (.t 20), ix := 6 }] false [1, 2, 9, 10] []) (.seq (.region [
    { dst := some 21, op := .move (.t 10), ix := 0 },
    { dst := some 22, op := .eq .i true (.t 21) (.c (.int .i64 0)), ix := 1 }] false [1, 2, 9, 10, 22] []) (.seq (.cond (.t 22) (.seq (.region [
    { dst := some 23, op := .move (.t 10), ix := 0 },
    { dst := some 6, op := .move (.c (.list [])), ix := 1 },
    { dst := some 7, op := .move (.c (.int .i64 0)), ix := 2 },
    { dst := some 8, op := .move (.t 23), ix := 3 }] false [6, 7, 8] []) (.keep [6, 7, 8] [] .ret)) (.keep [1, 2, 9] [] .skip)) (.keep [1, 2, 9] [] (.seq (.region [
    { dst := some 25, op := .move (.t 1), ix := 0 },
    { dst := some 26, op := .pcall 25 [(.t 25, .as)], ix := 1 },
    { dst := some 24, op := .move (.t 26), ix := 2 },
    { dst := some 27, op := .extract (.t 24) 0, ix := 3 },
    { dst := some 28, op := .extract (.t 24) 1, ix := 4 },
    { dst := some 11, op := .move (.t 27), ix := 5 },
    { dst := some 12, op := .move (.t 28), ix := 6 }] false [1, 2, 9, 11, 12] []) (.seq (.region [
    { dst := some 29, op := .move (.t 12), ix := 0 },
    { dst := some 30, op := .eq .i true (.t 29) (.c (.int .i64 0)), ix := 1 }] false [1, 2, 9, 11, 12, 30] []) (.seq (.cond (.t 30) (.seq (.region [
    { dst := some 31, op := .move (.t 11), ix := 0 },
    { dst := some 32, op := .move (.t 12), ix := 1 },
    { dst := some 6, op := .move (.c (.list [])), ix := 2 },
    { dst := some 7, op := .move (.t 31), ix := 3 },
    { dst := some 8, op := .move (.t 32), ix := 4 }] false [6, 7, 8] []) (.keep [6, 7, 8] [] .ret)) (.keep [1, 2, 9] [] .skip)) (.keep [1, 2, 9] [] (.seq (.region [
    { dst := some 34, op := .move (.t 9), ix := 0 },
    { dst := some 35, op := .move (.t 1), ix := 1 },
    { dst := some 36, op := .call 10 [(.t 34, .as), (.t 35, .as)], ix := 2 },
    { dst := some 33, op := .move (.t 36), ix := 3 },
    { dst := some 37, op := .extract (.t 33) 0, ix := 4 },
    { dst := some 38, op := .extract (.t 33) 1, ix := 5 },
    { dst := some 13, op := .move (.t 37), ix := 6 },
    { dst := some 14, op := .move (.t 38), ix := 7 }] false [1, 2, 9, 13, 14] []) (.seq (.region [
    { dst := some 39, op := .move (.t 14), ix := 0 },
    { dst := some 40, op := .eq .i true (.t 39) (.c (.int .i64 0)), ix := 1 }] false [1, 2, 9, 13, 14, 40] []) (.seq (.cond (.t 40) (.seq (.region [
    { dst := some 41, op := .move (.t 13), ix := 0 },
    { dst := some 42, op := .move (.t 14), ix := 1 },
    { dst := some 6, op := .move (.c (.list [])), ix := 2 },
    { dst := some 7, op := .move (.t 41), ix := 3 },
    { dst := some 8, op := .move (.t 42), ix := 4 }] false [6, 7, 8] []) (.keep [6, 7, 8] [] .ret)) (.keep [1, 2, 9] [] .skip)) (.keep [1, 2, 9] [] (.seq (.region [
    { dst := some 44, op := .move (.t 9), ix := 0 },
    { dst := some 45, op := .move (.t 1), ix := 1 },
    { dst := some 46, op := .move (.t 2), ix := 2 },
    { dst := some 47, op := .call 26 [(.t 44, .as), (.t 45, .as), (.t 46, .as)], ix := 3 },
    { dst := some 43, op := .move (.t 47), ix := 4 },
    { dst := some 48, op := .extract (.t 43) 0, ix := 5 },
    { dst := some 49, op := .extract (.t 43) 1, ix := 6 },
    { dst := some 15, op := .move (.t 48), ix := 7 },
    { dst := some 10, op := .move (.t 49), ix := 8 }] false [1, 10, 15] []) (.seq (.region [
    { dst := some 50, op := .move (.t 10), ix := 0 },
    { dst := some 51, op := .eq .i true (.t 50) (.c (.int .i64 0)), ix := 1 }] false [1, 10, 15, 51] []) (.seq (.cond (.t 51) (.seq (.region [
    { dst := some 52, op := .move (.t 1), ix := 0 },
    { dst := some 53, op := .len 1 (.t 52), ix := 1 },
    { dst := some 54, op := .move (.t 10), ix := 2 },
    { dst := some 6, op := .move (.c (.list [])), ix := 3 },
    { dst := some 7, op := .move (.t 53), ix := 4 },
    { dst := some 8, op := .move (.t 54), ix := 5 }] false [6, 7, 8] []) (.keep [6, 7, 8] [] .ret)) (.keep [15] [] .skip)) (.keep [15] [] (.seq (.region [
    { dst := some 55, op := .move (.t 15), ix := 0 },
    { dst := some 6, op := .move (.t 55), ix := 1 },
    { dst := some 7, op := .move (.c (.int .i64 0)), ix := 2 },
    { dst := some 8, op := .move (.c (.int .i64 0)), ix := 3 }] false [6, 7, 8] []) (.keep [6, 7, 8] [] .ret))))))))))))))))))) }
theorem ok14 : fnSoundB Go.Proofs.Tryd.prog 14 F14 = true := by decide +kernel
def B15x0 : LCode :=
  (.seq (.region [
    { dst := some 16, op := .bin .lss (.t 15) (.t 14), ix := 0 }] false [0, 1, 14, 15, 16] []) (.seq (.cond (.t 16) (.keep [0, 1, 14, 15] [] .skip) (.keep [] [] (.exit 0))) (.keep [0, 1, 14, 15] [] (.seq (.block 1 (.seq (.region [
    { dst := some 17, op := .move (.t 15), ix := 0 },
    { dst := some 5, op := .move (.t 17), ix := 1 }] false [0, 1, 5, 14, 15] []) (.seq (.region [
    { dst := some 18, op := .move (.t 0), ix := 0 },
    { dst := some 19, op := .move (.t 5), ix := 1 },
    { dst := some 20, op := .indexAddr 6 (.t 18) (.t 19), ix := 2 },
    { dst := some 21, op := .load 6 true (.t 20), ix := 3 },
    { dst := some 6, op := .alloc false 6 [.p (.int .i64 0), .p (.int .i64 0), .p (.str []), .p (.str []), .p (.str []), .p (.list [])] [], ix := 4 },
    { dst := none, op := .store 6 true (.t 6) (.t 21), ix := 5 }] false [0, 1, 5, 6, 14, 15] [6]) (.seq (.region [
    { dst := some 22, op := .move (.t 1), ix := 0 },
    { dst := some 23, op := .move (.t 5), ix := 1 },
    { dst := some 24, op := .indexAddr 6 (.t 22) (.t 23), ix := 2 },
    { dst := some 25, op := .load 6 true (.t 24), ix := 3 },
    { dst := some 7, op := .alloc false 7 [.p (.int .i64 0), .p (.int .i64 0), .p (.str []), .p (.str []), .p (.str []), .p (.list [])] [], ix := 4 },
    { dst := none, op := .store 6 true (.t 7) (.t 25), ix := 5 }] false [0, 1, 6, 7, 14, 15] [6, 7]) (.seq (.region [
    { dst := some 26, op := .fieldAddr 1 (.t 6), ix := 0 },
    { dst := some 27, op := .load 1 false (.t 26), ix := 1 },
    { dst := some 28, op := .fieldAddr 1 (.t 7), ix := 2 },
    { dst := some 29, op := .load 1 false (.t 28), ix := 3 },
    { dst := some 30, op := .eq .i true (.t 27) (.t 29), ix := 4 },
    { dst := some 31, op := .move (.t 30), ix := 5 },
    { dst := some 32, op := .fieldAddr 2 (.t 6), guard := some (31, false), ix := 6 },
    { dst := some 33, op := .load 1 false (.t 32), guard := some (31, false), ix := 7 },
    { dst := some 34, op := .fieldAddr 2 (.t 7), guard := some (31, false), ix := 8 },
    { dst := some 35, op := .load 1 false (.t 34), guard := some (31, false), ix := 9 },
    { dst := some 36, op := .eq .s true (.t 33) (.t 35), guard := some (31, false), ix := 10 },
    { dst := some 37, op := .pick (.t 31) (.c (.bool true)) (.t 36), ix := 11 },
    { dst := some 38, op := .move (.t 37), ix := 12 },
    { dst := some 39, op := .fieldAddr 3 (.t 6), guard := some (38, false), ix := 13 },
    { dst := some 40, op := .load 1 false (.t 39), guard := some (38, false), ix := 14 },
    { dst := some 41, op := .fieldAddr 3 (.t 7), guard := some (38, false), ix := 15 },
    { dst := some 42, op := .load 1 false (.t 41), guard := some (38, false), ix := 16 },
    { dst := some 43, op := .eq .s true (.t 40) (.t 42), guard := some (38, false), ix := 17 },
    { dst := some 44, op := .pick (.t 38) (.c (.bool true)) (.t 43), ix := 18 },
    { dst := some 45, op := .move (.t 44), ix := 19 },
    { dst := some 46, op := .fieldAddr 4 (.t 6), guard := some (45, false), ix := 20 },
    { dst := some 47, op := .load 1 false (.t 46), guard := some (45, false), ix := 21 },
    { dst := some 48, op := .fieldAddr 4 (.t 7), guard := some (45, false), ix := 22 },
    { dst := some 49, op := .load 1 false (.t 48), guard := some (45, false), ix := 23 },
    { dst := some 50, op := .eq .s true (.t 47) (.t 49), guard := some (45, false), ix := 24 },
    { dst := some 51, op := .pick (.t 45) (.c (.bool true)) (.t 50), ix := 25 },
    { dst := some 52, op := .move (.t 51), ix := 26 },
    { dst := some 53, op := .fieldAddr 5 (.t 6), guard := some (52, false), ix := 27 },
    { dst := some 54, op := .load 1 false (.t 53), guard := some (52, false), ix := 28 },
    { dst := some 55, op := .fieldAddr 5 (.t 7), guard := some (52, false), ix := 29 },
    { dst := some 56, op := .load 1 false (.t 55), guard := some (52, false), ix := 30 },
    { dst := some 57, op := .pcall 27 [(.t 54, .as), (.t 56, .as)], guard := some (52, false), ix := 31 },
    { dst := some 58, op := .un .not (.t 57), guard := some (52, false), ix := 32 },
    { dst := some 59, op := .pick (.t 52) (.c (.bool true)) (.t 58), ix := 33 }] false [0, 1, 14, 15, 59] []) (.seq (.cond (.t 59) (.seq (.region [
    { dst := some 4, op := .move (.c (.bool false)), ix := 0 }] false [4] []) (.keep [4] [] .ret)) (.keep [0, 1, 14, 15] [] .skip)) (.keep [0, 1, 14, 15] [] .skip))))))) (.keep [0, 1, 14, 15] [] (.seq (.region [
    { dst := some 60, op := .bin .add (.t 15) (.c (.int .i64 1)), ix := 0 },
    { dst := some 15, op := .move (.t 60), ix := 1 }] false [0, 1, 14, 15] []) (.keep [0, 1, 14, 15] [] .skip)))))))
def F15 : LFunc := { nparams := 2, results := [.tmp 4], pure := true, body :=
  (.seq (.region [
    { dst := some 4, op := .move (.c (.bool false)), ix := 0 }] false [0, 1] []) (.seq (.region [
    { dst := some 8, op := .move (.t 0), ix := 0 },
    { dst := some 9, op := .len 1 (.t 8), ix := 1 },
    { dst := some 10, op := .move (.t 1), ix := 2 },
    { dst := some 11, op := .len 1 (.t 10), ix := 3 },
    { dst := some 12, op := .eq .i true (.t 9) (.t 11), ix := 4 }] false [0, 1, 12] []) (.seq (.cond (.t 12) (.seq (.region [
    { dst := some 4, op := .move (.c (.bool false)), ix := 0 }] false [4] []) (.keep [4] [] .ret)) (.keep [0, 1] [] .skip)) (.keep [0, 1] [] (.seq (.region [
    { dst := some 13, op := .move (.t 0), ix := 0 },
    { dst := some 14, op := .len 1 (.t 13), ix := 1 },
    { dst := some 15, op := .move (.c (.int .i64 0)), ix := 2 }] false [0, 1, 14, 15] []) (.seq (.block 0 (.seq (.keep [0, 1, 14, 15] [] (.loop B15x0)) (.keep [] [] .skip))) (.keep [] [] (.seq (.region [
    { dst := some 4, op := .move (.c (.bool true)), ix := 0 }] false [4] []) (.keep [4] [] .ret))))))))) }
theorem ok15 : fnSoundB Go.Proofs.Tryd.prog 15 F15 = true := by decide +kernel
def F16 : LFunc := { nparams := 1, results := [.tmp 2], pure := true, body :=
  (.seq (.region [
    { dst := some 1, op := .box false 1 (.t 0), ix := 0 },
    { dst := some 2, op := .move (.c (.int .i64 0)), ix := 1 }] false [1] [1]) (.seq (.region [
    { dst := some 5, op := .fieldAddr 0 (.t 1), ix := 0 },
    { dst := some 6, op := .load 1 false (.t 5), ix := 1 },
    { dst := some 7, op := .bin .lss (.t 6) (.c (.int .i64 1)), ix := 2 },
    { dst := some 8, op := .move (.t 7), ix := 3 },
    { dst := some 9, op := .fieldAddr 0 (.t 1), guard := some (8, false), ix := 4 },
    { dst := some 10, op := .load 1 false (.t 9), guard := some (8, false), ix := 5 },
    { dst := some 11, op := .bin .gtr (.t 10) (.c (.int .i64 7)), guard := some (8, false), ix := 6 },
    { dst := some 12, op := .pick (.t 8) (.c (.bool true)) (.t 11), ix := 7 }] false [1, 12] [1]) (.seq (.cond (.t 12) (.seq (.region [
    { dst := some 2, op := .move (.c (.int .i64 6)), ix := 0 }] false [2] []) (.keep [2] [] .ret)) (.keep [1] [1] .skip)) (.keep [1] [1] (.seq (.region [
    { dst := some 13, op := .fieldAddr 1 (.t 1), ix := 0 },
    { dst := some 14, op := .load 1 false (.t 13), ix := 1 },
    { dst := some 15, op := .pcall 28 [(.t 14, .as)], ix := 2 },
    { dst := some 16, op := .move (.t 15), ix := 3 },
    { dst := some 17, op := .fieldAddr 2 (.t 1), guard := some (16, false), ix := 4 },
    { dst := some 18, op := .load 1 false (.t 17), guard := some (16, false), ix := 5 },
    { dst := some 19, op := .pcall 28 [(.t 18, .as)], guard := some (16, false), ix := 6 },
    { dst := some 20, op := .pick (.t 16) (.c (.bool true)) (.t 19), ix := 7 },
    { dst := some 21, op := .move (.t 20), ix := 8 },
    { dst := some 22, op := .fieldAddr 3 (.t 1), guard := some (21, false), ix := 9 },
    { dst := some 23, op := .load 1 false (.t 22), guard := some (21, false), ix := 10 },
    { dst := some 24, op := .pcall 28 [(.t 23, .as)], guard := some (21, false), ix := 11 },
    { dst := some 25, op := .pick (.t 21) (.c (.bool true)) (.t 24), ix := 12 }] false [1, 25] [1]) (.seq (.cond (.t 25) (.seq (.region [
    { dst := some 2, op := .move (.c (.int .i64 5)), ix := 0 }] false [2] []) (.keep [2] [] .ret)) (.keep [1] [1] .skip)) (.keep [1] [1] (.seq (.region [
    { dst := some 26, op := .load 9 true (.t 1), ix := 0 },
    { dst := some 27, op := .pcall 29 [(.t 26, .as)], ix := 1 }] false [1, 27] [1]) (.seq (.cond (.t 27) (.seq (.region [
    { dst := some 2, op := .move (.c (.int .i64 2)), ix := 0 }] false [2] []) (.keep [2] [] .ret)) (.keep [1] [1] .skip)) (.keep [1] [1] (.seq (.region [
    { dst := some 28, op := .fieldAddr 0 (.t 1), ix := 0 },
    { dst := some 29, op := .load 1 false (.t 28), ix := 1 },
    { dst := some 30, op := .eq .i false (.t 29) (.c (.int .i64 1)), ix := 2 },
    { dst := some 31, op := .move (.t 30), ix := 3 },
    { dst := some 32, op := .fieldAddr 4 (.t 1), guard := some (31, true), ix := 4 },
    { dst := some 33, op := .load 1 false (.t 32), guard := some (31, true), ix := 5 },
    { dst := some 34, op := .pcall 30 [(.t 33, .as), (.c (.bool false), .as)], guard := some (31, true), ix := 6 },
    { dst := some 35, op := .un .not (.t 34), guard := some (31, true), ix := 7 },
    { dst := some 36, op := .pick (.t 31) (.t 35) (.c (.bool false)), ix := 8 }] false [1, 36] [1]) (.seq (.cond (.t 36) (.seq (.region [
    { dst := some 2, op := .move (.c (.int .i64 7)), ix := 0 }] false [2] []) (.keep [2] [] .ret)) (.keep [1] [1] .skip)) (.keep [1] [1] (.seq (.region [
    { dst := some 37, op := .fieldAddr 0 (.t 1), ix := 0 },
    { dst := some 38, op := .load 1 false (.t 37), ix := 1 },
    { dst := some 39, op := .eq .i false (.t 38) (.c (.int .i64 5)), ix := 2 },
    { dst := some 40, op := .move (.t 39), ix := 3 },
    { dst := some 41, op := .fieldAddr 0 (.t 1), guard := some (40, false), ix := 4 },
    { dst := some 42, op := .load 1 false (.t 41), guard := some (40, false), ix := 5 },
    { dst := some 43, op := .eq .i false (.t 42) (.c (.int .i64 6)), guard := some (40, false), ix := 6 },
    { dst := some 44, op := .pick (.t 40) (.c (.bool true)) (.t 43), ix := 7 },
    { dst := some 45, op := .move (.t 44), ix := 8 },
    { dst := some 46, op := .fieldAddr 6 (.t 1), guard := some (45, true), ix := 9 },
    { dst := some 47, op := .load 1 false (.t 46), guard := some (45, true), ix := 10 },
    { dst := some 48, op := .pcall 30 [(.t 47, .as), (.c (.bool true), .as)], guard := some (45, true), ix := 11 },
    { dst := some 49, op := .un .not (.t 48), guard := some (45, true), ix := 12 },
    { dst := some 50, op := .pick (.t 45) (.t 49) (.c (.bool false)), ix := 13 }] false [1, 50] [1]) (.seq (.cond (.t 50) (.seq (.region [
    { dst := some 2, op := .move (.c (.int .i64 8)), ix := 0 }] false [2] []) (.keep [2] [] .ret)) (.keep [1] [1] .skip)) (.keep [1] [1] (.seq (.region [
    { dst := some 51, op := .fieldAddr 5 (.t 1), ix := 0 },
    { dst := some 52, op := .load 1 false (.t 51), ix := 1 },
    { dst := some 53, op := .len 0 (.t 52), ix := 2 },
    { dst := some 54, op := .bin .gtr (.t 53) (.c (.int .i64 65536)), ix := 3 },
    { dst := some 55, op := .move (.t 54), ix := 4 },
    { dst := some 56, op := .fieldAddr 7 (.t 1), guard := some (55, false), ix := 5 },
    { dst := some 57, op := .load 1 false (.t 56), guard := some (55, false), ix := 6 },
    { dst := some 58, op := .len 0 (.t 57), guard := some (55, false), ix := 7 },
    { dst := some 59, op := .bin .gtr (.t 58) (.c (.int .i64 65536)), guard := some (55, false), ix := 8 },
    { dst := some 60, op := .pick (.t 55) (.c (.bool true)) (.t 59), ix := 9 }] false [1, 60] [1]) (.seq (.cond (.t 60) (.seq (.region [
    { dst := some 2, op := .move (.c (.int .i64 3)), ix := 0 }] false [2] []) (.keep [2] [] .ret)) (.keep [1] [1] .skip)) (.keep [1] [1] (.seq (.region [
    { dst := some 62, op := .fieldAddr 8 (.t 1), ix := 0 },
    { dst := some 63, op := .load 1 false (.t 62), ix := 1 },
    { dst := some 64, op := .pcall 31 [(.t 63, .as)], ix := 2 },
    { dst := some 61, op := .move (.t 64), ix := 3 },
    { dst := some 65, op := .extract (.t 61) 0, ix := 4 },
    { dst := some 66, op := .extract (.t 61) 1, ix := 5 },
    { dst := some 3, op := .move (.t 65), ix := 6 },
    { dst := some 4, op := .move (.t 66), ix := 7 }] false [4] []) (.seq (.region [
    { dst := some 67, op := .move (.t 4), ix := 0 },
    { dst := some 2, op := .move (.t 67), ix := 1 }] false [2] []) (.keep [2] [] .ret)))))))))))))))))))))) }
theorem ok16 : fnSoundB Go.Proofs.Tryd.prog 16 F16 = true := by decide +kernel
def B17x0 : LCode :=
  (.seq (.region [
    { dst := some 7, op := .bin .lss (.t 6) (.t 5), ix := 0 }] false [0, 5, 6, 7] []) (.seq (.cond (.t 7) (.keep [0, 5, 6] [] .skip) (.keep [] [] (.exit 0))) (.keep [0, 5, 6] [] (.seq (.block 1 (.seq (.region [
    { dst := some 8, op := .move (.t 6), ix := 0 },
    { dst := some 3, op := .move (.t 8), ix := 1 }] false [0, 3, 5, 6] []) (.seq (.region [
    { dst := some 9, op := .move (.t 3), ix := 0 },
    { dst := some 10, op := .eq .i false (.t 9) (.c (.int .i64 0)), ix := 1 },
    { dst := some 11, op := .move (.t 10), ix := 2 },
    { dst := some 12, op := .move (.t 0), guard := some (11, true), ix := 3 },
    { dst := some 13, op := .move (.t 3), guard := some (11, true), ix := 4 },
    { dst := some 14, op := .indexAddr 6 (.t 12) (.t 13), guard := some (11, true), ix := 5 },
    { dst := some 15, op := .fieldAddr 1 (.t 14), guard := some (11, true), ix := 6 },
    { dst := some 16, op := .load 1 false (.t 15), guard := some (11, true), ix := 7 },
    { dst := some 17, op := .eq .i true (.t 16) (.c (.int .i64 0)), guard := some (11, true), ix := 8 },
    { dst := some 18, op := .pick (.t 11) (.t 17) (.c (.bool false)), ix := 9 },
    { dst := some 19, op := .move (.t 18), ix := 10 },
    { dst := some 20, op := .move (.t 3), guard := some (19, false), ix := 11 },
    { dst := some 21, op := .bin .gtr (.t 20) (.c (.int .i64 0)), guard := some (19, false), ix := 12 },
    { dst := some 22, op := .move (.t 21), guard := some (19, false), ix := 13 },
    { dst := some 23, op := .move (.t 0), guard := some (22, true), ix := 14 },
    { dst := some 24, op := .move (.t 3), guard := some (22, true), ix := 15 },
    { dst := some 25, op := .indexAddr 6 (.t 23) (.t 24), guard := some (22, true), ix := 16 },
    { dst := some 26, op := .fieldAddr 1 (.t 25), guard := some (22, true), ix := 17 },
    { dst := some 27, op := .load 1 false (.t 26), guard := some (22, true), ix := 18 },
    { dst := some 28, op := .bin .lss (.t 27) (.c (.int .i64 1)), guard := some (22, true), ix := 19 },
    { dst := some 29, op := .move (.t 28), guard := some (22, true), ix := 20 },
    { dst := some 30, op := .move (.t 0), guard := some (29, false), ix := 21 },
    { dst := some 31, op := .move (.t 3), guard := some (29, false), ix := 22 },
    { dst := some 32, op := .move (.t 0), guard := some (29, false), ix := 23 },
    { dst := some 33, op := .move (.t 3), guard := some (29, false), ix := 24 },
    { dst := some 34, op := .indexAddr 6 (.t 32) (.t 33), guard := some (29, false), ix := 25 },
    { dst := some 35, op := .fieldAddr 1 (.t 34), guard := some (29, false), ix := 26 },
    { dst := some 36, op := .load 1 false (.t 35), guard := some (29, false), ix := 27 },
    { dst := some 37, op := .pcall 32 [(.t 30, .as), (.t 31, .as), (.t 36, .as)], guard := some (29, false), ix := 28 },
    { dst := some 38, op := .un .not (.t 37), guard := some (29, false), ix := 29 },
    { dst := some 39, op := .pick (.t 29) (.c (.bool true)) (.t 38), guard := some (22, true), ix := 30 },
    { dst := some 40, op := .pick (.t 22) (.t 39) (.c (.bool false)), guard := some (19, false), ix := 31 },
    { dst := some 41, op := .pick (.t 19) (.c (.bool true)) (.t 40), ix := 32 }] false [0, 5, 6, 41] []) (.seq (.cond (.t 41) (.seq (.region [
    { dst := some 2, op := .move (.c (.bool false)), ix := 0 }] false [2] []) (.keep [2] [] .ret)) (.keep [0, 5, 6] [] .skip)) (.keep [0, 5, 6] [] .skip))))) (.keep [0, 5, 6] [] (.seq (.region [
    { dst := some 42, op := .bin .add (.t 6) (.c (.int .i64 1)), ix := 0 },
    { dst := some 6, op := .move (.t 42), ix := 1 }] false [0, 5, 6] []) (.keep [0, 5, 6] [] .skip)))))))
def F17 : LFunc := { nparams := 1, results := [.tmp 2], pure := true, body :=
  (.seq (.region [
    { dst := some 2, op := .move (.c (.bool false)), ix := 0 }] false [0] []) (.seq (.region [
    { dst := some 4, op := .move (.t 0), ix := 0 },
    { dst := some 5, op := .len 1 (.t 4), ix := 1 },
    { dst := some 6, op := .move (.c (.int .i64 0)), ix := 2 }] false [0, 5, 6] []) (.seq (.block 0 (.seq (.keep [0, 5, 6] [] (.loop B17x0)) (.keep [] [] .skip))) (.keep [] [] (.seq (.region [
    { dst := some 2, op := .move (.c (.bool true)), ix := 0 }] false [2] []) (.keep [2] [] .ret)))))) }
theorem ok17 : fnSoundB Go.Proofs.Tryd.prog 17 F17 = true := by decide +kernel
def B18x0 : LCode :=
  (.seq (.region [
    { dst := some 6, op := .move (.t 1), ix := 0 },
    { dst := some 7, op := .bin .gtr (.t 6) (.c (.int .i64 0)), ix := 1 }] false [0, 1, 5, 7] []) (.seq (.cond (.t 7) (.keep [0, 1, 5] [] .skip) (.keep [5] [] (.exit 0))) (.keep [0, 1, 5] [] (.seq (.block 1 (.seq (.region [
    { dst := some 8, op := .move (.t 5), ix := 0 },
    { dst := some 9, op := .bin .add (.t 8) (.c (.int .i64 1)), ix := 1 },
    { dst := some 5, op := .move (.t 9), ix := 2 }] false [0, 1, 5] []) (.seq (.region [
    { dst := some 10, op := .move (.t 0), ix := 0 },
    { dst := some 11, op := .move (.t 1), ix := 1 },
    { dst := some 12, op := .bin .sub (.t 11) (.c (.int .i64 1)), ix := 2 },
    { dst := some 13, op := .indexAddr 6 (.t 10) (.t 12), ix := 3 },
    { dst := some 14, op := .fieldAddr 1 (.t 13), ix := 4 },
    { dst := some 15, op := .load 1 false (.t 14), ix := 5 },
    { dst := some 1, op := .move (.t 15), ix := 6 }] false [0, 1, 5] []) (.keep [0, 1, 5] [] .skip)))) (.keep [0, 1, 5] [] .skip)))))
def F18 : LFunc := { nparams := 2, results := [.tmp 4], pure := true, body :=
  (.seq (.region [
    { dst := some 4, op := .move (.c (.int .i64 0)), ix := 0 }] false [0, 1] []) (.seq (.region [
    { dst := some 5, op := .move (.c (.int .i64 0)), ix := 0 }] false [0, 1, 5] []) (.seq (.block 0 (.seq (.keep [0, 1, 5] [] (.loop B18x0)) (.keep [5] [] .skip))) (.keep [5] [] (.seq (.region [
    { dst := some 16, op := .move (.t 5), ix := 0 },
    { dst := some 4, op := .move (.t 16), ix := 1 }] false [4] []) (.keep [4] [] .ret)))))) }
theorem ok18 : fnSoundB Go.Proofs.Tryd.prog 18 F18 = true := by decide +kernel
def F19 : LFunc := { nparams := 1, results := [.tmp 2], pure := true, body :=
  (.seq (.region [
    { dst := some 1, op := .box false 1 (.t 0), ix := 0 },
    { dst := some 2, op := .move (.c (.int .i64 0)), ix := 1 }] false [1] [1]) (.seq (.region [
    { dst := some 5, op := .fieldAddr 0 (.t 1), ix := 0 },
    { dst := some 6, op := .load 1 false (.t 5), ix := 1 },
    { dst := some 7, op := .pcall 30 [(.t 6, .as), (.c (.bool false), .as)], ix := 2 },
    { dst := some 8, op := .un .not (.t 7), ix := 3 }] false [1, 8] [1]) (.seq (.cond (.t 8) (.seq (.region [
    { dst := some 2, op := .move (.c (.int .i64 7)), ix := 0 }] false [2] []) (.keep [2] [] .ret)) (.keep [1] [1] .skip)) (.keep [1] [1] (.seq (.region [
    { dst := some 9, op := .fieldAddr 1 (.t 1), ix := 0 },
    { dst := some 10, op := .load 1 false (.t 9), ix := 1 },
    { dst := some 11, op := .len 0 (.t 10), ix := 2 },
    { dst := some 12, op := .bin .gtr (.t 11) (.c (.int .i64 65536)), ix := 3 },
    { dst := some 13, op := .move (.t 12), ix := 4 },
    { dst := some 14, op := .fieldAddr 2 (.t 1), guard := some (13, false), ix := 5 },
    { dst := some 15, op := .load 1 false (.t 14), guard := some (13, false), ix := 6 },
    { dst := some 16, op := .len 0 (.t 15), guard := some (13, false), ix := 7 },
    { dst := some 17, op := .bin .gtr (.t 16) (.c (.int .i64 65536)), guard := some (13, false), ix := 8 },
    { dst := some 18, op := .pick (.t 13) (.c (.bool true)) (.t 17), ix := 9 }] false [1, 18] [1]) (.seq (.cond (.t 18) (.seq (.region [
    { dst := some 2, op := .move (.c (.int .i64 3)), ix := 0 }] false [2] []) (.keep [2] [] .ret)) (.keep [1] [1] .skip)) (.keep [1] [1] (.seq (.region [
    { dst := some 20, op := .fieldAddr 3 (.t 1), ix := 0 },
    { dst := some 21, op := .load 1 false (.t 20), ix := 1 },
    { dst := some 22, op := .pcall 31 [(.t 21, .as)], ix := 2 },
    { dst := some 19, op := .move (.t 22), ix := 3 },
    { dst := some 23, op := .extract (.t 19) 0, ix := 4 },
    { dst := some 24, op := .extract (.t 19) 1, ix := 5 },
    { dst := some 3, op := .move (.t 23), ix := 6 },
    { dst := some 4, op := .move (.t 24), ix := 7 }] false [4] []) (.seq (.region [
    { dst := some 25, op := .move (.t 4), ix := 0 },
    { dst := some 2, op := .move (.t 25), ix := 1 }] false [2] []) (.keep [2] [] .ret)))))))))) }
theorem ok19 : fnSoundB Go.Proofs.Tryd.prog 19 F19 = true := by decide +kernel
def B20x0 : LCode :=
  (.seq (.region [
    { dst := some 15, op := .bin .lss (.t 14) (.t 13), ix := 0 }] false [3, 12, 13, 14, 15] []) (.seq (.cond (.t 15) (.keep [3, 12, 13, 14] [] .skip) (.keep [3] [] (.exit 0))) (.keep [3, 12, 13, 14] [] (.seq (.block 1 (.seq (.region [
    { dst := some 16, op := .move (.t 14), ix := 0 },
    { dst := some 17, op := .indexAddr 7 (.t 12) (.t 14), ix := 1 },
    { dst := some 18, op := .load 7 true (.t 17), ix := 2 },
    { dst := some 5, op := .alloc false 5 [.p (.bool false), .p (.int .i64 0), .p (.list []), .p (.str []), .p (.str []), .p (.str []), .p (.list [])] [], ix := 3 },
    { dst := some 4, op := .move (.t 16), ix := 4 },
    { dst := none, op := .store 7 true (.t 5) (.t 18), ix := 5 }] false [3, 4, 5, 12, 13, 14] [5]) (.seq (.region [
    { dst := some 19, op := .move (.t 4), ix := 0 },
    { dst := some 20, op := .bin .gtr (.t 19) (.c (.int .i64 0)), ix := 1 },
    { dst := some 21, op := .move (.t 20), ix := 2 },
    { dst := some 22, op := .fieldAddr 0 (.t 5), guard := some (21, true), ix := 3 },
    { dst := some 23, op := .load 1 false (.t 22), guard := some (21, true), ix := 4 },
    { dst := some 24, op := .pick (.t 21) (.t 23) (.c (.bool false)), ix := 5 },
    { dst := some 25, op := .move (.t 24), ix := 6 },
    { dst := some 26, op := .fieldAddr 1 (.t 5), guard := some (25, true), ix := 7 },
    { dst := some 27, op := .load 1 false (.t 26), guard := some (25, true), ix := 8 },
    { dst := some 28, op := .bin .lss (.t 27) (.c (.int .i64 0)), guard := some (25, true), ix := 9 },
    { dst := some 29, op := .pick (.t 25) (.t 28) (.c (.bool false)), ix := 10 }] false [3, 4, 12, 13, 14, 29] []) (.seq (.cond (.t 29) (.seq (.region [
    { dst := some 30, op := .move (.t 3), ix := 0 },
    { dst := some 31, op := .move (.t 4), ix := 1 },
    { dst := some 32, op := .row 1 [.t 31], ix := 2 },
    { dst := some 33, op := .append true 1001 1 8 (.t 30) (.t 32), ix := 3 },
    { dst := some 3, op := .move (.t 33), ix := 4 }] false [3, 12, 13, 14] []) (.keep [3, 12, 13, 14] [] .skip)) (.keep [3, 12, 13, 14] [] .skip)) (.keep [3, 12, 13, 14] [] .skip))))) (.keep [3, 12, 13, 14] [] (.seq (.region [
    { dst := some 34, op := .bin .add (.t 14) (.c (.int .i64 1)), ix := 0 },
    { dst := some 14, op := .move (.t 34), ix := 1 }] false [3, 12, 13, 14] []) (.keep [3, 12, 13, 14] [] .skip)))))))
def F20 : LFunc := { nparams := 1, results := [.tmp 2], pure := false, body :=
  (.seq (.region [
    { dst := some 2, op := .move (.c (.list [])), ix := 0 }] false [0] []) (.seq (.region [
    { dst := some 3, op := .nilown true 1000 1, ix := 0 }] false [0, 3] []) (.seq (.region [
    { dst := some 6, op := .move (.t 0), ix := 0 },
    { dst := some 7, op := .eq .ptr false (.t 6) (.c (.nilp)), ix := 1 }] false [0, 3, 7] []) (.seq (.cond (.t 7) (.seq (.region [
    { dst := some 8, op := .move (.t 3), ix := 0 },
    { dst := some 2, op := .move (.t 8), ix := 1 }] false [2] []) (.keep [2] [] .ret)) (.keep [0, 3] [] .skip)) (.keep [0, 3] [] (.seq (.region [
    { dst := some 9, op := .move (.t 0), ix := 0 },
    { dst := some 10, op := .nilCheck (.t 9), ix := 1 },
    { dst := some 11, op := .fieldAddr 0 (.t 10), ix := 2 },
    { dst := some 12, op := .load 1 false (.t 11), ix := 3 },
    { dst := some 13, op := .len 1 (.t 12), ix := 4 },
    { dst := some 14, op := .move (.c (.int .i64 0)), ix := 5 }] false [3, 12, 13, 14] []) (.seq (.block 0 (.seq (.keep [3, 12, 13, 14] [] (.loop B20x0)) (.keep [3] [] .skip))) (.keep [3] [] (.seq (.region [
    { dst := some 35, op := .move (.t 3), ix := 0 },
    { dst := some 2, op := .move (.t 35), ix := 1 }] false [2] []) (.keep [2] [] .ret)))))))))) }
theorem ok20 : fnSoundB Go.Proofs.Tryd.prog 20 F20 = true := by decide +kernel
def F21 : LFunc := { nparams := 1, results := [.tmp 2], pure := true, body :=
  (.seq (.region [
    { dst := some 2, op := .move (.c (.int .i64 0)), ix := 0 }] false [0] []) (.seq (.region [
    { dst := some 5, op := .move (.t 0), ix := 0 },
    { dst := some 6, op := .len 1 (.t 5), ix := 1 },
    { dst := some 7, op := .eq .i false (.t 6) (.c (.int .i64 0)), ix := 2 }] false [0, 7] []) (.seq (.cond (.t 7) (.seq (.region [
    { dst := some 2, op := .move (.c (.int .i64 0)), ix := 0 }] false [2] []) (.keep [2] [] .ret)) (.keep [0] [] .skip)) (.keep [0] [] (.seq (.region [
    { dst := some 9, op := .move (.t 0), ix := 0 },
    { dst := some 10, op := .pcall 33 [(.t 9, .as)], ix := 1 },
    { dst := some 8, op := .move (.t 10), ix := 2 },
    { dst := some 11, op := .extract (.t 8) 0, ix := 3 },
    { dst := some 12, op := .extract (.t 8) 1, ix := 4 },
    { dst := some 3, op := .alloc false 3 [.p (.str []), .p (.str []), .p (.str []), .p (.list []), .p (.list [])] [], ix := 5 },
    { dst := none, op := .store 5 true (.t 3) (.t 11), ix := 6 },
    { dst := some 4, op := .move (.t 12), ix := 7 }] false [4] []) (.seq (.region [
    { dst := some 13, op := .move (.t 4), ix := 0 },
    { dst := some 2, op := .move (.t 13), ix := 1 }] false [2] []) (.keep [2] [] .ret))))))) }
theorem ok21 : fnSoundB Go.Proofs.Tryd.prog 21 F21 = true := by decide +kernel
def F23 : LFunc := { nparams := 2, results := [.tmp 4], pure := false, body :=
  (.seq (.region [
    { dst := some 3, op := .box false 3 (.t 1), ix := 0 },
    { dst := some 4, op := .move (.c (.int .i64 0)), ix := 1 }] false [0, 3] [3]) (.seq (.region [
    { dst := some 7, op := .move (.t 0), ix := 0 },
    { dst := some 8, op := .eq .ptr false (.t 7) (.c (.nilp)), ix := 1 },
    { dst := some 9, op := .move (.t 8), ix := 2 },
    { dst := some 10, op := .move (.t 0), guard := some (9, false), ix := 3 },
    { dst := some 11, op := .nilCheck (.t 10), guard := some (9, false), ix := 4 },
    { dst := some 12, op := .fieldAddr 0 (.t 11), guard := some (9, false), ix := 5 },
    { dst := some 13, op := .load 1 false (.t 12), guard := some (9, false), ix := 6 },
    { dst := some 14, op := .len 1 (.t 13), guard := some (9, false), ix := 7 },
    { dst := some 15, op := .eq .i false (.t 14) (.c (.int .i64 0)), guard := some (9, false), ix := 8 },
    { dst := some 16, op := .pick (.t 9) (.c (.bool true)) (.t 15), ix := 9 }] false [0, 3, 16] [3]) (.seq (.cond (.t 16) (.seq (.region [
    { dst := some 4, op := .move (.c (.int .i64 1)), ix := 0 }] false [4] []) (.keep [4] [] .ret)) (.keep [0, 3] [3] .skip)) (.keep [0, 3] [3] (.seq (.region [
    { dst := some 17, op := .load 9 true (.t 3), ix := 0 },
    { dst := some 18, op := .pcall 34 [(.t 17, .as)], ix := 1 },
    { dst := some 5, op := .move (.t 18), ix := 2 }] false [0, 3, 5] [3]) (.seq (.region [
    { dst := some 19, op := .move (.t 5), ix := 0 },
    { dst := some 20, op := .eq .i true (.t 19) (.c (.int .i64 0)), ix := 1 }] false [0, 3, 5, 20] [3]) (.seq (.cond (.t 20) (.seq (.region [
    { dst := some 21, op := .move (.t 5), ix := 0 },
    { dst := some 4, op := .move (.t 21), ix := 1 }] false [4] []) (.keep [4] [] .ret)) (.keep [0, 3] [3] .skip)) (.keep [0, 3] [3] (.seq (.region [
    { dst := some 22, op := .fieldAddr 0 (.t 3), ix := 0 },
    { dst := some 23, op := .load 1 false (.t 22), ix := 1 },
    { dst := some 24, op := .eq .i false (.t 23) (.c (.int .i64 1)), ix := 2 }] false [0, 3, 24] [3]) (.seq (.cond (.t 24) (.seq (.draw [
    { dst := some 25, op := .move (.t 0), ix := 0 },
    { dst := some 26, op := .move (.t 0), ix := 1 },
    { dst := some 27, op := .nilCheck (.t 26), ix := 2 },
    { dst := some 28, op := .fieldAddr 0 (.t 27), ix := 3 },
    { dst := some 29, op := .load 1 false (.t 28), ix := 4 },
    { dst := some 30, op := .fieldAddr 4 (.t 3), ix := 5 },
    { dst := some 31, op := .load 1 false (.t 30), ix := 6 },
    { dst := some 32, op := .fieldAddr 5 (.t 3), ix := 7 },
    { dst := some 33, op := .load 1 false (.t 32), ix := 8 },
    { dst := some 34, op := .fieldAddr 7 (.t 3), ix := 9 },
    { dst := some 35, op := .load 1 false (.t 34), ix := 10 },
    { dst := some 36, op := .fieldAddr 8 (.t 3), ix := 11 },
    { dst := some 37, op := .load 1 false (.t 36), ix := 12 },
    { dst := some 38, op := .pcall 22 [(.t 37, .as)], ix := 13 },
    { dst := some 39, op := .build [.p (.bool false), .p (.int .i64 0), .nils, .p (.str []), .p (.str []), .p (.str []), .p (.list [])] [(0, 1, .c (.bool true)), (1, 1, .c (.int .i64 (-1))), (3, 1, .t 31), (4, 1, .t 33), (5, 1, .t 35), (6, 1, .t 38)], ix := 14 },
    { dst := some 40, op := .row 7 [.t 39], ix := 15 },
    { dst := some 41, op := .append true 1000 7 112 (.t 29) (.t 40), ix := 16 },
    { dst := some 42, op := .nilCheck (.t 25), ix := 17 },
    { dst := some 43, op := .fieldAddr 0 (.t 42), ix := 18 },
    { dst := none, op := .store 1 false (.t 43) (.t 41), ix := 19 }] [] []) (.seq (.region [
    { dst := some 4, op := .move (.c (.int .i64 0)), ix := 0 }] false [4] []) (.keep [4] [] .ret))) (.keep [0, 3] [3] .skip)) (.keep [0, 3] [3] (.seq (.region [
    { dst := some 44, op := .fieldAddr 1 (.t 3), ix := 0 },
    { dst := some 45, op := .load 1 false (.t 44), ix := 1 },
    { dst := some 46, op := .eq .i false (.t 45) (.c (.int .i64 0)), ix := 2 }] false [0, 3, 46] [3]) (.seq (.cond (.t 46) (.seq (.region [
    { dst := some 4, op := .move (.c (.int .i64 14)), ix := 0 }] false [4] []) (.keep [4] [] .ret)) (.keep [0, 3] [3] .skip)) (.keep [0, 3] [3] (.seq (.region [
    { dst := some 47, op := .fieldAddr 0 (.t 3), ix := 0 },
    { dst := some 48, op := .load 1 false (.t 47), ix := 1 }] false [0, 3, 48] [3]) (.seq (.block 0 (.seq (.region [
    { dst := some 50, op := .eq .i false (.t 48) (.c (.int .i64 2)), ix := 0 },
    { dst := some 49, op := .move (.t 50), ix := 1 }] false [0, 3, 48, 49] [3]) (.seq (.cond (.t 49) (.seq (.region [
    { dst := some 51, op := .move (.t 0), ix := 0 },
    { dst := some 52, op := .load 9 true (.t 3), ix := 1 },
    { dst := some 53, op := .call 35 [(.t 51, .as), (.t 52, .as)], ix := 2 },
    { dst := some 4, op := .move (.t 53), ix := 3 }] false [4] []) (.keep [4] [] .ret)) (.seq (.region [
    { dst := some 55, op := .eq .i false (.t 48) (.c (.int .i64 3)), ix := 0 },
    { dst := some 54, op := .move (.t 55), ix := 1 }] false [0, 3, 54] [3]) (.seq (.cond (.t 54) (.seq (.region [
    { dst := some 56, op := .move (.t 0), ix := 0 },
    { dst := some 57, op := .load 9 true (.t 3), ix := 1 },
    { dst := some 58, op := .call 36 [(.t 56, .as), (.t 57, .as)], ix := 2 },
    { dst := some 4, op := .move (.t 58), ix := 3 }] false [4] []) (.keep [4] [] .ret)) (.keep [0, 3] [3] .skip)) (.keep [0, 3] [3] .skip)))) (.keep [0, 3] [3] .skip)))) (.keep [0, 3] [3] (.seq (.region [
    { dst := some 59, op := .move (.t 0), ix := 0 },
    { dst := some 60, op := .fieldAddr 1 (.t 3), ix := 1 },
    { dst := some 61, op := .load 1 false (.t 60), ix := 2 },
    { dst := some 62, op := .call 37 [(.t 59, .as), (.t 61, .as)], ix := 3 },
    { dst := some 6, op := .move (.t 62), ix := 4 }] false [0, 3, 6] [3]) (.seq (.region [
    { dst := some 63, op := .move (.t 6), ix := 0 },
    { dst := some 64, op := .eq .i true (.t 63) (.c (.int .i64 0)), ix := 1 }] false [0, 3, 6, 64] [3]) (.seq (.cond (.t 64) (.seq (.region [
    { dst := some 65, op := .move (.t 6), ix := 0 },
    { dst := some 4, op := .move (.t 65), ix := 1 }] false [4] []) (.keep [4] [] .ret)) (.keep [0, 3] [3] .skip)) (.keep [0, 3] [3] (.seq (.region [
    { dst := some 66, op := .fieldAddr 0 (.t 3), ix := 0 },
    { dst := some 67, op := .load 1 false (.t 66), ix := 1 },
    { dst := some 68, op := .eq .i false (.t 67) (.c (.int .i64 4)), ix := 2 }] false [0, 3, 68] [3]) (.seq (.cond (.t 68) (.seq (.region [
    { dst := some 69, op := .move (.t 0), ix := 0 },
    { dst := some 70, op := .fieldAddr 1 (.t 3), ix := 1 },
    { dst := some 71, op := .load 1 false (.t 70), ix := 2 },
    { dst := some 72, op := .call 38 [(.t 69, .as), (.t 71, .as)], ix := 3 }] false [0, 3] [3]) (.seq (.region [
    { dst := some 73, op := .move (.t 0), ix := 0 },
    { dst := some 74, op := .fieldAddr 1 (.t 3), ix := 1 },
    { dst := some 75, op := .load 1 false (.t 74), ix := 2 },
    { dst := some 76, op := .call 39 [(.t 73, .as), (.t 75, .as)], ix := 3 }] false [] []) (.seq (.region [
    { dst := some 4, op := .move (.c (.int .i64 0)), ix := 0 }] false [4] []) (.keep [4] [] .ret)))) (.keep [0, 3] [3] .skip)) (.keep [0, 3] [3] (.seq (.draw [
    { dst := some 77, op := .move (.t 0), ix := 0 },
    { dst := some 78, op := .move (.t 0), ix := 1 },
    { dst := some 79, op := .nilCheck (.t 78), ix := 2 },
    { dst := some 80, op := .fieldAddr 0 (.t 79), ix := 3 },
    { dst := some 81, op := .load 1 false (.t 80), ix := 4 },
    { dst := some 82, op := .fieldAddr 1 (.t 3), ix := 5 },
    { dst := some 83, op := .load 1 false (.t 82), ix := 6 },
    { dst := some 84, op := .indexAddr 7 (.t 81) (.t 83), ix := 7 },
    { dst := some 85, op := .load 9 true (.t 3), ix := 8 },
    { dst := some 86, op := .call 40 [(.t 77, .as), (.t 84, .as), (.t 85, .as)], ix := 9 },
    { dst := some 4, op := .move (.t 86), ix := 10 }] [4] []) (.keep [4] [] .ret)))))))))))))))))))))))))) }
theorem ok23 : fnSoundB Go.Proofs.Tryd.prog 23 F23 = true := by decide +kernel
def B24x0 : LCode :=
  (.seq (.region [
    { dst := some 22, op := .bin .lss (.t 21) (.t 20), ix := 0 }] false [0, 1, 3, 19, 20, 21, 22] []) (.seq (.cond (.t 22) (.keep [0, 1, 3, 19, 20, 21] [] .skip) (.keep [1] [] (.exit 0))) (.keep [0, 1, 3, 19, 20, 21] [] (.seq (.block 1 (.seq (.region [
    { dst := some 23, op := .indexAddr 1 (.t 19) (.t 21), ix := 0 },
    { dst := some 24, op := .load 1 false (.t 23), ix := 1 },
    { dst := some 10, op := .move (.t 24), ix := 2 }] false [0, 1, 3, 10, 19, 20, 21] []) (.seq (.region [
    { dst := some 25, op := .move (.t 0), ix := 0 },
    { dst := some 26, op := .nilCheck (.t 25), ix := 1 },
    { dst := some 27, op := .fieldAddr 0 (.t 26), ix := 2 },
    { dst := some 28, op := .load 1 false (.t 27), ix := 3 },
    { dst := some 29, op := .move (.t 10), ix := 4 },
    { dst := some 30, op := .indexAddr 7 (.t 28) (.t 29), ix := 5 },
    { dst := some 31, op := .load 7 true (.t 30), ix := 6 },
    { dst := some 11, op := .alloc false 11 [.p (.bool false), .p (.int .i64 0), .p (.list []), .p (.str []), .p (.str []), .p (.str []), .p (.list [])] [], ix := 7 },
    { dst := none, op := .store 7 true (.t 11) (.t 31), ix := 8 }] false [0, 1, 3, 10, 11, 19, 20, 21] [11]) (.seq (.draw [
    { dst := some 32, op := .move (.t 1), ix := 0 },
    { dst := some 33, op := .move (.t 10), ix := 1 },
    { dst := some 34, op := .move (.t 3), ix := 2 },
    { dst := some 35, op := .fieldAddr 3 (.t 11), ix := 3 },
    { dst := some 36, op := .load 1 false (.t 35), ix := 4 },
    { dst := some 37, op := .fieldAddr 4 (.t 11), ix := 5 },
    { dst := some 38, op := .load 1 false (.t 37), ix := 6 },
    { dst := some 39, op := .fieldAddr 5 (.t 11), ix := 7 },
    { dst := some 40, op := .load 1 false (.t 39), ix := 8 },
    { dst := some 41, op := .fieldAddr 6 (.t 11), ix := 9 },
    { dst := some 42, op := .load 1 false (.t 41), ix := 10 },
    { dst := some 43, op := .pcall 22 [(.t 42, .as)], ix := 11 },
    { dst := some 44, op := .build [.p (.int .i64 0), .p (.int .i64 0), .p (.str []), .p (.str []), .p (.str []), .p (.list [])] [(0, 1, .t 33), (1, 1, .t 34), (2, 1, .t 36), (3, 1, .t 38), (4, 1, .t 40), (5, 1, .t 43)], ix := 12 },
    { dst := some 45, op := .row 6 [.t 44], ix := 13 },
    { dst := some 46, op := .append true 1000 6 88 (.t 32) (.t 45), ix := 14 },
    { dst := some 1, op := .move (.t 46), ix := 15 }] [0, 1, 3, 10, 19, 20, 21] []) (.seq (.region [
    { dst := some 47, op := .move (.t 0), ix := 0 },
    { dst := some 48, op := .move (.t 1), ix := 1 },
    { dst := some 49, op := .move (.t 10), ix := 2 },
    { dst := some 50, op := .move (.t 1), ix := 3 },
    { dst := some 51, op := .len 1 (.t 50), ix := 4 },
    { dst := some 52, op := .call 24 [(.t 47, .as), (.t 48, .as), (.t 49, .as), (.t 51, .as)], ix := 5 },
    { dst := some 1, op := .move (.t 52), ix := 6 }] false [0, 1, 3, 19, 20, 21] []) (.keep [0, 1, 3, 19, 20, 21] [] .skip)))))) (.keep [0, 1, 3, 19, 20, 21] [] (.seq (.region [
    { dst := some 53, op := .bin .add (.t 21) (.c (.int .i64 1)), ix := 0 },
    { dst := some 21, op := .move (.t 53), ix := 1 }] false [0, 1, 3, 19, 20, 21] []) (.keep [0, 1, 3, 19, 20, 21] [] .skip)))))))
def F24 : LFunc := { nparams := 4, results := [.tmp 8], pure := false, body :=
  (.seq (.region [
    { dst := some 8, op := .move (.c (.list [])), ix := 0 }] false [0, 1, 2, 3] []) (.seq (.region [
    { dst := some 12, op := .move (.t 0), ix := 0 },
    { dst := some 13, op := .nilCheck (.t 12), ix := 1 },
    { dst := some 14, op := .fieldAddr 0 (.t 13), ix := 2 },
    { dst := some 15, op := .load 1 false (.t 14), ix := 3 },
    { dst := some 16, op := .move (.t 2), ix := 4 },
    { dst := some 17, op := .indexAddr 7 (.t 15) (.t 16), ix := 5 },
    { dst := some 18, op := .fieldAddr 2 (.t 17), ix := 6 },
    { dst := some 19, op := .load 1 false (.t 18), ix := 7 },
    { dst := some 20, op := .len 1 (.t 19), ix := 8 },
    { dst := some 21, op := .move (.c (.int .i64 0)), ix := 9 }] false [0, 1, 3, 19, 20, 21] []) (.seq (.block 0 (.seq (.keep [0, 1, 3, 19, 20, 21] [] (.loop B24x0)) (.keep [1] [] .skip))) (.keep [1] [] (.seq (.region [
    { dst := some 54, op := .move (.t 1), ix := 0 },
    { dst := some 8, op := .move (.t 54), ix := 1 }] false [8] []) (.keep [8] [] .ret)))))) }
theorem ok24 : fnSoundB Go.Proofs.Tryd.prog 24 F24 = true := by decide +kernel
def B25x0 : LCode :=
  (.seq (.region [
    { dst := some 10, op := .bin .lss (.t 9) (.t 8), ix := 0 }] false [7, 8, 9, 10] []) (.seq (.cond (.t 10) (.keep [7, 8, 9] [] .skip) (.keep [] [] (.exit 0))) (.keep [7, 8, 9] [] (.seq (.block 1 (.seq (.region [
    { dst := some 11, op := .move (.t 9), ix := 0 },
    { dst := some 12, op := .indexAddr 9 (.t 7) (.t 9), ix := 1 },
    { dst := some 13, op := .load 9 true (.t 12), ix := 2 },
    { dst := some 5, op := .alloc false 5 [.p (.int .i64 0), .p (.int .i64 0), .p (.int .i64 0), .p (.int .i64 0), .p (.str []), .p (.str []), .p (.str []), .p (.str []), .p (.list [])] [], ix := 3 },
    { dst := some 4, op := .move (.t 11), ix := 4 },
    { dst := none, op := .store 9 true (.t 5) (.t 13), ix := 5 }] false [4, 5, 7, 8, 9] [5]) (.seq (.region [
    { dst := some 14, op := .move (.t 4), ix := 0 },
    { dst := some 15, op := .eq .i false (.t 14) (.c (.int .i64 1048576)), ix := 1 }] false [4, 5, 7, 8, 9, 15] [5]) (.seq (.cond (.t 15) (.seq (.region [
    { dst := some 16, op := .move (.t 4), ix := 0 },
    { dst := some 2, op := .move (.t 16), ix := 1 },
    { dst := some 3, op := .move (.c (.int .i64 12)), ix := 2 }] false [2, 3] []) (.keep [2, 3] [] .ret)) (.keep [4, 5, 7, 8, 9] [5] .skip)) (.keep [4, 5, 7, 8, 9] [5] (.seq (.region [
    { dst := some 17, op := .load 9 true (.t 5), ix := 0 },
    { dst := some 18, op := .pcall 34 [(.t 17, .as)], ix := 1 },
    { dst := some 6, op := .move (.t 18), ix := 2 }] false [4, 6, 7, 8, 9] []) (.seq (.region [
    { dst := some 19, op := .move (.t 6), ix := 0 },
    { dst := some 20, op := .eq .i true (.t 19) (.c (.int .i64 0)), ix := 1 }] false [4, 6, 7, 8, 9, 20] []) (.seq (.cond (.t 20) (.seq (.region [
    { dst := some 21, op := .move (.t 4), ix := 0 },
    { dst := some 22, op := .move (.t 6), ix := 1 },
    { dst := some 2, op := .move (.t 21), ix := 2 },
    { dst := some 3, op := .move (.t 22), ix := 3 }] false [2, 3] []) (.keep [2, 3] [] .ret)) (.keep [7, 8, 9] [] .skip)) (.keep [7, 8, 9] [] .skip))))))))) (.keep [7, 8, 9] [] (.seq (.region [
    { dst := some 23, op := .bin .add (.t 9) (.c (.int .i64 1)), ix := 0 },
    { dst := some 9, op := .move (.t 23), ix := 1 }] false [7, 8, 9] []) (.keep [7, 8, 9] [] .skip)))))))
def F25 : LFunc := { nparams := 1, results := [.tmp 2, .tmp 3], pure := true, body :=
  (.seq (.region [
    { dst := some 2, op := .move (.c (.int .i64 0)), ix := 0 },
    { dst := some 3, op := .move (.c (.int .i64 0)), ix := 1 }] false [0] []) (.seq (.region [
    { dst := some 7, op := .move (.t 0), ix := 0 },
    { dst := some 8, op := .len 1 (.t 7), ix := 1 },
    { dst := some 9, op := .move (.c (.int .i64 0)), ix := 2 }] false [7, 8, 9] []) (.seq (.block 0 (.seq (.keep [7, 8, 9] [] (.loop B25x0)) (.keep [] [] .skip))) (.keep [] [] (.seq (.region [
    { dst := some 2, op := .move (.c (.int .i64 0)), ix := 0 },
    { dst := some 3, op := .move (.c (.int .i64 0)), ix := 1 }] false [2, 3] []) (.keep [2, 3] [] .ret)))))) }
theorem ok25 : fnSoundB Go.Proofs.Tryd.prog 25 F25 = true := by decide +kernel
def B26x0 : LCode :=
  (.seq (.region [
    { dst := some 18, op := .bin .lss (.t 17) (.t 16), ix := 0 }] false [0, 1, 2, 8, 9, 15, 16, 17, 18] []) (.seq (.cond (.t 18) (.keep [0, 1, 2, 8, 9, 15, 16, 17] [] .skip) (.keep [0, 1, 2, 8, 9] [] (.exit 0))) (.keep [0, 1, 2, 8, 9, 15, 16, 17] [] (.seq (.block 1 (.seq (.region [
    { dst := some 19, op := .indexAddr 6 (.t 15) (.t 17), ix := 0 },
    { dst := some 20, op := .load 6 true (.t 19), ix := 1 },
    { dst := some 11, op := .alloc false 11 [.p (.int .i64 0), .p (.int .i64 0), .p (.str []), .p (.str []), .p (.str []), .p (.list [])] [], ix := 2 },
    { dst := none, op := .store 6 true (.t 11) (.t 20), ix := 3 }] false [0, 1, 2, 8, 9, 11, 15, 16, 17] [11]) (.seq (.region [
    { dst := some 21, op := .fieldAddr 1 (.t 11), ix := 0 },
    { dst := some 22, op := .load 1 false (.t 21), ix := 1 },
    { dst := some 23, op := .eq .i false (.t 22) (.c (.int .i64 0)), ix := 2 }] false [0, 1, 2, 8, 9, 15, 16, 17, 23] []) (.seq (.cond (.t 23) (.seq (.region [
    { dst := some 24, op := .move (.t 9), ix := 0 },
    { dst := some 25, op := .bin .add (.t 24) (.c (.int .i64 1)), ix := 1 },
    { dst := some 9, op := .move (.t 25), ix := 2 }] false [0, 1, 2, 8, 9, 15, 16, 17] []) (.keep [0, 1, 2, 8, 9, 15, 16, 17] [] .skip)) (.keep [0, 1, 2, 8, 9, 15, 16, 17] [] .skip)) (.keep [0, 1, 2, 8, 9, 15, 16, 17] [] .skip))))) (.keep [0, 1, 2, 8, 9, 15, 16, 17] [] (.seq (.region [
    { dst := some 26, op := .bin .add (.t 17) (.c (.int .i64 1)), ix := 0 },
    { dst := some 17, op := .move (.t 26), ix := 1 }] false [0, 1, 2, 8, 9, 15, 16, 17] []) (.keep [0, 1, 2, 8, 9, 15, 16, 17] [] .skip)))))))
def F26 : LFunc := { nparams := 3, results := [.tmp 6, .tmp 7], pure := false, body :=
  (.seq (.region [
    { dst := some 6, op := .move (.c (.list [])), ix := 0 },
    { dst := some 7, op := .move (.c (.int .i64 0)), ix := 1 }] false [0, 1, 2] []) (.seq (.region [
    { dst := some 13, op := .move (.t 0), ix := 0 },
    { dst := some 14, op := .call 11 [(.t 13, .as)], ix := 1 },
    { dst := some 8, op := .move (.t 14), ix := 2 }] false [0, 1, 2, 8] []) (.seq (.region [
    { dst := some 9, op := .move (.c (.int .i64 0)), ix := 0 }] false [0, 1, 2, 8, 9] []) (.seq (.region [
    { dst := some 15, op := .move (.t 8), ix := 0 },
    { dst := some 16, op := .len 1 (.t 15), ix := 1 },
    { dst := some 17, op := .move (.c (.int .i64 0)), ix := 2 }] false [0, 1, 2, 8, 9, 15, 16, 17] []) (.seq (.block 0 (.seq (.keep [0, 1, 2, 8, 9, 15, 16, 17] [] (.loop B26x0)) (.keep [0, 1, 2, 8, 9] [] .skip))) (.keep [0, 1, 2, 8, 9] [] (.seq (.block 2 (.seq (.region [
    { dst := some 28, op := .move (.t 0), ix := 0 },
    { dst := some 29, op := .call 20 [(.t 28, .as)], ix := 1 },
    { dst := some 30, op := .len 1 (.t 29), ix := 2 },
    { dst := some 31, op := .bin .gtr (.t 30) (.c (.int .i64 0)), ix := 3 },
    { dst := some 27, op := .move (.t 31), ix := 4 }] false [1, 2, 8, 9, 27] []) (.seq (.cond (.t 27) (.seq (.region [
    { dst := some 6, op := .move (.c (.list [])), ix := 0 },
    { dst := some 7, op := .move (.c (.int .i64 19)), ix := 1 }] false [6, 7] []) (.keep [6, 7] [] .ret)) (.seq (.region [
    { dst := some 33, op := .move (.t 9), ix := 0 },
    { dst := some 34, op := .bin .gtr (.t 33) (.c (.int .i64 1)), ix := 1 },
    { dst := some 32, op := .move (.t 34), ix := 2 }] false [1, 2, 8, 32] []) (.seq (.cond (.t 32) (.seq (.region [
    { dst := some 6, op := .move (.c (.list [])), ix := 0 },
    { dst := some 7, op := .move (.c (.int .i64 20)), ix := 1 }] false [6, 7] []) (.keep [6, 7] [] .ret)) (.keep [1, 2, 8] [] .skip)) (.keep [1, 2, 8] [] .skip)))) (.keep [1, 2, 8] [] .skip)))) (.keep [1, 2, 8] [] (.seq (.region [
    { dst := some 35, op := .move (.t 8), ix := 0 },
    { dst := some 36, op := .pcall 21 [(.t 35, .look)], ix := 1 },
    { dst := some 12, op := .move (.t 36), ix := 2 }] false [1, 2, 8, 12] []) (.seq (.block 3 (.seq (.block 5 (.seq (.block 4 (.seq (.region [
    { dst := some 38, op := .move (.t 12), ix := 0 },
    { dst := some 39, op := .eq .i true (.t 38) (.c (.int .i64 0)), ix := 1 },
    { dst := some 37, op := .move (.t 39), ix := 2 }] false [1, 2, 8, 12, 37] []) (.seq (.cond (.t 37) (.keep [12] [] (.exit 4)) (.keep [1, 2, 8, 12] [] .skip)) (.keep [1, 2, 8, 12] [] (.seq (.region [
    { dst := some 41, op := .move (.t 1), ix := 0 },
    { dst := some 42, op := .pcall 41 [(.t 41, .as)], ix := 1 },
    { dst := some 43, op := .field 0 1 false (.t 42), ix := 2 },
    { dst := some 44, op := .move (.t 2), ix := 3 },
    { dst := some 45, op := .bin .leq (.t 43) (.t 44), ix := 4 },
    { dst := some 40, op := .move (.t 45), ix := 5 }] false [8, 12, 40] []) (.seq (.cond (.t 40) (.keep [8, 12] [] (.exit 5)) (.keep [] [] .skip)) (.keep [] [] (.exit 3)))))))) (.keep [12] [] (.seq (.region [
    { dst := some 8, op := .move (.c (.list [])), ix := 0 }] false [8, 12] []) (.keep [8, 12] [] .skip))))) (.keep [8, 12] [] (.seq (.region [
    { dst := some 46, op := .move (.t 8), ix := 0 },
    { dst := some 47, op := .move (.t 12), ix := 1 },
    { dst := some 6, op := .move (.t 46), ix := 2 },
    { dst := some 7, op := .move (.t 47), ix := 3 }] false [6, 7] []) (.seq (.keep [6, 7] [] .ret) (.keep [] [] (.exit 3))))))) (.keep [] [] (.seq (.region [
    { dst := some 6, op := .move (.c (.list [])), ix := 0 },
    { dst := some 7, op := .move (.c (.int .i64 21)), ix := 1 }] false [6, 7] []) (.keep [6, 7] [] .ret))))))))))))) }
theorem ok26 : fnSoundB Go.Proofs.Tryd.prog 26 F26 = true := by decide +kernel
def B27x0 : LCode :=
  (.seq (.region [
    { dst := some 14, op := .bin .lss (.t 13) (.t 12), ix := 0 }] false [0, 1, 12, 13, 14] []) (.seq (.cond (.t 14) (.keep [0, 1, 12, 13] [] .skip) (.keep [] [] (.exit 0))) (.keep [0, 1, 12, 13] [] (.seq (.block 1 (.seq (.region [
    { dst := some 15, op := .move (.t 13), ix := 0 },
    { dst := some 5, op := .move (.t 15), ix := 1 }] false [0, 1, 5, 12, 13] []) (.seq (.region [
    { dst := some 16, op := .move (.t 0), ix := 0 },
    { dst := some 17, op := .move (.t 5), ix := 1 },
    { dst := some 18, op := .indexAddr 2 (.t 16) (.t 17), ix := 2 },
    { dst := some 19, op := .load 2 true (.t 18), ix := 3 },
    { dst := some 20, op := .move (.t 1), ix := 4 },
    { dst := some 21, op := .move (.t 5), ix := 5 },
    { dst := some 22, op := .indexAddr 2 (.t 20) (.t 21), ix := 6 },
    { dst := some 23, op := .load 2 true (.t 22), ix := 7 },
    { dst := some 24, op := .eq (.st [2, 2]) true (.t 19) (.t 23), ix := 8 }] true [0, 1, 12, 13, 24] []) (.seq (.cond (.t 24) (.seq (.region [
    { dst := some 4, op := .move (.c (.bool false)), ix := 0 }] false [4] []) (.keep [4] [] .ret)) (.keep [0, 1, 12, 13] [] .skip)) (.keep [0, 1, 12, 13] [] .skip))))) (.keep [0, 1, 12, 13] [] (.seq (.region [
    { dst := some 25, op := .bin .add (.t 13) (.c (.int .i64 1)), ix := 0 },
    { dst := some 13, op := .move (.t 25), ix := 1 }] false [0, 1, 12, 13] []) (.keep [0, 1, 12, 13] [] .skip)))))))
def F27 : LFunc := { nparams := 2, results := [.tmp 4], pure := true, body :=
  (.seq (.region [
    { dst := some 4, op := .move (.c (.bool false)), ix := 0 }] false [0, 1] []) (.seq (.region [
    { dst := some 6, op := .move (.t 0), ix := 0 },
    { dst := some 7, op := .len 1 (.t 6), ix := 1 },
    { dst := some 8, op := .move (.t 1), ix := 2 },
    { dst := some 9, op := .len 1 (.t 8), ix := 3 },
    { dst := some 10, op := .eq .i true (.t 7) (.t 9), ix := 4 }] false [0, 1, 10] []) (.seq (.cond (.t 10) (.seq (.region [
    { dst := some 4, op := .move (.c (.bool false)), ix := 0 }] false [4] []) (.keep [4] [] .ret)) (.keep [0, 1] [] .skip)) (.keep [0, 1] [] (.seq (.region [
    { dst := some 11, op := .move (.t 0), ix := 0 },
    { dst := some 12, op := .len 1 (.t 11), ix := 1 },
    { dst := some 13, op := .move (.c (.int .i64 0)), ix := 2 }] false [0, 1, 12, 13] []) (.seq (.block 0 (.seq (.keep [0, 1, 12, 13] [] (.loop B27x0)) (.keep [] [] .skip))) (.keep [] [] (.seq (.region [
    { dst := some 4, op := .move (.c (.bool true)), ix := 0 }] false [4] []) (.keep [4] [] .ret))))))))) }
theorem ok27 : fnSoundB Go.Proofs.Tryd.prog 27 F27 = true := by decide +kernel
def F28 : LFunc := { nparams := 1, results := [.tmp 2], pure := true, body :=
  (.seq (.region [
    { dst := some 2, op := .move (.c (.bool false)), ix := 0 }] false [0] []) (.seq (.region [
    { dst := some 3, op := .move (.t 0), ix := 0 },
    { dst := some 4, op := .bin .lss (.t 3) (.c (.int .i64 0)), ix := 1 },
    { dst := some 5, op := .move (.t 4), ix := 2 },
    { dst := some 6, op := .move (.t 0), guard := some (5, false), ix := 3 },
    { dst := some 7, op := .bin .gtr (.t 6) (.c (.int .i64 4294967295)), guard := some (5, false), ix := 4 },
    { dst := some 8, op := .pick (.t 5) (.c (.bool true)) (.t 7), ix := 5 },
    { dst := some 2, op := .move (.t 8), ix := 6 }] false [2] []) (.keep [2] [] .ret))) }
theorem ok28 : fnSoundB Go.Proofs.Tryd.prog 28 F28 = true := by decide +kernel
def F29 : LFunc := { nparams := 1, results := [.tmp 2], pure := true, body :=
  (.seq (.region [
    { dst := some 1, op := .box false 1 (.t 0), ix := 0 },
    { dst := some 2, op := .move (.c (.bool false)), ix := 1 }] false [1] [1]) (.seq (.region [
    { dst := some 4, op := .fieldAddr 0 (.t 1), ix := 0 },
    { dst := some 5, op := .load 1 false (.t 4), ix := 1 },
    { dst := some 3, op := .move (.t 5), ix := 2 }] false [1, 3] [1]) (.seq (.region [
    { dst := some 6, op := .move (.t 3), ix := 0 },
    { dst := some 7, op := .eq .i true (.t 6) (.c (.int .i64 1)), ix := 1 },
    { dst := some 8, op := .move (.t 7), ix := 2 },
    { dst := some 9, op := .fieldAddr 4 (.t 1), guard := some (8, true), ix := 3 },
    { dst := some 10, op := .load 1 false (.t 9), guard := some (8, true), ix := 4 },
    { dst := some 11, op := .eq .s true (.t 10) (.c (.str [])), guard := some (8, true), ix := 5 },
    { dst := some 12, op := .move (.t 11), guard := some (8, true), ix := 6 },
    { dst := some 13, op := .fieldAddr 5 (.t 1), guard := some (12, false), ix := 7 },
    { dst := some 14, op := .load 1 false (.t 13), guard := some (12, false), ix := 8 },
    { dst := some 15, op := .eq .s true (.t 14) (.c (.str [])), guard := some (12, false), ix := 9 },
    { dst := some 16, op := .pick (.t 12) (.c (.bool true)) (.t 15), guard := some (8, true), ix := 10 },
    { dst := some 17, op := .move (.t 16), guard := some (8, true), ix := 11 },
    { dst := some 18, op := .fieldAddr 8 (.t 1), guard := some (17, false), ix := 12 },
    { dst := some 19, op := .load 1 false (.t 18), guard := some (17, false), ix := 13 },
    { dst := some 20, op := .len 1 (.t 19), guard := some (17, false), ix := 14 },
    { dst := some 21, op := .bin .gtr (.t 20) (.c (.int .i64 0)), guard := some (17, false), ix := 15 },
    { dst := some 22, op := .pick (.t 17) (.c (.bool true)) (.t 21), guard := some (8, true), ix := 16 },
    { dst := some 23, op := .pick (.t 8) (.t 22) (.c (.bool false)), ix := 17 }] false [1, 3, 23] [1]) (.seq (.cond (.t 23) (.seq (.region [
    { dst := some 2, op := .move (.c (.bool true)), ix := 0 }] false [2] []) (.keep [2] [] .ret)) (.keep [1, 3] [1] .skip)) (.keep [1, 3] [1] (.seq (.region [
    { dst := some 24, op := .move (.t 3), ix := 0 },
    { dst := some 25, op := .eq .i false (.t 24) (.c (.int .i64 1)), ix := 1 },
    { dst := some 26, op := .move (.t 25), ix := 2 },
    { dst := some 27, op := .fieldAddr 1 (.t 1), guard := some (26, true), ix := 3 },
    { dst := some 28, op := .load 1 false (.t 27), guard := some (26, true), ix := 4 },
    { dst := some 29, op := .eq .i true (.t 28) (.c (.int .i64 0)), guard := some (26, true), ix := 5 },
    { dst := some 30, op := .pick (.t 26) (.t 29) (.c (.bool false)), ix := 6 },
    { dst := some 31, op := .move (.t 30), ix := 7 },
    { dst := some 32, op := .move (.t 3), guard := some (31, false), ix := 8 },
    { dst := some 33, op := .eq .i true (.t 32) (.c (.int .i64 2)), guard := some (31, false), ix := 9 },
    { dst := some 34, op := .move (.t 33), guard := some (31, false), ix := 10 },
    { dst := some 35, op := .fieldAddr 2 (.t 1), guard := some (34, true), ix := 11 },
    { dst := some 36, op := .load 1 false (.t 35), guard := some (34, true), ix := 12 },
    { dst := some 37, op := .eq .i true (.t 36) (.c (.int .i64 0)), guard := some (34, true), ix := 13 },
    { dst := some 38, op := .pick (.t 34) (.t 37) (.c (.bool false)), guard := some (31, false), ix := 14 },
    { dst := some 39, op := .pick (.t 31) (.c (.bool true)) (.t 38), ix := 15 },
    { dst := some 40, op := .move (.t 39), ix := 16 },
    { dst := some 41, op := .move (.t 3), guard := some (40, false), ix := 17 },
    { dst := some 42, op := .eq .i true (.t 41) (.c (.int .i64 2)), guard := some (40, false), ix := 18 },
    { dst := some 43, op := .move (.t 42), guard := some (40, false), ix := 19 },
    { dst := some 44, op := .move (.t 3), guard := some (43, true), ix := 20 },
    { dst := some 45, op := .eq .i true (.t 44) (.c (.int .i64 3)), guard := some (43, true), ix := 21 },
    { dst := some 46, op := .pick (.t 43) (.t 45) (.c (.bool false)), guard := some (40, false), ix := 22 },
    { dst := some 47, op := .move (.t 46), guard := some (40, false), ix := 23 },
    { dst := some 48, op := .fieldAddr 3 (.t 1), guard := some (47, true), ix := 24 },
    { dst := some 49, op := .load 1 false (.t 48), guard := some (47, true), ix := 25 },
    { dst := some 50, op := .eq .i true (.t 49) (.c (.int .i64 0)), guard := some (47, true), ix := 26 },
    { dst := some 51, op := .pick (.t 47) (.t 50) (.c (.bool false)), guard := some (40, false), ix := 27 },
    { dst := some 52, op := .pick (.t 40) (.c (.bool true)) (.t 51), ix := 28 }] false [1, 3, 52] [1]) (.seq (.cond (.t 52) (.seq (.region [
    { dst := some 2, op := .move (.c (.bool true)), ix := 0 }] false [2] []) (.keep [2] [] .ret)) (.keep [1, 3] [1] .skip)) (.keep [1, 3] [1] (.seq (.region [
    { dst := some 53, op := .move (.t 3), ix := 0 },
    { dst := some 54, op := .eq .i true (.t 53) (.c (.int .i64 5)), ix := 1 },
    { dst := some 55, op := .move (.t 54), ix := 2 },
    { dst := some 56, op := .move (.t 3), guard := some (55, true), ix := 3 },
    { dst := some 57, op := .eq .i true (.t 56) (.c (.int .i64 6)), guard := some (55, true), ix := 4 },
    { dst := some 58, op := .pick (.t 55) (.t 57) (.c (.bool false)), ix := 5 },
    { dst := some 59, op := .move (.t 58), ix := 6 },
    { dst := some 60, op := .fieldAddr 6 (.t 1), guard := some (59, true), ix := 7 },
    { dst := some 61, op := .load 1 false (.t 60), guard := some (59, true), ix := 8 },
    { dst := some 62, op := .eq .s true (.t 61) (.c (.str [])), guard := some (59, true), ix := 9 },
    { dst := some 63, op := .pick (.t 59) (.t 62) (.c (.bool false)), ix := 10 },
    { dst := some 64, op := .move (.t 63), ix := 11 },
    { dst := some 65, op := .move (.t 3), guard := some (64, false), ix := 12 },
    { dst := some 66, op := .eq .i true (.t 65) (.c (.int .i64 1)), guard := some (64, false), ix := 13 },
    { dst := some 67, op := .move (.t 66), guard := some (64, false), ix := 14 },
    { dst := some 68, op := .move (.t 3), guard := some (67, true), ix := 15 },
    { dst := some 69, op := .eq .i true (.t 68) (.c (.int .i64 5)), guard := some (67, true), ix := 16 },
    { dst := some 70, op := .pick (.t 67) (.t 69) (.c (.bool false)), guard := some (64, false), ix := 17 },
    { dst := some 71, op := .move (.t 70), guard := some (64, false), ix := 18 },
    { dst := some 72, op := .move (.t 3), guard := some (71, true), ix := 19 },
    { dst := some 73, op := .eq .i true (.t 72) (.c (.int .i64 7)), guard := some (71, true), ix := 20 },
    { dst := some 74, op := .pick (.t 71) (.t 73) (.c (.bool false)), guard := some (64, false), ix := 21 },
    { dst := some 75, op := .move (.t 74), guard := some (64, false), ix := 22 },
    { dst := some 76, op := .fieldAddr 7 (.t 1), guard := some (75, true), ix := 23 },
    { dst := some 77, op := .load 1 false (.t 76), guard := some (75, true), ix := 24 },
    { dst := some 78, op := .eq .s true (.t 77) (.c (.str [])), guard := some (75, true), ix := 25 },
    { dst := some 79, op := .pick (.t 75) (.t 78) (.c (.bool false)), guard := some (64, false), ix := 26 },
    { dst := some 80, op := .pick (.t 64) (.c (.bool true)) (.t 79), ix := 27 },
    { dst := some 2, op := .move (.t 80), ix := 28 }] false [2] []) (.keep [2] [] .ret)))))))))) }
theorem ok29 : fnSoundB Go.Proofs.Tryd.prog 29 F29 = true := by decide +kernel
def B30x0 : LCode :=
  (.seq (.region [
    { dst := some 24, op := .move (.t 5), ix := 0 },
    { dst := some 25, op := .move (.t 0), ix := 1 },
    { dst := some 26, op := .len 0 (.t 25), ix := 2 },
    { dst := some 27, op := .bin .lss (.t 24) (.t 26), ix := 3 }] false [0, 1, 5, 27] []) (.seq (.cond (.t 27) (.keep [0, 1, 5] [] .skip) (.keep [] [] (.exit 0))) (.keep [0, 1, 5] [] (.seq (.block 1 (.seq (.region [
    { dst := some 30, op := .move (.t 0), ix := 0 },
    { dst := some 31, op := .move (.t 5), ix := 1 },
    { dst := some 32, op := .index (.t 30) (.t 31), ix := 2 },
    { dst := some 33, op := .move (.t 1), ix := 3 },
    { dst := some 34, op := .pcall 42 [(.t 32, .as), (.t 33, .as)], ix := 4 },
    { dst := some 35, op := .un .not (.t 34), ix := 5 }] false [0, 1, 5, 35] []) (.seq (.cond (.t 35) (.seq (.region [
    { dst := some 4, op := .move (.c (.bool false)), ix := 0 }] false [4] []) (.keep [4] [] .ret)) (.keep [0, 1, 5] [] .skip)) (.keep [0, 1, 5] [] .skip)))) (.keep [0, 1, 5] [] (.seq (.region [
    { dst := some 28, op := .move (.t 5), ix := 0 },
    { dst := some 29, op := .bin .add (.t 28) (.c (.int .i64 1)), ix := 1 },
    { dst := some 5, op := .move (.t 29), ix := 2 }] false [0, 1, 5] []) (.keep [0, 1, 5] [] .skip)))))))
def F30 : LFunc := { nparams := 2, results := [.tmp 4], pure := true, body :=
  (.seq (.region [
    { dst := some 4, op := .move (.c (.bool false)), ix := 0 }] false [0, 1] []) (.seq (.region [
    { dst := some 6, op := .move (.t 0), ix := 0 },
    { dst := some 7, op := .len 0 (.t 6), ix := 1 },
    { dst := some 8, op := .bin .lss (.t 7) (.c (.int .i64 1)), ix := 2 },
    { dst := some 9, op := .move (.t 8), ix := 3 },
    { dst := some 10, op := .move (.t 0), guard := some (9, false), ix := 4 },
    { dst := some 11, op := .len 0 (.t 10), guard := some (9, false), ix := 5 },
    { dst := some 12, op := .bin .gtr (.t 11) (.c (.int .i64 32)), guard := some (9, false), ix := 6 },
    { dst := some 13, op := .pick (.t 9) (.c (.bool true)) (.t 12), ix := 7 },
    { dst := some 14, op := .move (.t 13), ix := 8 },
    { dst := some 15, op := .move (.t 0), guard := some (14, false), ix := 9 },
    { dst := some 16, op := .index (.t 15) (.c (.int .i64 0)), guard := some (14, false), ix := 10 },
    { dst := some 17, op := .bin .lss (.t 16) (.c (.int .u8 97)), guard := some (14, false), ix := 11 },
    { dst := some 18, op := .pick (.t 14) (.c (.bool true)) (.t 17), ix := 12 },
    { dst := some 19, op := .move (.t 18), ix := 13 },
    { dst := some 20, op := .move (.t 0), guard := some (19, false), ix := 14 },
    { dst := some 21, op := .index (.t 20) (.c (.int .i64 0)), guard := some (19, false), ix := 15 },
    { dst := some 22, op := .bin .gtr (.t 21) (.c (.int .u8 122)), guard := some (19, false), ix := 16 },
    { dst := some 23, op := .pick (.t 19) (.c (.bool true)) (.t 22), ix := 17 }] false [0, 1, 23] []) (.seq (.cond (.t 23) (.seq (.region [
    { dst := some 4, op := .move (.c (.bool false)), ix := 0 }] false [4] []) (.keep [4] [] .ret)) (.keep [0, 1] [] .skip)) (.keep [0, 1] [] (.seq (.region [
    { dst := some 5, op := .move (.c (.int .i64 1)), ix := 0 }] false [0, 1, 5] []) (.seq (.block 0 (.seq (.keep [0, 1, 5] [] (.loop B30x0)) (.keep [] [] .skip))) (.keep [] [] (.seq (.region [
    { dst := some 4, op := .move (.c (.bool true)), ix := 0 }] false [4] []) (.keep [4] [] .ret))))))))) }
theorem ok30 : fnSoundB Go.Proofs.Tryd.prog 30 F30 = true := by decide +kernel
def B31x0 : LCode :=
  (.seq (.region [
    { dst := some 8, op := .bin .lss (.t 7) (.t 6), ix := 0 }] false [0, 6, 7, 8] []) (.seq (.cond (.t 8) (.keep [0, 6, 7] [] .skip) (.keep [] [] (.exit 0))) (.keep [0, 6, 7] [] (.seq (.block 1 (.seq (.region [
    { dst := some 9, op := .move (.t 7), ix := 0 },
    { dst := some 4, op := .move (.t 9), ix := 1 }] false [0, 4, 6, 7] []) (.seq (.region [
    { dst := some 10, op := .move (.t 4), ix := 0 },
    { dst := some 11, op := .eq .i false (.t 10) (.c (.int .i64 64)), ix := 1 }] false [0, 4, 6, 7, 11] []) (.seq (.cond (.t 11) (.seq (.region [
    { dst := some 12, op := .move (.t 4), ix := 0 },
    { dst := some 2, op := .move (.t 12), ix := 1 },
    { dst := some 3, op := .move (.c (.int .i64 12)), ix := 2 }] false [2, 3] []) (.keep [2, 3] [] .ret)) (.keep [0, 4, 6, 7] [] .skip)) (.keep [0, 4, 6, 7] [] (.seq (.region [
    { dst := some 13, op := .move (.t 0), ix := 0 },
    { dst := some 14, op := .move (.t 4), ix := 1 },
    { dst := some 15, op := .indexAddr 2 (.t 13) (.t 14), ix := 2 },
    { dst := some 16, op := .fieldAddr 0 (.t 15), ix := 3 },
    { dst := some 17, op := .load 1 false (.t 16), ix := 4 },
    { dst := some 18, op := .pcall 30 [(.t 17, .as), (.c (.bool true), .as)], ix := 5 },
    { dst := some 19, op := .un .not (.t 18), ix := 6 }] false [0, 4, 6, 7, 19] []) (.seq (.cond (.t 19) (.seq (.region [
    { dst := some 20, op := .move (.t 4), ix := 0 },
    { dst := some 2, op := .move (.t 20), ix := 1 },
    { dst := some 3, op := .move (.c (.int .i64 8)), ix := 2 }] false [2, 3] []) (.keep [2, 3] [] .ret)) (.keep [0, 4, 6, 7] [] .skip)) (.keep [0, 4, 6, 7] [] (.seq (.region [
    { dst := some 21, op := .move (.t 0), ix := 0 },
    { dst := some 22, op := .move (.t 4), ix := 1 },
    { dst := some 23, op := .indexAddr 2 (.t 21) (.t 22), ix := 2 },
    { dst := some 24, op := .fieldAddr 1 (.t 23), ix := 3 },
    { dst := some 25, op := .load 1 false (.t 24), ix := 4 },
    { dst := some 26, op := .len 0 (.t 25), ix := 5 },
    { dst := some 27, op := .bin .gtr (.t 26) (.c (.int .i64 65536)), ix := 6 }] false [0, 4, 6, 7, 27] []) (.seq (.cond (.t 27) (.seq (.region [
    { dst := some 28, op := .move (.t 4), ix := 0 },
    { dst := some 2, op := .move (.t 28), ix := 1 },
    { dst := some 3, op := .move (.c (.int .i64 3)), ix := 2 }] false [2, 3] []) (.keep [2, 3] [] .ret)) (.keep [0, 4, 6, 7] [] .skip)) (.keep [0, 4, 6, 7] [] (.seq (.region [
    { dst := some 29, op := .move (.t 4), ix := 0 },
    { dst := some 30, op := .bin .gtr (.t 29) (.c (.int .i64 0)), ix := 1 },
    { dst := some 31, op := .move (.t 30), ix := 2 },
    { dst := some 32, op := .move (.t 0), guard := some (31, true), ix := 3 },
    { dst := some 33, op := .move (.t 4), guard := some (31, true), ix := 4 },
    { dst := some 34, op := .bin .sub (.t 33) (.c (.int .i64 1)), guard := some (31, true), ix := 5 },
    { dst := some 35, op := .indexAddr 2 (.t 32) (.t 34), guard := some (31, true), ix := 6 },
    { dst := some 36, op := .fieldAddr 0 (.t 35), guard := some (31, true), ix := 7 },
    { dst := some 37, op := .load 1 false (.t 36), guard := some (31, true), ix := 8 },
    { dst := some 38, op := .move (.t 0), guard := some (31, true), ix := 9 },
    { dst := some 39, op := .move (.t 4), guard := some (31, true), ix := 10 },
    { dst := some 40, op := .indexAddr 2 (.t 38) (.t 39), guard := some (31, true), ix := 11 },
    { dst := some 41, op := .fieldAddr 0 (.t 40), guard := some (31, true), ix := 12 },
    { dst := some 42, op := .load 1 false (.t 41), guard := some (31, true), ix := 13 },
    { dst := some 43, op := .eq .s false (.t 37) (.t 42), guard := some (31, true), ix := 14 },
    { dst := some 44, op := .pick (.t 31) (.t 43) (.c (.bool false)), ix := 15 }] true [0, 4, 6, 7, 44] []) (.seq (.cond (.t 44) (.seq (.region [
    { dst := some 45, op := .move (.t 4), ix := 0 },
    { dst := some 2, op := .move (.t 45), ix := 1 },
    { dst := some 3, op := .move (.c (.int .i64 10)), ix := 2 }] false [2, 3] []) (.keep [2, 3] [] .ret)) (.keep [0, 4, 6, 7] [] .skip)) (.keep [0, 4, 6, 7] [] (.seq (.region [
    { dst := some 46, op := .move (.t 4), ix := 0 },
    { dst := some 47, op := .bin .gtr (.t 46) (.c (.int .i64 0)), ix := 1 },
    { dst := some 48, op := .move (.t 47), ix := 2 },
    { dst := some 49, op := .move (.t 0), guard := some (48, true), ix := 3 },
    { dst := some 50, op := .move (.t 4), guard := some (48, true), ix := 4 },
    { dst := some 51, op := .bin .sub (.t 50) (.c (.int .i64 1)), guard := some (48, true), ix := 5 },
    { dst := some 52, op := .indexAddr 2 (.t 49) (.t 51), guard := some (48, true), ix := 6 },
    { dst := some 53, op := .fieldAddr 0 (.t 52), guard := some (48, true), ix := 7 },
    { dst := some 54, op := .load 1 false (.t 53), guard := some (48, true), ix := 8 },
    { dst := some 55, op := .move (.t 0), guard := some (48, true), ix := 9 },
    { dst := some 56, op := .move (.t 4), guard := some (48, true), ix := 10 },
    { dst := some 57, op := .indexAddr 2 (.t 55) (.t 56), guard := some (48, true), ix := 11 },
    { dst := some 58, op := .fieldAddr 0 (.t 57), guard := some (48, true), ix := 12 },
    { dst := some 59, op := .load 1 false (.t 58), guard := some (48, true), ix := 13 },
    { dst := some 60, op := .pcall 43 [(.t 54, .as), (.t 59, .as)], guard := some (48, true), ix := 14 },
    { dst := some 61, op := .bin .gtr (.t 60) (.c (.int .i64 0)), guard := some (48, true), ix := 15 },
    { dst := some 62, op := .pick (.t 48) (.t 61) (.c (.bool false)), ix := 16 }] true [0, 4, 6, 7, 62] []) (.seq (.cond (.t 62) (.seq (.region [
    { dst := some 63, op := .move (.t 4), ix := 0 },
    { dst := some 2, op := .move (.t 63), ix := 1 },
    { dst := some 3, op := .move (.c (.int .i64 9)), ix := 2 }] false [2, 3] []) (.keep [2, 3] [] .ret)) (.keep [0, 6, 7] [] .skip)) (.keep [0, 6, 7] [] .skip))))))))))))))))) (.keep [0, 6, 7] [] (.seq (.region [
    { dst := some 64, op := .bin .add (.t 7) (.c (.int .i64 1)), ix := 0 },
    { dst := some 7, op := .move (.t 64), ix := 1 }] false [0, 6, 7] []) (.keep [0, 6, 7] [] .skip)))))))
def F31 : LFunc := { nparams := 1, results := [.tmp 2, .tmp 3], pure := true, body :=
  (.seq (.region [
    { dst := some 2, op := .move (.c (.int .i64 0)), ix := 0 },
    { dst := some 3, op := .move (.c (.int .i64 0)), ix := 1 }] false [0] []) (.seq (.region [
    { dst := some 5, op := .move (.t 0), ix := 0 },
    { dst := some 6, op := .len 1 (.t 5), ix := 1 },
    { dst := some 7, op := .move (.c (.int .i64 0)), ix := 2 }] false [0, 6, 7] []) (.seq (.block 0 (.seq (.keep [0, 6, 7] [] (.loop B31x0)) (.keep [] [] .skip))) (.keep [] [] (.seq (.region [
    { dst := some 2, op := .move (.c (.int .i64 0)), ix := 0 },
    { dst := some 3, op := .move (.c (.int .i64 0)), ix := 1 }] false [2, 3] []) (.keep [2, 3] [] .ret)))))) }
theorem ok31 : fnSoundB Go.Proofs.Tryd.prog 31 F31 = true := by decide +kernel
def B32x0 : LCode :=
  (.seq (.region [
    { dst := some 9, op := .move (.t 7), ix := 0 },
    { dst := some 10, op := .bin .gtr (.t 9) (.c (.int .i64 0)), ix := 1 }] false [0, 2, 7, 10] []) (.seq (.cond (.t 10) (.keep [0, 2, 7] [] .skip) (.keep [] [] (.exit 0))) (.keep [0, 2, 7] [] (.seq (.block 1 (.seq (.region [
    { dst := some 11, op := .move (.t 7), ix := 0 },
    { dst := some 12, op := .move (.t 2), ix := 1 },
    { dst := some 13, op := .eq .i false (.t 11) (.t 12), ix := 2 }] false [0, 2, 7, 13] []) (.seq (.cond (.t 13) (.seq (.region [
    { dst := some 6, op := .move (.c (.bool true)), ix := 0 }] false [6] []) (.keep [6] [] .ret)) (.keep [0, 2, 7] [] .skip)) (.keep [0, 2, 7] [] (.seq (.region [
    { dst := some 14, op := .move (.t 0), ix := 0 },
    { dst := some 15, op := .move (.t 7), ix := 1 },
    { dst := some 16, op := .bin .sub (.t 15) (.c (.int .i64 1)), ix := 2 },
    { dst := some 17, op := .indexAddr 6 (.t 14) (.t 16), ix := 3 },
    { dst := some 18, op := .fieldAddr 1 (.t 17), ix := 4 },
    { dst := some 19, op := .load 1 false (.t 18), ix := 5 },
    { dst := some 7, op := .move (.t 19), ix := 6 }] false [0, 2, 7] []) (.keep [0, 2, 7] [] .skip)))))) (.keep [0, 2, 7] [] .skip)))))
def F32 : LFunc := { nparams := 3, results := [.tmp 6], pure := true, body :=
  (.seq (.region [
    { dst := some 6, op := .move (.c (.bool false)), ix := 0 }] false [0, 1, 2] []) (.seq (.region [
    { dst := some 8, op := .move (.t 1), ix := 0 },
    { dst := some 7, op := .move (.t 8), ix := 1 }] false [0, 2, 7] []) (.seq (.block 0 (.seq (.keep [0, 2, 7] [] (.loop B32x0)) (.keep [] [] .skip))) (.keep [] [] (.seq (.region [
    { dst := some 6, op := .move (.c (.bool false)), ix := 0 }] false [6] []) (.keep [6] [] .ret)))))) }
theorem ok32 : fnSoundB Go.Proofs.Tryd.prog 32 F32 = true := by decide +kernel
def F33 : LFunc := { nparams := 1, results := [.cell 2 5 true, .tmp 3], pure := true, body :=
  (.seq (.region [
    { dst := some 2, op := .alloc false 2 [.p (.str []), .p (.str []), .p (.str []), .p (.list []), .p (.list [])] [], ix := 0 },
    { dst := some 3, op := .move (.c (.int .i64 0)), ix := 1 }] false [0, 2] [2, 1000, 1001, 1002]) (.seq (.block 0 (.seq (.region [
    { dst := some 9, op := .move (.t 0), ix := 0 },
    { dst := some 10, op := .len 1 (.t 9), ix := 1 },
    { dst := some 11, op := .eq .i false (.t 10) (.c (.int .i64 0)), ix := 2 },
    { dst := some 8, op := .move (.t 11), ix := 3 }] false [0, 2, 8] [2, 1000, 1001, 1002]) (.seq (.cond (.t 8) (.seq (.region [
    { dst := some 12, op := .build [.p (.str []), .p (.str []), .p (.str []), .p (.list []), .nils] [], ix := 0 },
    { dst := none, op := .store 5 true (.t 2) (.t 12), ix := 1 },
    { dst := some 3, op := .move (.c (.int .i64 23)), ix := 2 }] false [2, 3] [2, 1000, 1001, 1002]) (.keep [2, 3] [2, 1000, 1001, 1002] .ret)) (.seq (.region [
    { dst := some 14, op := .move (.t 0), ix := 0 },
    { dst := some 15, op := .pcall 44 [(.t 14, .as)], ix := 1 },
    { dst := some 16, op := .un .not (.t 15), ix := 2 },
    { dst := some 13, op := .move (.t 16), ix := 3 }] false [0, 2, 13] [2, 1000, 1001, 1002]) (.seq (.cond (.t 13) (.seq (.region [
    { dst := some 17, op := .build [.p (.str []), .p (.str []), .p (.str []), .p (.list []), .nils] [], ix := 0 },
    { dst := none, op := .store 5 true (.t 2) (.t 17), ix := 1 },
    { dst := some 3, op := .move (.c (.int .i64 2)), ix := 2 }] false [2, 3] [2, 1000, 1001, 1002]) (.keep [2, 3] [2, 1000, 1001, 1002] .ret)) (.keep [0, 2] [2, 1000, 1001, 1002] .skip)) (.keep [0, 2] [2, 1000, 1001, 1002] .skip)))) (.keep [0, 2] [2, 1000, 1001, 1002] .skip)))) (.keep [0, 2] [2, 1000, 1001, 1002] (.seq (.region [
    { dst := some 18, op := .move (.t 0), ix := 0 },
    { dst := some 19, op := .pcall 45 [(.t 18, .as)], ix := 1 }] false [0, 2, 19] [2, 1000, 1001, 1002]) (.seq (.cond (.t 19) (.seq (.region [
    { dst := some 20, op := .move (.t 0), ix := 0 },
    { dst := some 21, op := .pcall 46 [(.t 20, .as)], ix := 1 },
    { dst := some 0, op := .move (.t 21), ix := 2 }] false [0, 2] [2, 1000, 1001, 1002]) (.keep [0, 2] [2, 1000, 1001, 1002] .skip)) (.keep [0, 2] [2, 1000, 1001, 1002] .skip)) (.keep [0, 2] [2, 1000, 1001, 1002] (.seq (.region [
    { dst := some 23, op := .move (.t 0), ix := 0 },
    { dst := some 24, op := .pcall 47 [(.t 23, .as), (.c (.int .i64 0), .as)], ix := 1 },
    { dst := some 22, op := .move (.t 24), ix := 2 },
    { dst := some 25, op := .extract (.t 22) 0, ix := 3 },
    { dst := some 26, op := .extract (.t 22) 1, ix := 4 },
    { dst := some 4, op := .alloc false 4 [.p (.str []), .p (.str []), .p (.str []), .p (.list []), .p (.list [])] [], ix := 5 },
    { dst := none, op := .store 5 true (.t 4) (.t 25), ix := 6 },
    { dst := some 5, op := .move (.t 26), ix := 7 }] false [2, 4] [2, 4, 1000, 1001, 1002]) (.seq (.region [
    { dst := some 28, op := .load 5 true (.t 4), ix := 0 },
    { dst := some 29, op := .pcall 48 [(.t 28, .as)], ix := 1 },
    { dst := some 27, op := .move (.t 29), ix := 2 },
    { dst := some 30, op := .extract (.t 27) 0, ix := 3 },
    { dst := some 31, op := .extract (.t 27) 1, ix := 4 },
    { dst := some 6, op := .move (.t 30), ix := 5 },
    { dst := some 7, op := .move (.t 31), ix := 6 }] false [2, 4, 7] [2, 4, 1000, 1001, 1002]) (.seq (.region [
    { dst := some 32, op := .move (.t 7), ix := 0 },
    { dst := some 33, op := .eq .i true (.t 32) (.c (.int .i64 0)), ix := 1 }] false [2, 4, 7, 33] [2, 4, 1000, 1001, 1002]) (.seq (.cond (.t 33) (.seq (.region [
    { dst := some 34, op := .build [.p (.str []), .p (.str []), .p (.str []), .p (.list []), .nils] [], ix := 0 },
    { dst := some 35, op := .move (.t 7), ix := 1 },
    { dst := none, op := .store 5 true (.t 2) (.t 34), ix := 2 },
    { dst := some 3, op := .move (.t 35), ix := 3 }] false [2, 3] [2, 1000, 1001, 1002]) (.keep [2, 3] [2, 1000, 1001, 1002] .ret)) (.keep [2, 4] [2, 4, 1000, 1001, 1002] .skip)) (.keep [2, 4] [2, 4, 1000, 1001, 1002] (.seq (.region [
    { dst := some 36, op := .load 5 true (.t 4), ix := 0 },
    { dst := none, op := .store 5 true (.t 2) (.t 36), ix := 1 },
    { dst := some 3, op := .move (.c (.int .i64 0)), ix := 2 }] false [2, 3] [2, 1000, 1001, 1002]) (.keep [2, 3] [2, 1000, 1001, 1002] .ret))))))))))))) }
theorem ok33 : fnSoundB Go.Proofs.Tryd.prog 33 F33 = true := by decide +kernel
def F34 : LFunc := { nparams := 1, results := [.tmp 2], pure := true, body :=
  (.seq (.region [
    { dst := some 1, op := .box false 1 (.t 0), ix := 0 },
    { dst := some 2, op := .move (.c (.int .i64 0)), ix := 1 }] false [1] [1]) (.seq (.block 0 (.seq (.region [
    { dst := some 6, op := .fieldAddr 0 (.t 1), ix := 0 },
    { dst := some 7, op := .load 1 false (.t 6), ix := 1 },
    { dst := some 8, op := .bin .lss (.t 7) (.c (.int .i64 1)), ix := 2 },
    { dst := some 9, op := .move (.t 8), ix := 3 },
    { dst := some 10, op := .fieldAddr 0 (.t 1), guard := some (9, false), ix := 4 },
    { dst := some 11, op := .load 1 false (.t 10), guard := some (9, false), ix := 5 },
    { dst := some 12, op := .bin .gtr (.t 11) (.c (.int .i64 7)), guard := some (9, false), ix := 6 },
    { dst := some 13, op := .pick (.t 9) (.c (.bool true)) (.t 12), ix := 7 },
    { dst := some 5, op := .move (.t 13), ix := 8 }] false [1, 5] [1]) (.seq (.cond (.t 5) (.seq (.region [
    { dst := some 2, op := .move (.c (.int .i64 6)), ix := 0 }] false [2] []) (.keep [2] [] .ret)) (.seq (.region [
    { dst := some 15, op := .fieldAddr 1 (.t 1), ix := 0 },
    { dst := some 16, op := .load 1 false (.t 15), ix := 1 },
    { dst := some 17, op := .pcall 49 [(.t 16, .as)], ix := 2 },
    { dst := some 18, op := .un .not (.t 17), ix := 3 },
    { dst := some 19, op := .move (.t 18), ix := 4 },
    { dst := some 20, op := .fieldAddr 2 (.t 1), guard := some (19, false), ix := 5 },
    { dst := some 21, op := .load 1 false (.t 20), guard := some (19, false), ix := 6 },
    { dst := some 22, op := .pcall 49 [(.t 21, .as)], guard := some (19, false), ix := 7 },
    { dst := some 23, op := .un .not (.t 22), guard := some (19, false), ix := 8 },
    { dst := some 24, op := .pick (.t 19) (.c (.bool true)) (.t 23), ix := 9 },
    { dst := some 25, op := .move (.t 24), ix := 10 },
    { dst := some 26, op := .fieldAddr 3 (.t 1), guard := some (25, false), ix := 11 },
    { dst := some 27, op := .load 1 false (.t 26), guard := some (25, false), ix := 12 },
    { dst := some 28, op := .pcall 49 [(.t 27, .as)], guard := some (25, false), ix := 13 },
    { dst := some 29, op := .un .not (.t 28), guard := some (25, false), ix := 14 },
    { dst := some 30, op := .pick (.t 25) (.c (.bool true)) (.t 29), ix := 15 },
    { dst := some 14, op := .move (.t 30), ix := 16 }] false [1, 14] [1]) (.seq (.cond (.t 14) (.seq (.region [
    { dst := some 2, op := .move (.c (.int .i64 5)), ix := 0 }] false [2] []) (.keep [2] [] .ret)) (.seq (.region [
    { dst := some 32, op := .load 9 true (.t 1), ix := 0 },
    { dst := some 33, op := .load 9 true (.t 1), ix := 1 },
    { dst := some 34, op := .pcall 51 [(.t 33, .as)], ix := 2 },
    { dst := some 35, op := .pcall 50 [(.t 32, .as), (.t 34, .as)], ix := 3 },
    { dst := some 36, op := .un .not (.t 35), ix := 4 },
    { dst := some 31, op := .move (.t 36), ix := 5 }] true [1, 31] [1]) (.seq (.cond (.t 31) (.seq (.region [
    { dst := some 2, op := .move (.c (.int .i64 2)), ix := 0 }] false [2] []) (.keep [2] [] .ret)) (.seq (.region [
    { dst := some 38, op := .fieldAddr 0 (.t 1), ix := 0 },
    { dst := some 39, op := .load 1 false (.t 38), ix := 1 },
    { dst := some 40, op := .eq .i false (.t 39) (.c (.int .i64 1)), ix := 2 },
    { dst := some 41, op := .move (.t 40), ix := 3 },
    { dst := some 42, op := .fieldAddr 4 (.t 1), guard := some (41, true), ix := 4 },
    { dst := some 43, op := .load 1 false (.t 42), guard := some (41, true), ix := 5 },
    { dst := some 44, op := .pcall 52 [(.t 43, .as)], guard := some (41, true), ix := 6 },
    { dst := some 45, op := .un .not (.t 44), guard := some (41, true), ix := 7 },
    { dst := some 46, op := .pick (.t 41) (.t 45) (.c (.bool false)), ix := 8 },
    { dst := some 37, op := .move (.t 46), ix := 9 }] false [1, 37] [1]) (.seq (.cond (.t 37) (.seq (.region [
    { dst := some 2, op := .move (.c (.int .i64 7)), ix := 0 }] false [2] []) (.keep [2] [] .ret)) (.seq (.region [
    { dst := some 48, op := .fieldAddr 0 (.t 1), ix := 0 },
    { dst := some 49, op := .load 1 false (.t 48), ix := 1 },
    { dst := some 50, op := .eq .i false (.t 49) (.c (.int .i64 5)), ix := 2 },
    { dst := some 51, op := .move (.t 50), ix := 3 },
    { dst := some 52, op := .fieldAddr 0 (.t 1), guard := some (51, false), ix := 4 },
    { dst := some 53, op := .load 1 false (.t 52), guard := some (51, false), ix := 5 },
    { dst := some 54, op := .eq .i false (.t 53) (.c (.int .i64 6)), guard := some (51, false), ix := 6 },
    { dst := some 55, op := .pick (.t 51) (.c (.bool true)) (.t 54), ix := 7 },
    { dst := some 56, op := .move (.t 55), ix := 8 },
    { dst := some 57, op := .fieldAddr 6 (.t 1), guard := some (56, true), ix := 9 },
    { dst := some 58, op := .load 1 false (.t 57), guard := some (56, true), ix := 10 },
    { dst := some 59, op := .pcall 53 [(.t 58, .as)], guard := some (56, true), ix := 11 },
    { dst := some 60, op := .un .not (.t 59), guard := some (56, true), ix := 12 },
    { dst := some 61, op := .pick (.t 56) (.t 60) (.c (.bool false)), ix := 13 },
    { dst := some 47, op := .move (.t 61), ix := 14 }] false [1, 47] [1]) (.seq (.cond (.t 47) (.seq (.region [
    { dst := some 2, op := .move (.c (.int .i64 8)), ix := 0 }] false [2] []) (.keep [2] [] .ret)) (.seq (.region [
    { dst := some 63, op := .fieldAddr 5 (.t 1), ix := 0 },
    { dst := some 64, op := .load 1 false (.t 63), ix := 1 },
    { dst := some 65, op := .pcall 54 [(.t 64, .as)], ix := 2 },
    { dst := some 66, op := .un .not (.t 65), ix := 3 },
    { dst := some 67, op := .move (.t 66), ix := 4 },
    { dst := some 68, op := .fieldAddr 7 (.t 1), guard := some (67, false), ix := 5 },
    { dst := some 69, op := .load 1 false (.t 68), guard := some (67, false), ix := 6 },
    { dst := some 70, op := .pcall 54 [(.t 69, .as)], guard := some (67, false), ix := 7 },
    { dst := some 71, op := .un .not (.t 70), guard := some (67, false), ix := 8 },
    { dst := some 72, op := .pick (.t 67) (.c (.bool true)) (.t 71), ix := 9 },
    { dst := some 62, op := .move (.t 72), ix := 10 }] false [1, 62] [1]) (.seq (.cond (.t 62) (.seq (.region [
    { dst := some 2, op := .move (.c (.int .i64 3)), ix := 0 }] false [2] []) (.keep [2] [] .ret)) (.keep [1] [1] .skip)) (.keep [1] [1] .skip)))) (.keep [1] [1] .skip)))) (.keep [1] [1] .skip)))) (.keep [1] [1] .skip)))) (.keep [1] [1] .skip)))) (.keep [1] [1] .skip)))) (.keep [1] [1] (.seq (.region [
    { dst := some 74, op := .fieldAddr 8 (.t 1), ix := 0 },
    { dst := some 75, op := .load 1 false (.t 74), ix := 1 },
    { dst := some 76, op := .pcall 55 [(.t 75, .as)], ix := 2 },
    { dst := some 73, op := .move (.t 76), ix := 3 },
    { dst := some 77, op := .extract (.t 73) 0, ix := 4 },
    { dst := some 78, op := .extract (.t 73) 1, ix := 5 },
    { dst := some 3, op := .move (.t 77), ix := 6 },
    { dst := some 4, op := .move (.t 78), ix := 7 }] false [4] []) (.seq (.region [
    { dst := some 79, op := .move (.t 4), ix := 0 },
    { dst := some 2, op := .move (.t 79), ix := 1 }] false [2] []) (.keep [2] [] .ret)))))) }
theorem ok34 : fnSoundB Go.Proofs.Tryd.prog 34 F34 = true := by decide +kernel
end Go.TA.Tryd


end
