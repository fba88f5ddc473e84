/- Functions of the program, lowered: each is held against the program's own text by the kernel. -/
import Derived.Test.YtpomccmdhifdiaaLibF
import Derived.Test.YtpomccmdhifdiaaProg
set_option linter.unusedVariables false
set_option maxRecDepth 100000
namespace Go.TA.Try
/- tendril/tendrillaw20.DomNone -/
def F3 : LFunc := { nparams := 1, results := [.tmp 2], pure := true, body :=
  (.seq (.region [
    { dst := some 1, op := .box false 1 (.t 0), ix := 0 },
    { dst := some 2, op := .move (.c (.bool false)), ix := 1 }] false [1] [1]) (.seq (.region [
    { dst := some 6, op := .load 9 true (.t 1), ix := 0 },
    { dst := some 7, op := .row 9 [.t 6], ix := 1 },
    { dst := some 8, op := .pcall 7 [(.t 7, .look), (.c (.int .i64 100), .as)], ix := 2 },
    { dst := some 9, op := .un .not (.t 8), ix := 3 }] false [1, 9] [1]) (.seq (.cond (.t 9) (.seq (.region [
    { dst := some 10, op := .pcall 8 [], ix := 0 },
    { dst := some 2, op := .move (.t 10), ix := 1 }] false [2] []) (.keep [2] [] .ret)) (.keep [1] [1] .skip)) (.keep [1] [1] (.seq (.region [
    { dst := some 3, op := .move (.c (.nilp)), ix := 0 }] false [1, 3] [1]) (.seq (.region [
    { dst := some 12, op := .move (.t 3), ix := 0 },
    { dst := some 13, op := .load 9 true (.t 1), ix := 1 },
    { dst := some 14, op := .call 9 [(.t 12, .as), (.t 13, .as)], ix := 2 },
    { dst := some 11, op := .move (.t 14), ix := 3 },
    { dst := some 15, op := .extract (.t 11) 0, ix := 4 },
    { dst := some 16, op := .extract (.t 11) 1, ix := 5 },
    { dst := some 4, op := .move (.t 15), ix := 6 },
    { dst := some 5, op := .move (.t 16), ix := 7 }] false [1, 4, 5] [1]) (.seq (.region [
    { dst := some 17, op := .move (.t 4), ix := 0 },
    { dst := some 18, op := .eq .i false (.t 17) (.c (.int .i64 0)), ix := 1 },
    { dst := some 19, op := .move (.t 18), ix := 2 },
    { dst := some 20, op := .move (.t 5), guard := some (19, true), ix := 3 },
    { dst := some 21, op := .eq .i false (.t 20) (.c (.int .i64 1)), guard := some (19, true), ix := 4 },
    { dst := some 22, op := .fieldAddr 0 (.t 1), guard := some (19, true), ix := 5 },
    { dst := some 23, op := .load 1 false (.t 22), guard := some (19, true), ix := 6 },
    { dst := some 24, op := .bin .geq (.t 23) (.c (.int .i64 1)), guard := some (19, true), ix := 7 },
    { dst := some 25, op := .move (.t 24), guard := some (19, true), ix := 8 },
    { dst := some 26, op := .fieldAddr 0 (.t 1), guard := some (25, true), ix := 9 },
    { dst := some 27, op := .load 1 false (.t 26), guard := some (25, true), ix := 10 },
    { dst := some 28, op := .bin .leq (.t 27) (.c (.int .i64 7)), guard := some (25, true), ix := 11 },
    { dst := some 29, op := .pick (.t 25) (.t 28) (.c (.bool false)), guard := some (19, true), ix := 12 },
    { dst := some 30, op := .eq .b false (.t 21) (.t 29), guard := some (19, true), ix := 13 },
    { dst := some 31, op := .pick (.t 19) (.t 30) (.c (.bool false)), ix := 14 },
    { dst := some 32, op := .move (.t 31), ix := 15 },
    { dst := some 33, op := .pcall 8 [], guard := some (32, true), ix := 16 },
    { dst := some 34, op := .pick (.t 32) (.t 33) (.c (.bool false)), ix := 17 },
    { dst := some 2, op := .move (.t 34), ix := 18 }] false [2] []) (.keep [2] [] .ret)))))))) }
theorem ok3 : fnSoundB Go.Proofs.Try.prog 3 F3 = true := by decide +kernel
/- tendril/tendrilplain.FewOps -/
def B7x1 : LCode :=
  (.seq (.region [
    { dst := some 48, op := .bin .lss (.t 47) (.t 46), ix := 0 }] false [0, 5, 7, 11, 12, 46, 47, 48] [7]) (.seq (.cond (.t 48) (.keep [0, 5, 7, 11, 12, 46, 47] [7] .skip) (.keep [0, 5, 11, 12] [] (.exit 2))) (.keep [0, 5, 7, 11, 12, 46, 47] [7] (.seq (.block 3 (.seq (.region [
    { dst := some 49, op := .move (.t 47), ix := 0 },
    { dst := some 8, op := .move (.t 49), ix := 1 }] false [0, 5, 7, 8, 11, 12, 46, 47] [7]) (.seq (.region [
    { dst := some 50, op := .move (.t 5), ix := 0 },
    { dst := some 51, op := .fieldAddr 8 (.t 7), ix := 1 },
    { dst := some 52, op := .load 1 false (.t 51), ix := 2 },
    { dst := some 53, op := .move (.t 8), ix := 3 },
    { dst := some 54, op := .indexAddr 2 (.t 52) (.t 53), ix := 4 },
    { dst := some 55, op := .fieldAddr 1 (.t 54), ix := 5 },
    { dst := some 56, op := .load 1 false (.t 55), ix := 6 },
    { dst := some 57, op := .len 0 (.t 56), ix := 7 },
    { dst := some 58, op := .fieldAddr 8 (.t 7), ix := 8 },
    { dst := some 59, op := .load 1 false (.t 58), ix := 9 },
    { dst := some 60, op := .move (.t 8), ix := 10 },
    { dst := some 61, op := .indexAddr 2 (.t 59) (.t 60), ix := 11 },
    { dst := some 62, op := .fieldAddr 0 (.t 61), ix := 12 },
    { dst := some 63, op := .load 1 false (.t 62), ix := 13 },
    { dst := some 64, op := .len 0 (.t 63), ix := 14 },
    { dst := some 65, op := .bin .add (.t 57) (.t 64), ix := 15 },
    { dst := some 66, op := .bin .quo (.t 65) (.c (.int .i64 4096)), ix := 16 },
    { dst := some 67, op := .bin .sub (.t 50) (.t 66), ix := 17 },
    { dst := some 5, op := .move (.t 67), ix := 18 }] true [0, 5, 7, 11, 12, 46, 47] [7]) (.keep [0, 5, 7, 11, 12, 46, 47] [7] .skip)))) (.keep [0, 5, 7, 11, 12, 46, 47] [7] (.seq (.region [
    { dst := some 68, op := .bin .add (.t 47) (.c (.int .i64 1)), ix := 0 },
    { dst := some 47, op := .move (.t 68), ix := 1 }] false [0, 5, 7, 11, 12, 46, 47] [7]) (.keep [0, 5, 7, 11, 12, 46, 47] [7] .skip)))))))
def B7x0 : LCode :=
  (.seq (.region [
    { dst := some 13, op := .bin .lss (.t 12) (.t 11), ix := 0 }] false [0, 5, 11, 12, 13] []) (.seq (.cond (.t 13) (.keep [0, 5, 11, 12] [] .skip) (.keep [5] [] (.exit 0))) (.keep [0, 5, 11, 12] [] (.seq (.block 1 (.seq (.region [
    { dst := some 14, op := .move (.t 12), ix := 0 },
    { dst := some 6, op := .move (.t 14), ix := 1 }] false [0, 5, 6, 11, 12] []) (.seq (.region [
    { dst := some 15, op := .move (.t 0), ix := 0 },
    { dst := some 16, op := .move (.t 6), ix := 1 },
    { dst := some 17, op := .indexAddr 9 (.t 15) (.t 16), ix := 2 },
    { dst := some 18, op := .load 9 true (.t 17), ix := 3 },
    { dst := some 7, op := .alloc false 7 [.p (.int .i64 0), .p (.int .i64 0), .p (.int .i64 0), .p (.int .i64 0), .p (.str []), .p (.str []), .p (.str []), .p (.str []), .p (.list [])] [], ix := 4 },
    { dst := none, op := .store 9 true (.t 7) (.t 18), ix := 5 }] false [0, 5, 7, 11, 12] [7]) (.seq (.region [
    { dst := some 19, op := .move (.t 5), ix := 0 },
    { dst := some 20, op := .bin .sub (.t 19) (.c (.int .i64 1)), ix := 1 },
    { dst := some 21, op := .fieldAddr 8 (.t 7), ix := 2 },
    { dst := some 22, op := .load 1 false (.t 21), ix := 3 },
    { dst := some 23, op := .len 1 (.t 22), ix := 4 },
    { dst := some 24, op := .bin .sub (.t 20) (.t 23), ix := 5 },
    { dst := some 25, op := .fieldAddr 7 (.t 7), ix := 6 },
    { dst := some 26, op := .load 1 false (.t 25), ix := 7 },
    { dst := some 27, op := .len 0 (.t 26), ix := 8 },
    { dst := some 28, op := .fieldAddr 5 (.t 7), ix := 9 },
    { dst := some 29, op := .load 1 false (.t 28), ix := 10 },
    { dst := some 30, op := .len 0 (.t 29), ix := 11 },
    { dst := some 31, op := .bin .add (.t 27) (.t 30), ix := 12 },
    { dst := some 32, op := .fieldAddr 4 (.t 7), ix := 13 },
    { dst := some 33, op := .load 1 false (.t 32), ix := 14 },
    { dst := some 34, op := .len 0 (.t 33), ix := 15 },
    { dst := some 35, op := .bin .add (.t 31) (.t 34), ix := 16 },
    { dst := some 36, op := .fieldAddr 6 (.t 7), ix := 17 },
    { dst := some 37, op := .load 1 false (.t 36), ix := 18 },
    { dst := some 38, op := .len 0 (.t 37), ix := 19 },
    { dst := some 39, op := .bin .add (.t 35) (.t 38), ix := 20 },
    { dst := some 40, op := .bin .quo (.t 39) (.c (.int .i64 4096)), ix := 21 },
    { dst := some 41, op := .bin .sub (.t 24) (.t 40), ix := 22 },
    { dst := some 5, op := .move (.t 41), ix := 23 }] false [0, 5, 7, 11, 12] [7]) (.seq (.region [
    { dst := some 42, op := .move (.t 5), ix := 0 },
    { dst := some 43, op := .bin .lss (.t 42) (.c (.int .i64 0)), ix := 1 }] false [0, 5, 7, 11, 12, 43] [7]) (.seq (.cond (.t 43) (.seq (.region [
    { dst := some 4, op := .move (.c (.bool false)), ix := 0 }] false [4] []) (.keep [4] [] .ret)) (.keep [0, 5, 7, 11, 12] [7] .skip)) (.keep [0, 5, 7, 11, 12] [7] (.seq (.region [
    { dst := some 44, op := .fieldAddr 8 (.t 7), ix := 0 },
    { dst := some 45, op := .load 1 false (.t 44), ix := 1 },
    { dst := some 46, op := .len 1 (.t 45), ix := 2 },
    { dst := some 47, op := .move (.c (.int .i64 0)), ix := 3 }] false [0, 5, 7, 11, 12, 46, 47] [7]) (.seq (.block 2 (.seq (.keep [0, 5, 7, 11, 12, 46, 47] [7] (.loop B7x1)) (.keep [0, 5, 11, 12] [] .skip))) (.keep [0, 5, 11, 12] [] .skip)))))))))) (.keep [0, 5, 11, 12] [] (.seq (.region [
    { dst := some 69, op := .bin .add (.t 12) (.c (.int .i64 1)), ix := 0 },
    { dst := some 12, op := .move (.t 69), ix := 1 }] false [0, 5, 11, 12] []) (.keep [0, 5, 11, 12] [] .skip)))))))
def F7 : LFunc := { nparams := 2, results := [.tmp 4], pure := true, body :=
  (.seq (.region [
    { dst := some 4, op := .move (.c (.bool false)), ix := 0 }] false [0, 1] []) (.seq (.region [
    { dst := some 9, op := .move (.t 1), ix := 0 },
    { dst := some 5, op := .move (.t 9), ix := 1 }] false [0, 5] []) (.seq (.region [
    { dst := some 10, op := .move (.t 0), ix := 0 },
    { dst := some 11, op := .len 1 (.t 10), ix := 1 },
    { dst := some 12, op := .move (.c (.int .i64 0)), ix := 2 }] false [0, 5, 11, 12] []) (.seq (.block 0 (.seq (.keep [0, 5, 11, 12] [] (.loop B7x0)) (.keep [5] [] .skip))) (.keep [5] [] (.seq (.region [
    { dst := some 70, op := .move (.t 5), ix := 0 },
    { dst := some 71, op := .bin .geq (.t 70) (.c (.int .i64 0)), ix := 1 },
    { dst := some 4, op := .move (.t 71), ix := 2 }] false [4] []) (.keep [4] [] .ret))))))) }
theorem ok7 : fnSoundB Go.Proofs.Try.prog 7 F7 = true := by decide +kernel
/- tendril/tendrillaw20.same -/
def F8 : LFunc := { nparams := 0, results := [.tmp 0], pure := true, body :=
  (.seq (.region [
    { dst := some 0, op := .move (.c (.bool false)), ix := 0 }] false [] []) (.seq (.region [
    { dst := some 9, op := .call 10 [(.c (.int .i64 5), .as)], ix := 0 },
    { dst := some 1, op := .move (.t 9), ix := 1 }] false [1] []) (.seq (.region [
    { dst := some 11, op := .move (.t 1), ix := 0 },
    { dst := some 12, op := .call 22 [(.t 11, .as), (.c (.str [112]), .as), (.c (.str []), .as), (.c (.str []), .as), (.c (.list []), .as)], ix := 1 },
    { dst := some 10, op := .move (.t 12), ix := 2 },
    { dst := some 13, op := .extract (.t 10) 0, ix := 3 },
    { dst := some 14, op := .extract (.t 10) 1, ix := 4 },
    { dst := some 2, op := .move (.t 13), ix := 5 },
    { dst := some 3, op := .move (.t 14), ix := 6 }] false [1, 2, 3] []) (.seq (.region [
    { dst := some 16, op := .move (.t 1), ix := 0 },
    { dst := some 17, op := .build [.p (.str []), .p (.str [])] [(0, 1, .c (.str [97])), (1, 1, .c (.str [49]))], ix := 1 },
    { dst := some 18, op := .row 2 [.t 17], ix := 2 },
    { dst := some 19, op := .call 22 [(.t 16, .as), (.c (.str [98]), .as), (.c (.str [107]), .as), (.c (.str [120]), .as), (.t 18, .freeze)], ix := 3 },
    { dst := some 15, op := .move (.t 19), ix := 4 },
    { dst := some 20, op := .extract (.t 15) 0, ix := 5 },
    { dst := some 21, op := .extract (.t 15) 1, ix := 6 },
    { dst := some 4, op := .move (.t 20), ix := 7 },
    { dst := some 5, op := .move (.t 21), ix := 8 }] false [1, 2, 3, 4, 5] []) (.seq (.region [
    { dst := some 22, op := .move (.t 1), ix := 0 },
    { dst := some 23, op := .move (.t 2), ix := 1 },
    { dst := some 24, op := .call 23 [(.t 22, .as), (.t 23, .as), (.c (.int .i64 0), .as), (.c (.int .i64 0), .as)], ix := 2 },
    { dst := some 6, op := .move (.t 24), ix := 3 }] false [1, 2, 3, 4, 5, 6] []) (.seq (.region [
    { dst := some 25, op := .move (.t 1), ix := 0 },
    { dst := some 26, op := .move (.t 4), ix := 1 },
    { dst := some 27, op := .move (.t 2), ix := 2 },
    { dst := some 28, op := .call 23 [(.t 25, .as), (.t 26, .as), (.t 27, .as), (.c (.int .i64 0), .as)], ix := 3 },
    { dst := some 7, op := .move (.t 28), ix := 4 }] false [1, 2, 3, 4, 5, 6, 7] []) (.seq (.region [
    { dst := some 29, op := .move (.t 1), ix := 0 },
    { dst := some 30, op := .call 24 [(.t 29, .as)], ix := 1 },
    { dst := some 8, op := .move (.t 30), ix := 2 }] false [1, 2, 3, 4, 5, 6, 7, 8] []) (.seq (.region [
    { dst := some 31, op := .move (.t 3), ix := 0 },
    { dst := some 32, op := .eq .i false (.t 31) (.c (.int .i64 0)), ix := 1 },
    { dst := some 33, op := .move (.t 32), ix := 2 },
    { dst := some 34, op := .move (.t 5), guard := some (33, true), ix := 3 },
    { dst := some 35, op := .eq .i false (.t 34) (.c (.int .i64 0)), guard := some (33, true), ix := 4 },
    { dst := some 36, op := .pick (.t 33) (.t 35) (.c (.bool false)), ix := 5 },
    { dst := some 37, op := .move (.t 36), ix := 6 },
    { dst := some 38, op := .move (.t 6), guard := some (37, true), ix := 7 },
    { dst := some 39, op := .eq .i false (.t 38) (.c (.int .i64 0)), guard := some (37, true), ix := 8 },
    { dst := some 40, op := .pick (.t 37) (.t 39) (.c (.bool false)), ix := 9 },
    { dst := some 41, op := .move (.t 40), ix := 10 },
    { dst := some 42, op := .move (.t 7), guard := some (41, true), ix := 11 },
    { dst := some 43, op := .eq .i false (.t 42) (.c (.int .i64 0)), guard := some (41, true), ix := 12 },
    { dst := some 44, op := .pick (.t 41) (.t 43) (.c (.bool false)), ix := 13 },
    { dst := some 45, op := .move (.t 44), ix := 14 },
    { dst := some 46, op := .move (.t 2), guard := some (45, true), ix := 15 },
    { dst := some 47, op := .eq .i false (.t 46) (.c (.int .i64 5)), guard := some (45, true), ix := 16 },
    { dst := some 48, op := .pick (.t 45) (.t 47) (.c (.bool false)), ix := 17 },
    { dst := some 49, op := .move (.t 48), ix := 18 },
    { dst := some 50, op := .move (.t 4), guard := some (49, true), ix := 19 },
    { dst := some 51, op := .eq .i false (.t 50) (.c (.int .i64 6)), guard := some (49, true), ix := 20 },
    { dst := some 52, op := .pick (.t 49) (.t 51) (.c (.bool false)), ix := 21 },
    { dst := some 53, op := .move (.t 52), ix := 22 },
    { dst := some 54, op := .move (.t 8), guard := some (53, true), ix := 23 },
    { dst := some 55, op := .len 1 (.t 54), guard := some (53, true), ix := 24 },
    { dst := some 56, op := .eq .i false (.t 55) (.c (.int .i64 2)), guard := some (53, true), ix := 25 },
    { dst := some 57, op := .pick (.t 53) (.t 56) (.c (.bool false)), ix := 26 },
    { dst := some 58, op := .move (.t 57), ix := 27 },
    { dst := some 59, op := .move (.t 8), guard := some (58, true), ix := 28 },
    { dst := some 60, op := .indexAddr 6 (.t 59) (.c (.int .i64 1)), guard := some (58, true), ix := 29 },
    { dst := some 61, op := .fieldAddr 0 (.t 60), guard := some (58, true), ix := 30 },
    { dst := some 62, op := .load 1 false (.t 61), guard := some (58, true), ix := 31 },
    { dst := some 63, op := .eq .i false (.t 62) (.c (.int .i64 6)), guard := some (58, true), ix := 32 },
    { dst := some 64, op := .pick (.t 58) (.t 63) (.c (.bool false)), ix := 33 },
    { dst := some 65, op := .move (.t 64), ix := 34 },
    { dst := some 66, op := .move (.t 8), guard := some (65, true), ix := 35 },
    { dst := some 67, op := .indexAddr 6 (.t 66) (.c (.int .i64 1)), guard := some (65, true), ix := 36 },
    { dst := some 68, op := .fieldAddr 1 (.t 67), guard := some (65, true), ix := 37 },
    { dst := some 69, op := .load 1 false (.t 68), guard := some (65, true), ix := 38 },
    { dst := some 70, op := .eq .i false (.t 69) (.c (.int .i64 1)), guard := some (65, true), ix := 39 },
    { dst := some 71, op := .pick (.t 65) (.t 70) (.c (.bool false)), ix := 40 },
    { dst := some 72, op := .move (.t 71), ix := 41 },
    { dst := some 73, op := .move (.t 8), guard := some (72, true), ix := 42 },
    { dst := some 74, op := .indexAddr 6 (.t 73) (.c (.int .i64 1)), guard := some (72, true), ix := 43 },
    { dst := some 75, op := .fieldAddr 3 (.t 74), guard := some (72, true), ix := 44 },
    { dst := some 76, op := .load 1 false (.t 75), guard := some (72, true), ix := 45 },
    { dst := some 77, op := .eq .s false (.t 76) (.c (.str [107])), guard := some (72, true), ix := 46 },
    { dst := some 78, op := .pick (.t 72) (.t 77) (.c (.bool false)), ix := 47 },
    { dst := some 79, op := .move (.t 78), ix := 48 },
    { dst := some 80, op := .move (.t 1), guard := some (79, true), ix := 49 },
    { dst := some 81, op := .call 12 [(.t 80, .as)], guard := some (79, true), ix := 50 },
    { dst := some 82, op := .eq .i false (.t 81) (.c (.int .i64 7)), guard := some (79, true), ix := 51 },
    { dst := some 83, op := .pick (.t 79) (.t 82) (.c (.bool false)), ix := 52 },
    { dst := some 0, op := .move (.t 83), ix := 53 }] false [0] []) (.keep [0] [] .ret))))))))) }
theorem ok8 : fnSoundB Go.Proofs.Try.prog 8 F8 = true := by decide +kernel
/- tendril/tendrillaw20.do -/
def F9 : LFunc := { nparams := 2, results := [.tmp 4, .tmp 5], pure := false, body :=
  (.seq (.region [
    { dst := some 3, op := .box false 3 (.t 1), ix := 0 },
    { dst := some 4, op := .move (.c (.int .i64 0)), ix := 1 },
    { dst := some 5, op := .move (.c (.int .i64 0)), ix := 2 }] false [0, 3] [3]) (.seq (.region [
    { dst := some 6, op := .move (.c (.int .i64 0)), ix := 0 }] false [0, 3, 6] [3]) (.seq (.region [
    { dst := some 9, op := .fieldAddr 0 (.t 3), ix := 0 },
    { dst := some 10, op := .load 1 false (.t 9), ix := 1 }] false [0, 3, 6, 10] [3]) (.seq (.block 0 (.seq (.region [
    { dst := some 12, op := .eq .i false (.t 10) (.c (.int .i64 1)), ix := 0 },
    { dst := some 11, op := .move (.t 12), ix := 1 }] false [0, 3, 6, 10, 11] [3]) (.seq (.cond (.t 11) (.seq (.region [
    { dst := some 14, op := .move (.t 0), ix := 0 },
    { dst := some 15, op := .fieldAddr 4 (.t 3), ix := 1 },
    { dst := some 16, op := .load 1 false (.t 15), ix := 2 },
    { dst := some 17, op := .fieldAddr 5 (.t 3), ix := 3 },
    { dst := some 18, op := .load 1 false (.t 17), ix := 4 },
    { dst := some 19, op := .fieldAddr 7 (.t 3), ix := 5 },
    { dst := some 20, op := .load 1 false (.t 19), ix := 6 },
    { dst := some 21, op := .fieldAddr 8 (.t 3), ix := 7 },
    { dst := some 22, op := .load 1 false (.t 21), ix := 8 },
    { dst := some 23, op := .call 22 [(.t 14, .as), (.t 16, .as), (.t 18, .as), (.t 20, .as), (.t 22, .as)], ix := 9 },
    { dst := some 13, op := .move (.t 23), ix := 10 },
    { dst := some 24, op := .extract (.t 13) 0, ix := 11 },
    { dst := some 25, op := .extract (.t 13) 1, ix := 12 },
    { dst := some 7, op := .move (.t 24), ix := 13 },
    { dst := some 8, op := .move (.t 25), ix := 14 }] false [7, 8] []) (.seq (.region [
    { dst := some 26, op := .move (.t 7), ix := 0 },
    { dst := some 27, op := .move (.t 8), ix := 1 },
    { dst := some 4, op := .move (.t 26), ix := 2 },
    { dst := some 5, op := .move (.t 27), ix := 3 }] false [4, 5] []) (.keep [4, 5] [] .ret))) (.seq (.region [
    { dst := some 29, op := .eq .i false (.t 10) (.c (.int .i64 2)), ix := 0 },
    { dst := some 28, op := .move (.t 29), ix := 1 }] false [0, 3, 6, 10, 28] [3]) (.seq (.cond (.t 28) (.seq (.region [
    { dst := some 30, op := .move (.t 0), ix := 0 },
    { dst := some 31, op := .fieldAddr 1 (.t 3), ix := 1 },
    { dst := some 32, op := .load 1 false (.t 31), ix := 2 },
    { dst := some 33, op := .fieldAddr 2 (.t 3), ix := 3 },
    { dst := some 34, op := .load 1 false (.t 33), ix := 4 },
    { dst := some 35, op := .fieldAddr 3 (.t 3), ix := 5 },
    { dst := some 36, op := .load 1 false (.t 35), ix := 6 },
    { dst := some 37, op := .call 23 [(.t 30, .as), (.t 32, .as), (.t 34, .as), (.t 36, .as)], ix := 7 },
    { dst := some 6, op := .move (.t 37), ix := 8 }] false [6] []) (.keep [6] [] .skip)) (.seq (.region [
    { dst := some 39, op := .eq .i false (.t 10) (.c (.int .i64 3)), ix := 0 },
    { dst := some 38, op := .move (.t 39), ix := 1 }] false [0, 3, 6, 10, 38] [3]) (.seq (.cond (.t 38) (.seq (.region [
    { dst := some 40, op := .move (.t 0), ix := 0 },
    { dst := some 41, op := .fieldAddr 1 (.t 3), ix := 1 },
    { dst := some 42, op := .load 1 false (.t 41), ix := 2 },
    { dst := some 43, op := .fieldAddr 3 (.t 3), ix := 3 },
    { dst := some 44, op := .load 1 false (.t 43), ix := 4 },
    { dst := some 45, op := .call 25 [(.t 40, .as), (.t 42, .as), (.t 44, .as)], ix := 5 },
    { dst := some 6, op := .move (.t 45), ix := 6 }] false [6] []) (.keep [6] [] .skip)) (.seq (.region [
    { dst := some 47, op := .eq .i false (.t 10) (.c (.int .i64 4)), ix := 0 },
    { dst := some 46, op := .move (.t 47), ix := 1 }] false [0, 3, 6, 10, 46] [3]) (.seq (.cond (.t 46) (.seq (.region [
    { dst := some 48, op := .move (.t 0), ix := 0 },
    { dst := some 49, op := .fieldAddr 1 (.t 3), ix := 1 },
    { dst := some 50, op := .load 1 false (.t 49), ix := 2 },
    { dst := some 51, op := .call 26 [(.t 48, .as), (.t 50, .as)], ix := 3 },
    { dst := some 6, op := .move (.t 51), ix := 4 }] false [6] []) (.keep [6] [] .skip)) (.seq (.region [
    { dst := some 53, op := .eq .i false (.t 10) (.c (.int .i64 5)), ix := 0 },
    { dst := some 52, op := .move (.t 53), ix := 1 }] false [0, 3, 6, 10, 52] [3]) (.seq (.cond (.t 52) (.seq (.region [
    { dst := some 54, op := .move (.t 0), ix := 0 },
    { dst := some 55, op := .fieldAddr 1 (.t 3), ix := 1 },
    { dst := some 56, op := .load 1 false (.t 55), ix := 2 },
    { dst := some 57, op := .fieldAddr 6 (.t 3), ix := 3 },
    { dst := some 58, op := .load 1 false (.t 57), ix := 4 },
    { dst := some 59, op := .fieldAddr 7 (.t 3), ix := 5 },
    { dst := some 60, op := .load 1 false (.t 59), ix := 6 },
    { dst := some 61, op := .call 27 [(.t 54, .as), (.t 56, .as), (.t 58, .as), (.t 60, .as)], ix := 7 },
    { dst := some 6, op := .move (.t 61), ix := 8 }] false [6] []) (.keep [6] [] .skip)) (.seq (.region [
    { dst := some 63, op := .eq .i false (.t 10) (.c (.int .i64 6)), ix := 0 },
    { dst := some 62, op := .move (.t 63), ix := 1 }] false [0, 3, 6, 10, 62] [3]) (.seq (.cond (.t 62) (.seq (.region [
    { dst := some 64, op := .move (.t 0), ix := 0 },
    { dst := some 65, op := .fieldAddr 1 (.t 3), ix := 1 },
    { dst := some 66, op := .load 1 false (.t 65), ix := 2 },
    { dst := some 67, op := .fieldAddr 6 (.t 3), ix := 3 },
    { dst := some 68, op := .load 1 false (.t 67), ix := 4 },
    { dst := some 69, op := .call 28 [(.t 64, .as), (.t 66, .as), (.t 68, .as)], ix := 5 },
    { dst := some 6, op := .move (.t 69), ix := 6 }] false [6] []) (.keep [6] [] .skip)) (.seq (.region [
    { dst := some 71, op := .eq .i false (.t 10) (.c (.int .i64 7)), ix := 0 },
    { dst := some 70, op := .move (.t 71), ix := 1 }] false [0, 3, 6, 70] [3]) (.seq (.cond (.t 70) (.seq (.region [
    { dst := some 72, op := .move (.t 0), ix := 0 },
    { dst := some 73, op := .fieldAddr 1 (.t 3), ix := 1 },
    { dst := some 74, op := .load 1 false (.t 73), ix := 2 },
    { dst := some 75, op := .fieldAddr 7 (.t 3), ix := 3 },
    { dst := some 76, op := .load 1 false (.t 75), ix := 4 },
    { dst := some 77, op := .call 29 [(.t 72, .as), (.t 74, .as), (.t 76, .as)], ix := 5 },
    { dst := some 6, op := .move (.t 77), ix := 6 }] false [6] []) (.keep [6] [] .skip)) (.keep [6] [] .skip)) (.keep [6] [] .skip)))) (.keep [6] [] .skip)))) (.keep [6] [] .skip)))) (.keep [6] [] .skip)))) (.keep [6] [] .skip)))) (.keep [6] [] .skip)))) (.keep [6] [] .skip)))) (.keep [6] [] (.seq (.region [
    { dst := some 78, op := .move (.t 6), ix := 0 },
    { dst := some 4, op := .move (.c (.int .i64 0)), ix := 1 },
    { dst := some 5, op := .move (.t 78), ix := 2 }] false [4, 5] []) (.keep [4, 5] [] .ret))))))) }
theorem ok9 : fnSoundB Go.Proofs.Try.prog 9 F9 = true := by decide +kernel
/- tendril/dom.New -/
def F10 : LFunc := { nparams := 1, results := [.tmp 2], pure := false, body :=
  (.seq (.region [
    { dst := some 2, op := .move (.c (.nilp)), ix := 0 }] false [0] []) (.seq (.region [
    { dst := some 3, op := .move (.t 0), ix := 0 },
    { dst := some 4, op := .bin .lss (.t 3) (.c (.int .i64 1)), ix := 1 },
    { dst := some 5, op := .move (.t 4), ix := 2 },
    { dst := some 6, op := .move (.t 0), guard := some (5, false), ix := 3 },
    { dst := some 7, op := .bin .gtr (.t 6) (.c (.int .i64 4294967296)), guard := some (5, false), ix := 4 },
    { dst := some 8, op := .pick (.t 5) (.c (.bool true)) (.t 7), ix := 5 }] false [0, 8] []) (.seq (.cond (.t 8) (.seq (.region [
    { dst := some 2, op := .move (.c (.nilp)), ix := 0 }] false [2] []) (.keep [2] [] .ret)) (.keep [0] [] .skip)) (.keep [0] [] (.seq (.region [
    { dst := some 9, op := .makeMap true 9, ix := 0 },
    { dst := some 10, op := .call 30 [(.c (.int .i64 0), .as)], ix := 1 },
    { dst := some 11, op := .build [.p (.nilp), .p (.str []), .p (.str []), .p (.str []), .p (.list [])] [(0, 1, .t 10)], ix := 2 },
    { dst := some 12, op := .box true 12 (.t 11), ix := 3 },
    { dst := none, op := .mapUpdate 1 (.t 9) (.c (.int .i64 0)) (.t 12), ix := 4 },
    { dst := some 13, op := .move (.t 9), ix := 5 },
    { dst := some 14, op := .move (.t 0), ix := 6 },
    { dst := some 15, op := .build [.p (.nilm), .p (.int .i64 0)] [(0, 1, .t 13), (1, 1, .t 14)], ix := 7 },
    { dst := some 16, op := .box true 16 (.t 15), ix := 8 },
    { dst := some 2, op := .move (.t 16), ix := 9 }] false [2] []) (.keep [2] [] .ret)))))) }
theorem ok10 : fnSoundB Go.Proofs.Try.prog 10 F10 = true := by decide +kernel
/- (tendril/dom.Document).Next -/
def F12 : LFunc := { nparams := 1, results := [.tmp 2], pure := false, body :=
  (.seq (.region [
    { dst := some 2, op := .move (.c (.int .i64 0)), ix := 0 }] false [0] []) (.seq (.region [
    { dst := some 3, op := .move (.t 0), ix := 0 },
    { dst := some 4, op := .eq .ptr false (.t 3) (.c (.nilp)), ix := 1 }] false [0, 4] []) (.seq (.cond (.t 4) (.seq (.region [
    { dst := some 2, op := .move (.c (.int .i64 0)), ix := 0 }] false [2] []) (.keep [2] [] .ret)) (.keep [0] [] .skip)) (.keep [0] [] (.seq (.region [
    { dst := some 5, op := .move (.t 0), ix := 0 },
    { dst := some 6, op := .nilCheck (.t 5), ix := 1 },
    { dst := some 7, op := .fieldAddr 1 (.t 6), ix := 2 },
    { dst := some 8, op := .load 1 false (.t 7), ix := 3 },
    { dst := some 2, op := .move (.t 8), ix := 4 }] false [2] []) (.keep [2] [] .ret)))))) }
theorem ok12 : fnSoundB Go.Proofs.Try.prog 12 F12 = true := by decide +kernel
/- (tendril/dom.Document).Create -/
def F22 : LFunc := { nparams := 5, results := [.tmp 10, .tmp 11], pure := false, body :=
  (.seq (.region [
    { dst := some 10, op := .move (.c (.int .i64 0)), ix := 0 },
    { dst := some 11, op := .move (.c (.int .i64 0)), ix := 1 }] false [0, 1, 2, 3, 4] []) (.seq (.block 0 (.seq (.region [
    { dst := some 16, op := .move (.t 0), ix := 0 },
    { dst := some 17, op := .eq .ptr false (.t 16) (.c (.nilp)), ix := 1 },
    { dst := some 15, op := .move (.t 17), ix := 2 }] false [0, 1, 2, 3, 4, 15] []) (.seq (.cond (.t 15) (.seq (.region [
    { dst := some 10, op := .move (.c (.int .i64 0)), ix := 0 },
    { dst := some 11, op := .move (.c (.int .i64 1)), ix := 1 }] false [10, 11] []) (.keep [10, 11] [] .ret)) (.seq (.region [
    { dst := some 19, op := .move (.t 1), ix := 0 },
    { dst := some 20, op := .pcall 45 [(.t 19, .as)], ix := 1 },
    { dst := some 21, op := .un .not (.t 20), ix := 2 },
    { dst := some 18, op := .move (.t 21), ix := 3 }] false [0, 1, 2, 3, 4, 18] []) (.seq (.cond (.t 18) (.seq (.region [
    { dst := some 10, op := .move (.c (.int .i64 0)), ix := 0 },
    { dst := some 11, op := .move (.c (.int .i64 7)), ix := 1 }] false [10, 11] []) (.keep [10, 11] [] .ret)) (.seq (.region [
    { dst := some 23, op := .move (.t 2), ix := 0 },
    { dst := some 24, op := .pcall 46 [(.t 23, .as)], ix := 1 },
    { dst := some 25, op := .un .not (.t 24), ix := 2 },
    { dst := some 26, op := .move (.t 25), ix := 3 },
    { dst := some 27, op := .move (.t 3), guard := some (26, false), ix := 4 },
    { dst := some 28, op := .pcall 46 [(.t 27, .as)], guard := some (26, false), ix := 5 },
    { dst := some 29, op := .un .not (.t 28), guard := some (26, false), ix := 6 },
    { dst := some 30, op := .pick (.t 26) (.c (.bool true)) (.t 29), ix := 7 },
    { dst := some 22, op := .move (.t 30), ix := 8 }] false [0, 1, 2, 3, 4, 22] []) (.seq (.cond (.t 22) (.seq (.region [
    { dst := some 10, op := .move (.c (.int .i64 0)), ix := 0 },
    { dst := some 11, op := .move (.c (.int .i64 3)), ix := 1 }] false [10, 11] []) (.keep [10, 11] [] .ret)) (.keep [0, 1, 2, 3, 4] [] .skip)) (.keep [0, 1, 2, 3, 4] [] .skip)))) (.keep [0, 1, 2, 3, 4] [] .skip)))) (.keep [0, 1, 2, 3, 4] [] .skip)))) (.keep [0, 1, 2, 3, 4] [] (.seq (.region [
    { dst := some 32, op := .move (.t 4), ix := 0 },
    { dst := some 33, op := .pcall 47 [(.t 32, .as)], ix := 1 },
    { dst := some 31, op := .move (.t 33), ix := 2 },
    { dst := some 34, op := .extract (.t 31) 0, ix := 3 },
    { dst := some 35, op := .extract (.t 31) 1, ix := 4 },
    { dst := some 12, op := .move (.t 34), ix := 5 },
    { dst := some 13, op := .move (.t 35), ix := 6 }] false [0, 1, 2, 3, 4, 13] []) (.seq (.region [
    { dst := some 36, op := .move (.t 13), ix := 0 },
    { dst := some 37, op := .eq .i true (.t 36) (.c (.int .i64 0)), ix := 1 }] false [0, 1, 2, 3, 4, 13, 37] []) (.seq (.cond (.t 37) (.seq (.region [
    { dst := some 38, op := .move (.t 13), ix := 0 },
    { dst := some 10, op := .move (.c (.int .i64 0)), ix := 1 },
    { dst := some 11, op := .move (.t 38), ix := 2 }] false [10, 11] []) (.keep [10, 11] [] .ret)) (.keep [0, 1, 2, 3, 4] [] .skip)) (.keep [0, 1, 2, 3, 4] [] (.seq (.region [
    { dst := some 39, op := .move (.t 0), ix := 0 },
    { dst := some 40, op := .nilCheck (.t 39), ix := 1 },
    { dst := some 41, op := .fieldAddr 1 (.t 40), ix := 2 },
    { dst := some 42, op := .load 1 false (.t 41), ix := 3 },
    { dst := some 43, op := .bin .gtr (.t 42) (.c (.int .i64 4294967295)), ix := 4 }] false [0, 1, 2, 3, 4, 43] []) (.seq (.cond (.t 43) (.seq (.region [
    { dst := some 10, op := .move (.c (.int .i64 0)), ix := 0 },
    { dst := some 11, op := .move (.c (.int .i64 21)), ix := 1 }] false [10, 11] []) (.keep [10, 11] [] .ret)) (.keep [0, 1, 2, 3, 4] [] .skip)) (.keep [0, 1, 2, 3, 4] [] (.seq (.region [
    { dst := some 44, op := .move (.t 0), ix := 0 },
    { dst := some 45, op := .nilCheck (.t 44), ix := 1 },
    { dst := some 46, op := .fieldAddr 1 (.t 45), ix := 2 },
    { dst := some 47, op := .load 1 false (.t 46), ix := 3 },
    { dst := some 14, op := .move (.t 47), ix := 4 }] false [0, 1, 2, 3, 4, 14] []) (.seq (.region [
    { dst := some 48, op := .move (.t 0), ix := 0 },
    { dst := some 49, op := .nilCheck (.t 48), ix := 1 },
    { dst := some 50, op := .fieldAddr 1 (.t 49), ix := 2 },
    { dst := some 51, op := .load 1 false (.t 50), ix := 3 },
    { dst := some 52, op := .bin .add (.t 51) (.c (.int .i64 1)), ix := 4 },
    { dst := some 53, op := .nilCheck (.t 48), ix := 5 },
    { dst := some 54, op := .fieldAddr 1 (.t 53), ix := 6 },
    { dst := none, op := .store 1 false (.t 54) (.t 52), ix := 7 }] false [0, 1, 2, 3, 4, 14] []) (.seq (.draw [
    { dst := some 55, op := .move (.t 0), ix := 0 },
    { dst := some 56, op := .nilCheck (.t 55), ix := 1 },
    { dst := some 57, op := .fieldAddr 0 (.t 56), ix := 2 },
    { dst := some 58, op := .load 1 false (.t 57), ix := 3 },
    { dst := some 59, op := .move (.t 14), ix := 4 },
    { dst := some 60, op := .move (.t 14), ix := 5 },
    { dst := some 62, op := .move (.t 1), ix := 7 },
    { dst := some 63, op := .move (.t 2), ix := 8 },
    { dst := some 64, op := .move (.t 3), ix := 9 },
    { dst := some 65, op := .move (.t 4), ix := 10 },
    { dst := some 61, op := .call 30 [(.t 60, .as)], ix := 6, again := [3] },
    { dst := some 66, op := .pcall 48 [(.t 65, .as)], ix := 11 },
    { dst := some 67, op := .build [.p (.nilp), .p (.str []), .p (.str []), .p (.str []), .p (.list [])] [(0, 1, .t 61), (1, 1, .t 62), (2, 1, .t 63), (3, 1, .t 64), (4, 1, .t 66)], ix := 12 },
    { dst := some 68, op := .box true 68 (.t 67), ix := 13, again := [3] },
    { dst := none, op := .mapUpdate 1 (.t 58) (.t 59) (.t 68), ix := 14 }] [14] []) (.seq (.region [
    { dst := some 69, op := .move (.t 14), ix := 0 },
    { dst := some 10, op := .move (.t 69), ix := 1 },
    { dst := some 11, op := .move (.c (.int .i64 0)), ix := 2 }] false [10, 11] []) (.keep [10, 11] [] .ret))))))))))))))) }
theorem ok22 : fnSoundB Go.Proofs.Try.prog 22 F22 = true := by decide +kernel
/- (tendril/dom.Document).Insert -/
def F23 : LFunc := { nparams := 4, results := [.tmp 8], pure := false, body :=
  (.seq (.region [
    { dst := some 8, op := .move (.c (.int .i64 0)), ix := 0 }] false [0, 1, 2, 3] []) (.seq (.region [
    { dst := some 14, op := .move (.t 0), ix := 0 },
    { dst := some 15, op := .move (.t 1), ix := 1 },
    { dst := some 16, op := .call 49 [(.t 14, .as), (.t 15, .as)], ix := 2 },
    { dst := some 13, op := .move (.t 16), ix := 3 },
    { dst := some 17, op := .extract (.t 13) 0, ix := 4 },
    { dst := some 18, op := .extract (.t 13) 1, ix := 5 },
    { dst := some 9, op := .move (.t 17), ix := 6 },
    { dst := some 10, op := .move (.t 18), ix := 7 }] false [0, 2, 3, 9, 10] []) (.seq (.region [
    { dst := some 19, op := .move (.t 10), ix := 0 },
    { dst := some 20, op := .eq .i true (.t 19) (.c (.int .i64 0)), ix := 1 }] false [0, 2, 3, 9, 10, 20] []) (.seq (.cond (.t 20) (.seq (.region [
    { dst := some 21, op := .move (.t 10), ix := 0 },
    { dst := some 8, op := .move (.t 21), ix := 1 }] false [8] []) (.keep [8] [] .ret)) (.keep [0, 2, 3, 9] [] .skip)) (.keep [0, 2, 3, 9] [] (.seq (.region [
    { dst := some 23, op := .move (.t 0), ix := 0 },
    { dst := some 24, op := .move (.t 3), ix := 1 },
    { dst := some 25, op := .call 50 [(.t 23, .as), (.t 24, .as)], ix := 2 },
    { dst := some 22, op := .move (.t 25), ix := 3 },
    { dst := some 26, op := .extract (.t 22) 0, ix := 4 },
    { dst := some 27, op := .extract (.t 22) 1, ix := 5 },
    { dst := some 11, op := .move (.t 26), ix := 6 },
    { dst := some 10, op := .move (.t 27), ix := 7 }] false [0, 2, 9, 10, 11] []) (.seq (.region [
    { dst := some 28, op := .move (.t 0), ix := 0 },
    { dst := some 29, op := .nilCheck (.t 28), ix := 1 },
    { dst := some 30, op := .fieldAddr 0 (.t 29), ix := 2 },
    { dst := some 31, op := .load 1 false (.t 30), ix := 3 },
    { dst := some 32, op := .move (.t 2), ix := 4 },
    { dst := some 33, op := .lookup 1 (.nilp) false (.t 31) (.t 32), ix := 5 },
    { dst := some 12, op := .move (.t 33), ix := 6 }] false [9, 10, 11, 12] []) (.seq (.region [
    { dst := some 34, op := .move (.t 10), ix := 0 },
    { dst := some 35, op := .eq .i true (.t 34) (.c (.int .i64 0)), ix := 1 },
    { dst := some 36, op := .move (.t 35), ix := 2 },
    { dst := some 37, op := .move (.t 12), guard := some (36, false), ix := 3 },
    { dst := some 38, op := .eq .ptr false (.t 37) (.c (.nilp)), guard := some (36, false), ix := 4 },
    { dst := some 39, op := .pick (.t 36) (.c (.bool true)) (.t 38), ix := 5 }] false [9, 11, 12, 39] []) (.seq (.cond (.t 39) (.seq (.region [
    { dst := some 8, op := .move (.c (.int .i64 13)), ix := 0 }] false [8] []) (.keep [8] [] .ret)) (.keep [9, 11, 12] [] .skip)) (.keep [9, 11, 12] [] (.seq (.draw [
    { dst := some 40, op := .move (.t 12), ix := 0 },
    { dst := some 41, op := .nilCheck (.t 40), ix := 1 },
    { dst := some 42, op := .fieldAddr 0 (.t 41), ix := 2 },
    { dst := some 43, op := .load 1 false (.t 42), ix := 3 },
    { dst := some 44, op := .move (.t 9), ix := 4 },
    { dst := some 45, op := .nilCheck (.t 44), ix := 5 },
    { dst := some 46, op := .fieldAddr 0 (.t 45), ix := 6 },
    { dst := some 47, op := .load 1 false (.t 46), ix := 7 },
    { dst := some 48, op := .move (.t 11), ix := 8 },
    { dst := some 49, op := .call 51 [(.t 43, .as), (.t 47, .as), (.t 48, .as)], ix := 9 },
    { dst := some 8, op := .move (.t 49), ix := 10 }] [8] []) (.keep [8] [] .ret)))))))))))) }
theorem ok23 : fnSoundB Go.Proofs.Try.prog 23 F23 = true := by decide +kernel
/- (tendril/dom.Document).Read -/
def F24 : LFunc := { nparams := 1, results := [.tmp 2], pure := false, body :=
  (.seq (.region [
    { dst := some 1, op := .box true 1 (.t 0), ix := 0 },
    { dst := some 2, op := .move (.c (.list [])), ix := 1 }] false [1] []) (.seq (.region [
    { dst := some 3, op := .alloc true 3 [.p (.list [])] [(0, 1000, 6)], ix := 0 }] false [1, 3] []) (.seq (.region [
    { dst := some 5, op := .load 1 false (.t 1), ix := 0 },
    { dst := some 6, op := .eq .ptr false (.t 5) (.c (.nilp)), ix := 1 }] false [1, 3, 6] []) (.seq (.cond (.t 6) (.seq (.region [
    { dst := some 7, op := .load 1 false (.t 3), ix := 0 },
    { dst := some 2, op := .move (.t 7), ix := 1 }] false [2] []) (.keep [2] [] .ret)) (.keep [1, 3] [] .skip)) (.keep [1, 3] [] (.seq (.region [
    { dst := some 4, op := .alloc true 4 [.p (.nilf)] [], ix := 0 }] false [1, 3, 4] []) (.seq (.region [
    { dst := some 8, op := .makeFunc 52 [.t 1, .t 3, .t 4], ix := 0 },
    { dst := none, op := .store 1 false (.t 4) (.t 8), ix := 1 }] false [1, 3, 4] []) (.seq (.draw [
    { dst := some 9, op := .load 1 false (.t 4), ix := 0 },
    { dst := some 10, op := .load 1 false (.t 1), ix := 1 },
    { dst := some 11, op := .nilCheck (.t 10), ix := 2 },
    { dst := some 12, op := .fieldAddr 0 (.t 11), ix := 3 },
    { dst := some 13, op := .load 1 false (.t 12), ix := 4 },
    { dst := some 14, op := .lookup 1 (.nilp) false (.t 13) (.c (.int .i64 0)), ix := 5 },
    { dst := some 15, op := .nilCheck (.t 14), ix := 6 },
    { dst := some 16, op := .fieldAddr 0 (.t 15), ix := 7 },
    { dst := some 17, op := .load 1 false (.t 16), ix := 8 },
    { dst := some 18, op := .callv (.t 9) [(.t 17, .as), (.c (.int .i64 0), .as)], ix := 9 }] [3] []) (.seq (.region [
    { dst := some 19, op := .load 1 false (.t 3), ix := 0 },
    { dst := some 2, op := .move (.t 19), ix := 1 }] false [2] []) (.keep [2] [] .ret)))))))))) }
theorem ok24 : fnSoundB Go.Proofs.Try.prog 24 F24 = true := by decide +kernel
/- (tendril/dom.Document).Move -/
def F25 : LFunc := { nparams := 3, results := [.tmp 6], pure := false, body :=
  (.seq (.region [
    { dst := some 6, op := .move (.c (.int .i64 0)), ix := 0 }] false [0, 1, 2] []) (.seq (.region [
    { dst := some 12, op := .move (.t 0), ix := 0 },
    { dst := some 13, op := .move (.t 1), ix := 1 },
    { dst := some 14, op := .call 49 [(.t 12, .as), (.t 13, .as)], ix := 2 },
    { dst := some 11, op := .move (.t 14), ix := 3 },
    { dst := some 15, op := .extract (.t 11) 0, ix := 4 },
    { dst := some 16, op := .extract (.t 11) 1, ix := 5 },
    { dst := some 7, op := .move (.t 15), ix := 6 },
    { dst := some 8, op := .move (.t 16), ix := 7 }] false [0, 2, 7, 8] []) (.seq (.region [
    { dst := some 17, op := .move (.t 8), ix := 0 },
    { dst := some 18, op := .eq .i true (.t 17) (.c (.int .i64 0)), ix := 1 }] false [0, 2, 7, 8, 18] []) (.seq (.cond (.t 18) (.seq (.region [
    { dst := some 19, op := .move (.t 8), ix := 0 },
    { dst := some 6, op := .move (.t 19), ix := 1 }] false [6] []) (.keep [6] [] .ret)) (.keep [0, 2, 7] [] .skip)) (.keep [0, 2, 7] [] (.seq (.region [
    { dst := some 21, op := .move (.t 0), ix := 0 },
    { dst := some 22, op := .move (.t 2), ix := 1 },
    { dst := some 23, op := .call 50 [(.t 21, .as), (.t 22, .as)], ix := 2 },
    { dst := some 20, op := .move (.t 23), ix := 3 },
    { dst := some 24, op := .extract (.t 20) 0, ix := 4 },
    { dst := some 25, op := .extract (.t 20) 1, ix := 5 },
    { dst := some 9, op := .move (.t 24), ix := 6 },
    { dst := some 8, op := .move (.t 25), ix := 7 }] false [7, 8, 9] []) (.seq (.region [
    { dst := some 26, op := .move (.t 7), ix := 0 },
    { dst := some 27, op := .nilCheck (.t 26), ix := 1 },
    { dst := some 28, op := .fieldAddr 0 (.t 27), ix := 2 },
    { dst := some 29, op := .load 1 false (.t 28), ix := 3 },
    { dst := some 30, op := .call 32 [(.t 29, .as)], ix := 4 },
    { dst := some 10, op := .move (.t 30), ix := 5 }] false [7, 8, 9, 10] []) (.seq (.block 0 (.seq (.region [
    { dst := some 32, op := .move (.t 8), ix := 0 },
    { dst := some 33, op := .eq .i true (.t 32) (.c (.int .i64 0)), ix := 1 },
    { dst := some 31, op := .move (.t 33), ix := 2 }] false [7, 9, 10, 31] []) (.seq (.cond (.t 31) (.seq (.region [
    { dst := some 6, op := .move (.c (.int .i64 13)), ix := 0 }] false [6] []) (.keep [6] [] .ret)) (.seq (.region [
    { dst := some 35, op := .move (.t 10), ix := 0 },
    { dst := some 36, op := .eq .ptr false (.t 35) (.c (.nilp)), ix := 1 },
    { dst := some 34, op := .move (.t 36), ix := 2 }] false [7, 9, 10, 34] []) (.seq (.cond (.t 34) (.seq (.region [
    { dst := some 6, op := .move (.c (.int .i64 16)), ix := 0 }] false [6] []) (.keep [6] [] .ret)) (.seq (.region [
    { dst := some 38, op := .move (.t 9), ix := 0 },
    { dst := some 39, op := .eq .ptr true (.t 38) (.c (.nilp)), ix := 1 },
    { dst := some 40, op := .move (.t 39), ix := 2 },
    { dst := some 41, op := .move (.t 9), guard := some (40, true), ix := 3 },
    { dst := some 42, op := .move (.t 7), guard := some (40, true), ix := 4 },
    { dst := some 43, op := .nilCheck (.t 42), guard := some (40, true), ix := 5 },
    { dst := some 44, op := .fieldAddr 0 (.t 43), guard := some (40, true), ix := 6 },
    { dst := some 45, op := .load 1 false (.t 44), guard := some (40, true), ix := 7 },
    { dst := some 46, op := .eq .ptr false (.t 41) (.t 45), guard := some (40, true), ix := 8 },
    { dst := some 47, op := .move (.t 46), guard := some (40, true), ix := 9 },
    { dst := some 48, op := .move (.t 9), guard := some (47, false), ix := 10 },
    { dst := some 49, op := .call 32 [(.t 48, .as)], guard := some (47, false), ix := 11 },
    { dst := some 50, op := .move (.t 10), guard := some (47, false), ix := 12 },
    { dst := some 51, op := .eq .ptr true (.t 49) (.t 50), guard := some (47, false), ix := 13 },
    { dst := some 52, op := .pick (.t 47) (.c (.bool true)) (.t 51), guard := some (40, true), ix := 14 },
    { dst := some 53, op := .pick (.t 40) (.t 52) (.c (.bool false)), ix := 15 },
    { dst := some 37, op := .move (.t 53), ix := 16 }] false [7, 9, 10, 37] []) (.seq (.cond (.t 37) (.seq (.region [
    { dst := some 6, op := .move (.c (.int .i64 18)), ix := 0 }] false [6] []) (.keep [6] [] .ret)) (.keep [7, 9, 10] [] .skip)) (.keep [7, 9, 10] [] .skip)))) (.keep [7, 9, 10] [] .skip)))) (.keep [7, 9, 10] [] .skip)))) (.keep [7, 9, 10] [] (.seq (.region [
    { dst := some 54, op := .move (.t 7), ix := 0 },
    { dst := some 55, op := .nilCheck (.t 54), ix := 1 },
    { dst := some 56, op := .fieldAddr 0 (.t 55), ix := 2 },
    { dst := some 57, op := .load 1 false (.t 56), ix := 3 },
    { dst := some 58, op := .call 54 [(.t 57, .as)], ix := 4 }] false [7, 9, 10] []) (.seq (.region [
    { dst := some 59, op := .move (.t 10), ix := 0 },
    { dst := some 60, op := .move (.t 7), ix := 1 },
    { dst := some 61, op := .nilCheck (.t 60), ix := 2 },
    { dst := some 62, op := .fieldAddr 0 (.t 61), ix := 3 },
    { dst := some 63, op := .load 1 false (.t 62), ix := 4 },
    { dst := some 64, op := .move (.t 9), ix := 5 },
    { dst := some 65, op := .call 51 [(.t 59, .as), (.t 63, .as), (.t 64, .as)], ix := 6 },
    { dst := some 6, op := .move (.t 65), ix := 7 }] false [6] []) (.keep [6] [] .ret)))))))))))) }
theorem ok25 : fnSoundB Go.Proofs.Try.prog 25 F25 = true := by decide +kernel
/- (tendril/dom.Document).Remove -/
def F26 : LFunc := { nparams := 2, results := [.tmp 4], pure := false, body :=
  (.seq (.region [
    { dst := some 2, op := .box true 2 (.t 0), ix := 0 },
    { dst := some 4, op := .move (.c (.int .i64 0)), ix := 1 }] false [1, 2] []) (.seq (.region [
    { dst := some 9, op := .load 1 false (.t 2), ix := 0 },
    { dst := some 10, op := .move (.t 1), ix := 1 },
    { dst := some 11, op := .call 49 [(.t 9, .as), (.t 10, .as)], ix := 2 },
    { dst := some 8, op := .move (.t 11), ix := 3 },
    { dst := some 12, op := .extract (.t 8) 0, ix := 4 },
    { dst := some 13, op := .extract (.t 8) 1, ix := 5 },
    { dst := some 5, op := .move (.t 12), ix := 6 },
    { dst := some 6, op := .move (.t 13), ix := 7 }] false [2, 5, 6] []) (.seq (.region [
    { dst := some 14, op := .move (.t 6), ix := 0 },
    { dst := some 15, op := .eq .i true (.t 14) (.c (.int .i64 0)), ix := 1 }] false [2, 5, 6, 15] []) (.seq (.cond (.t 15) (.seq (.region [
    { dst := some 16, op := .move (.t 6), ix := 0 },
    { dst := some 4, op := .move (.t 16), ix := 1 }] false [4] []) (.keep [4] [] .ret)) (.keep [2, 5] [] .skip)) (.keep [2, 5] [] (.seq (.region [
    { dst := some 17, op := .move (.t 5), ix := 0 },
    { dst := some 18, op := .nilCheck (.t 17), ix := 1 },
    { dst := some 19, op := .fieldAddr 0 (.t 18), ix := 2 },
    { dst := some 20, op := .load 1 false (.t 19), ix := 3 },
    { dst := some 21, op := .call 54 [(.t 20, .as)], ix := 4 }] false [2, 5] []) (.seq (.region [
    { dst := some 7, op := .alloc true 7 [.p (.nilf)] [], ix := 0 }] false [2, 5, 7] []) (.seq (.region [
    { dst := some 22, op := .makeFunc 55 [.t 2, .t 7], ix := 0 },
    { dst := none, op := .store 1 false (.t 7) (.t 22), ix := 1 }] false [5, 7] []) (.seq (.draw [
    { dst := some 23, op := .load 1 false (.t 7), ix := 0 },
    { dst := some 24, op := .move (.t 5), ix := 1 },
    { dst := some 25, op := .nilCheck (.t 24), ix := 2 },
    { dst := some 26, op := .fieldAddr 0 (.t 25), ix := 3 },
    { dst := some 27, op := .load 1 false (.t 26), ix := 4 },
    { dst := some 28, op := .callv (.t 23) [(.t 27, .as)], ix := 5 }] [] []) (.seq (.region [
    { dst := some 4, op := .move (.c (.int .i64 0)), ix := 0 }] false [4] []) (.keep [4] [] .ret))))))))))) }
theorem ok26 : fnSoundB Go.Proofs.Try.prog 26 F26 = true := by decide +kernel
/- (tendril/dom.Document).Set -/
def F27 : LFunc := { nparams := 4, results := [.tmp 8], pure := false, body :=
  (.seq (.region [
    { dst := some 8, op := .move (.c (.int .i64 0)), ix := 0 }] false [0, 1, 2, 3] []) (.seq (.region [
    { dst := some 13, op := .move (.t 0), ix := 0 },
    { dst := some 14, op := .move (.t 1), ix := 1 },
    { dst := some 15, op := .call 49 [(.t 13, .as), (.t 14, .as)], ix := 2 },
    { dst := some 12, op := .move (.t 15), ix := 3 },
    { dst := some 16, op := .extract (.t 12) 0, ix := 4 },
    { dst := some 17, op := .extract (.t 12) 1, ix := 5 },
    { dst := some 9, op := .move (.t 16), ix := 6 },
    { dst := some 10, op := .move (.t 17), ix := 7 }] false [2, 3, 9, 10] []) (.seq (.block 0 (.seq (.region [
    { dst := some 19, op := .move (.t 10), ix := 0 },
    { dst := some 20, op := .eq .i true (.t 19) (.c (.int .i64 0)), ix := 1 },
    { dst := some 18, op := .move (.t 20), ix := 2 }] false [2, 3, 9, 10, 18] []) (.seq (.cond (.t 18) (.seq (.region [
    { dst := some 21, op := .move (.t 10), ix := 0 },
    { dst := some 8, op := .move (.t 21), ix := 1 }] false [8] []) (.keep [8] [] .ret)) (.seq (.region [
    { dst := some 23, op := .move (.t 2), ix := 0 },
    { dst := some 24, op := .pcall 56 [(.t 23, .as)], ix := 1 },
    { dst := some 25, op := .un .not (.t 24), ix := 2 },
    { dst := some 22, op := .move (.t 25), ix := 3 }] false [2, 3, 9, 22] []) (.seq (.cond (.t 22) (.seq (.region [
    { dst := some 8, op := .move (.c (.int .i64 8)), ix := 0 }] false [8] []) (.keep [8] [] .ret)) (.seq (.region [
    { dst := some 27, op := .move (.t 3), ix := 0 },
    { dst := some 28, op := .pcall 46 [(.t 27, .as)], ix := 1 },
    { dst := some 29, op := .un .not (.t 28), ix := 2 },
    { dst := some 26, op := .move (.t 29), ix := 3 }] false [2, 3, 9, 26] []) (.seq (.cond (.t 26) (.seq (.region [
    { dst := some 8, op := .move (.c (.int .i64 3)), ix := 0 }] false [8] []) (.keep [8] [] .ret)) (.keep [2, 3, 9] [] .skip)) (.keep [2, 3, 9] [] .skip)))) (.keep [2, 3, 9] [] .skip)))) (.keep [2, 3, 9] [] .skip)))) (.keep [2, 3, 9] [] (.seq (.region [
    { dst := some 30, op := .move (.t 9), ix := 0 },
    { dst := some 31, op := .nilCheck (.t 30), ix := 1 },
    { dst := some 32, op := .fieldAddr 4 (.t 31), ix := 2 },
    { dst := some 33, op := .load 1 false (.t 32), ix := 3 },
    { dst := some 34, op := .move (.t 2), ix := 4 },
    { dst := some 35, op := .move (.t 3), ix := 5 },
    { dst := some 36, op := .pcall 57 [(.t 33, .as), (.t 34, .as), (.t 35, .as)], ix := 6 },
    { dst := some 11, op := .move (.t 36), ix := 7 }] false [9, 11] []) (.seq (.region [
    { dst := some 37, op := .move (.t 11), ix := 0 },
    { dst := some 38, op := .len 1 (.t 37), ix := 1 },
    { dst := some 39, op := .bin .gtr (.t 38) (.c (.int .i64 64)), ix := 2 }] false [9, 11, 39] []) (.seq (.cond (.t 39) (.seq (.region [
    { dst := some 8, op := .move (.c (.int .i64 12)), ix := 0 }] false [8] []) (.keep [8] [] .ret)) (.keep [9, 11] [] .skip)) (.keep [9, 11] [] (.seq (.region [
    { dst := some 40, op := .move (.t 9), ix := 0 },
    { dst := some 41, op := .move (.t 11), ix := 1 },
    { dst := some 42, op := .nilCheck (.t 40), ix := 2 },
    { dst := some 43, op := .fieldAddr 4 (.t 42), ix := 3 },
    { dst := none, op := .store 1 false (.t 43) (.t 41), ix := 4 }] false [] []) (.seq (.region [
    { dst := some 8, op := .move (.c (.int .i64 0)), ix := 0 }] false [8] []) (.keep [8] [] .ret))))))))))) }
theorem ok27 : fnSoundB Go.Proofs.Try.prog 27 F27 = true := by decide +kernel
/- (tendril/dom.Document).Del -/
def F28 : LFunc := { nparams := 3, results := [.tmp 6], pure := false, body :=
  (.seq (.region [
    { dst := some 6, op := .move (.c (.int .i64 0)), ix := 0 }] false [0, 1, 2] []) (.seq (.region [
    { dst := some 12, op := .move (.t 0), ix := 0 },
    { dst := some 13, op := .move (.t 1), ix := 1 },
    { dst := some 14, op := .call 49 [(.t 12, .as), (.t 13, .as)], ix := 2 },
    { dst := some 11, op := .move (.t 14), ix := 3 },
    { dst := some 15, op := .extract (.t 11) 0, ix := 4 },
    { dst := some 16, op := .extract (.t 11) 1, ix := 5 },
    { dst := some 7, op := .move (.t 15), ix := 6 },
    { dst := some 8, op := .move (.t 16), ix := 7 }] false [2, 7, 8] []) (.seq (.region [
    { dst := some 17, op := .move (.t 8), ix := 0 },
    { dst := some 18, op := .eq .i true (.t 17) (.c (.int .i64 0)), ix := 1 }] false [2, 7, 8, 18] []) (.seq (.cond (.t 18) (.seq (.region [
    { dst := some 19, op := .move (.t 8), ix := 0 },
    { dst := some 6, op := .move (.t 19), ix := 1 }] false [6] []) (.keep [6] [] .ret)) (.keep [2, 7] [] .skip)) (.keep [2, 7] [] (.seq (.region [
    { dst := some 21, op := .move (.t 7), ix := 0 },
    { dst := some 22, op := .nilCheck (.t 21), ix := 1 },
    { dst := some 23, op := .fieldAddr 4 (.t 22), ix := 2 },
    { dst := some 24, op := .load 1 false (.t 23), ix := 3 },
    { dst := some 25, op := .move (.t 2), ix := 4 },
    { dst := some 26, op := .pcall 58 [(.t 24, .as), (.t 25, .as)], ix := 5 },
    { dst := some 20, op := .move (.t 26), ix := 6 },
    { dst := some 27, op := .extract (.t 20) 0, ix := 7 },
    { dst := some 28, op := .extract (.t 20) 1, ix := 8 },
    { dst := some 9, op := .move (.t 27), ix := 9 },
    { dst := some 10, op := .move (.t 28), ix := 10 }] false [7, 9, 10] []) (.seq (.region [
    { dst := some 29, op := .move (.t 10), ix := 0 },
    { dst := some 30, op := .un .not (.t 29), ix := 1 }] false [7, 9, 30] []) (.seq (.cond (.t 30) (.seq (.region [
    { dst := some 6, op := .move (.c (.int .i64 8)), ix := 0 }] false [6] []) (.keep [6] [] .ret)) (.keep [7, 9] [] .skip)) (.keep [7, 9] [] (.seq (.region [
    { dst := some 31, op := .move (.t 7), ix := 0 },
    { dst := some 32, op := .move (.t 9), ix := 1 },
    { dst := some 33, op := .nilCheck (.t 31), ix := 2 },
    { dst := some 34, op := .fieldAddr 4 (.t 33), ix := 3 },
    { dst := none, op := .store 1 false (.t 34) (.t 32), ix := 4 }] false [] []) (.seq (.region [
    { dst := some 6, op := .move (.c (.int .i64 0)), ix := 0 }] false [6] []) (.keep [6] [] .ret)))))))))))) }
theorem ok28 : fnSoundB Go.Proofs.Try.prog 28 F28 = true := by decide +kernel
/- (tendril/dom.Document).Text -/
def F29 : LFunc := { nparams := 3, results := [.tmp 6], pure := false, body :=
  (.seq (.region [
    { dst := some 6, op := .move (.c (.int .i64 0)), ix := 0 }] false [0, 1, 2] []) (.seq (.region [
    { dst := some 10, op := .move (.t 0), ix := 0 },
    { dst := some 11, op := .move (.t 1), ix := 1 },
    { dst := some 12, op := .call 49 [(.t 10, .as), (.t 11, .as)], ix := 2 },
    { dst := some 9, op := .move (.t 12), ix := 3 },
    { dst := some 13, op := .extract (.t 9) 0, ix := 4 },
    { dst := some 14, op := .extract (.t 9) 1, ix := 5 },
    { dst := some 7, op := .move (.t 13), ix := 6 },
    { dst := some 8, op := .move (.t 14), ix := 7 }] false [2, 7, 8] []) (.seq (.block 0 (.seq (.region [
    { dst := some 16, op := .move (.t 8), ix := 0 },
    { dst := some 17, op := .eq .i true (.t 16) (.c (.int .i64 0)), ix := 1 },
    { dst := some 15, op := .move (.t 17), ix := 2 }] false [2, 7, 8, 15] []) (.seq (.cond (.t 15) (.seq (.region [
    { dst := some 18, op := .move (.t 8), ix := 0 },
    { dst := some 6, op := .move (.t 18), ix := 1 }] false [6] []) (.keep [6] [] .ret)) (.seq (.region [
    { dst := some 20, op := .move (.t 2), ix := 0 },
    { dst := some 21, op := .pcall 46 [(.t 20, .as)], ix := 1 },
    { dst := some 22, op := .un .not (.t 21), ix := 2 },
    { dst := some 19, op := .move (.t 22), ix := 3 }] false [2, 7, 19] []) (.seq (.cond (.t 19) (.seq (.region [
    { dst := some 6, op := .move (.c (.int .i64 3)), ix := 0 }] false [6] []) (.keep [6] [] .ret)) (.keep [2, 7] [] .skip)) (.keep [2, 7] [] .skip)))) (.keep [2, 7] [] .skip)))) (.keep [2, 7] [] (.seq (.region [
    { dst := some 23, op := .move (.t 7), ix := 0 },
    { dst := some 24, op := .move (.t 2), ix := 1 },
    { dst := some 25, op := .nilCheck (.t 23), ix := 2 },
    { dst := some 26, op := .fieldAddr 3 (.t 25), ix := 3 },
    { dst := none, op := .store 1 false (.t 26) (.t 24), ix := 4 }] false [] []) (.seq (.region [
    { dst := some 6, op := .move (.c (.int .i64 0)), ix := 0 }] false [6] []) (.keep [6] [] .ret))))))) }
theorem ok29 : fnSoundB Go.Proofs.Try.prog 29 F29 = true := by decide +kernel
/- tendril/links.Make -/
def F30 : LFunc := { nparams := 1, results := [.tmp 2], pure := false, body :=
  (.seq (.region [
    { dst := some 2, op := .move (.c (.nilp)), ix := 0 }] false [0] []) (.seq (.region [
    { dst := some 3, op := .move (.t 0), ix := 0 },
    { dst := some 4, op := .build [.p (.int .i64 0), .p (.nilp), .p (.nilp), .p (.nilp), .p (.nilp), .p (.nilp)] [(0, 1, .t 3)], ix := 1 },
    { dst := some 5, op := .box true 5 (.t 4), ix := 2 },
    { dst := some 2, op := .move (.t 5), ix := 3 }] false [2] []) (.keep [2] [] .ret))) }
theorem ok30 : fnSoundB Go.Proofs.Try.prog 30 F30 = true := by decide +kernel
/- (tendril/links.Item).Up -/
def F32 : LFunc := { nparams := 1, results := [.tmp 2], pure := false, body :=
  (.seq (.region [
    { dst := some 2, op := .move (.c (.nilp)), ix := 0 }] false [0] []) (.seq (.region [
    { dst := some 3, op := .move (.t 0), ix := 0 },
    { dst := some 4, op := .eq .ptr false (.t 3) (.c (.nilp)), ix := 1 }] false [0, 4] []) (.seq (.cond (.t 4) (.seq (.region [
    { dst := some 2, op := .move (.c (.nilp)), ix := 0 }] false [2] []) (.keep [2] [] .ret)) (.keep [0] [] .skip)) (.keep [0] [] (.seq (.region [
    { dst := some 5, op := .move (.t 0), ix := 0 },
    { dst := some 6, op := .nilCheck (.t 5), ix := 1 },
    { dst := some 7, op := .fieldAddr 1 (.t 6), ix := 2 },
    { dst := some 8, op := .load 1 false (.t 7), ix := 3 },
    { dst := some 2, op := .move (.t 8), ix := 4 }] false [2] []) (.keep [2] [] .ret)))))) }
theorem ok32 : fnSoundB Go.Proofs.Try.prog 32 F32 = true := by decide +kernel
/- (tendril/links.Item).First -/
def F33 : LFunc := { nparams := 1, results := [.tmp 2], pure := false, body :=
  (.seq (.region [
    { dst := some 2, op := .move (.c (.nilp)), ix := 0 }] false [0] []) (.seq (.region [
    { dst := some 3, op := .move (.t 0), ix := 0 },
    { dst := some 4, op := .eq .ptr false (.t 3) (.c (.nilp)), ix := 1 }] false [0, 4] []) (.seq (.cond (.t 4) (.seq (.region [
    { dst := some 2, op := .move (.c (.nilp)), ix := 0 }] false [2] []) (.keep [2] [] .ret)) (.keep [0] [] .skip)) (.keep [0] [] (.seq (.region [
    { dst := some 5, op := .move (.t 0), ix := 0 },
    { dst := some 6, op := .nilCheck (.t 5), ix := 1 },
    { dst := some 7, op := .fieldAddr 2 (.t 6), ix := 2 },
    { dst := some 8, op := .load 1 false (.t 7), ix := 3 },
    { dst := some 2, op := .move (.t 8), ix := 4 }] false [2] []) (.keep [2] [] .ret)))))) }
theorem ok33 : fnSoundB Go.Proofs.Try.prog 33 F33 = true := by decide +kernel
/- (tendril/links.Item).Next -/
def F36 : LFunc := { nparams := 1, results := [.tmp 2], pure := false, body :=
  (.seq (.region [
    { dst := some 2, op := .move (.c (.nilp)), ix := 0 }] false [0] []) (.seq (.region [
    { dst := some 3, op := .move (.t 0), ix := 0 },
    { dst := some 4, op := .eq .ptr false (.t 3) (.c (.nilp)), ix := 1 }] false [0, 4] []) (.seq (.cond (.t 4) (.seq (.region [
    { dst := some 2, op := .move (.c (.nilp)), ix := 0 }] false [2] []) (.keep [2] [] .ret)) (.keep [0] [] .skip)) (.keep [0] [] (.seq (.region [
    { dst := some 5, op := .move (.t 0), ix := 0 },
    { dst := some 6, op := .nilCheck (.t 5), ix := 1 },
    { dst := some 7, op := .fieldAddr 5 (.t 6), ix := 2 },
    { dst := some 8, op := .load 1 false (.t 7), ix := 3 },
    { dst := some 2, op := .move (.t 8), ix := 4 }] false [2] []) (.keep [2] [] .ret)))))) }
theorem ok36 : fnSoundB Go.Proofs.Try.prog 36 F36 = true := by decide +kernel
/- tendril/chars.Tag -/
def F45 : LFunc := { nparams := 1, results := [.tmp 2], pure := true, body :=
  (.seq (.region [
    { dst := some 2, op := .move (.c (.bool false)), ix := 0 }] false [0] []) (.seq (.region [
    { dst := some 3, op := .move (.t 0), ix := 0 },
    { dst := some 4, op := .pcall 70 [(.t 3, .as), (.c (.str [45]), .as)], ix := 1 },
    { dst := some 2, op := .move (.t 4), ix := 2 }] false [2] []) (.keep [2] [] .ret))) }
theorem ok45 : fnSoundB Go.Proofs.Try.prog 45 F45 = true := by decide +kernel
/- tendril/chars.Fits -/
def F46 : LFunc := { nparams := 1, results := [.tmp 2], pure := true, body :=
  (.seq (.region [
    { dst := some 2, op := .move (.c (.bool false)), ix := 0 }] false [0] []) (.seq (.region [
    { dst := some 3, op := .move (.t 0), ix := 0 },
    { dst := some 4, op := .len 0 (.t 3), ix := 1 },
    { dst := some 5, op := .bin .leq (.t 4) (.c (.int .i64 65536)), ix := 2 },
    { dst := some 2, op := .move (.t 5), ix := 3 }] false [2] []) (.keep [2] [] .ret))) }
theorem ok46 : fnSoundB Go.Proofs.Try.prog 46 F46 = true := by decide +kernel
/- tendril/attrs.Check -/
def B47x0 : LCode :=
  (.seq (.region [
    { dst := some 10, op := .bin .lss (.t 9) (.t 8), ix := 0 }] false [0, 7, 8, 9, 10] []) (.seq (.cond (.t 10) (.keep [0, 7, 8, 9] [] .skip) (.keep [] [] (.exit 0))) (.keep [0, 7, 8, 9] [] (.seq (.block 1 (.seq (.region [
    { dst := some 11, op := .move (.t 9), ix := 0 },
    { dst := some 12, op := .indexAddr 2 (.t 7) (.t 9), ix := 1 },
    { dst := some 13, op := .load 2 true (.t 12), ix := 2 },
    { dst := some 5, op := .alloc false 5 [.p (.str []), .p (.str [])] [], ix := 3 },
    { dst := some 4, op := .move (.t 11), ix := 4 },
    { dst := none, op := .store 2 true (.t 5) (.t 13), ix := 5 }] false [0, 4, 5, 7, 8, 9] [5]) (.seq (.region [
    { dst := some 6, op := .move (.c (.int .i64 0)), ix := 0 }] false [0, 4, 5, 6, 7, 8, 9] [5]) (.seq (.block 2 (.seq (.region [
    { dst := some 15, op := .move (.t 4), ix := 0 },
    { dst := some 16, op := .eq .i false (.t 15) (.c (.int .i64 64)), ix := 1 },
    { dst := some 14, op := .move (.t 16), ix := 2 }] false [0, 4, 5, 6, 7, 8, 9, 14] [5]) (.seq (.cond (.t 14) (.seq (.region [
    { dst := some 6, op := .move (.c (.int .i64 12)), ix := 0 }] false [0, 4, 6, 7, 8, 9] []) (.keep [0, 4, 6, 7, 8, 9] [] .skip)) (.seq (.region [
    { dst := some 18, op := .fieldAddr 0 (.t 5), ix := 0 },
    { dst := some 19, op := .load 1 false (.t 18), ix := 1 },
    { dst := some 20, op := .pcall 56 [(.t 19, .as)], ix := 2 },
    { dst := some 21, op := .un .not (.t 20), ix := 3 },
    { dst := some 17, op := .move (.t 21), ix := 4 }] false [0, 4, 5, 6, 7, 8, 9, 17] [5]) (.seq (.cond (.t 17) (.seq (.region [
    { dst := some 6, op := .move (.c (.int .i64 8)), ix := 0 }] false [0, 4, 6, 7, 8, 9] []) (.keep [0, 4, 6, 7, 8, 9] [] .skip)) (.seq (.region [
    { dst := some 23, op := .fieldAddr 1 (.t 5), ix := 0 },
    { dst := some 24, op := .load 1 false (.t 23), ix := 1 },
    { dst := some 25, op := .pcall 46 [(.t 24, .as)], ix := 2 },
    { dst := some 26, op := .un .not (.t 25), ix := 3 },
    { dst := some 22, op := .move (.t 26), ix := 4 }] false [0, 4, 5, 6, 7, 8, 9, 22] [5]) (.seq (.cond (.t 22) (.seq (.region [
    { dst := some 6, op := .move (.c (.int .i64 3)), ix := 0 }] false [0, 4, 6, 7, 8, 9] []) (.keep [0, 4, 6, 7, 8, 9] [] .skip)) (.seq (.region [
    { dst := some 28, op := .move (.t 4), ix := 0 },
    { dst := some 29, op := .bin .gtr (.t 28) (.c (.int .i64 0)), ix := 1 },
    { dst := some 30, op := .move (.t 29), ix := 2 },
    { dst := some 31, op := .move (.t 0), guard := some (30, true), ix := 3 },
    { dst := some 32, op := .move (.t 4), guard := some (30, true), ix := 4 },
    { dst := some 33, op := .bin .sub (.t 32) (.c (.int .i64 1)), guard := some (30, true), ix := 5 },
    { dst := some 34, op := .indexAddr 2 (.t 31) (.t 33), guard := some (30, true), ix := 6 },
    { dst := some 35, op := .fieldAddr 0 (.t 34), guard := some (30, true), ix := 7 },
    { dst := some 36, op := .load 1 false (.t 35), guard := some (30, true), ix := 8 },
    { dst := some 37, op := .fieldAddr 0 (.t 5), guard := some (30, true), ix := 9 },
    { dst := some 38, op := .load 1 false (.t 37), guard := some (30, true), ix := 10 },
    { dst := some 39, op := .eq .s false (.t 36) (.t 38), guard := some (30, true), ix := 11 },
    { dst := some 40, op := .pick (.t 30) (.t 39) (.c (.bool false)), ix := 12 },
    { dst := some 27, op := .move (.t 40), ix := 13 }] true [0, 4, 5, 6, 7, 8, 9, 27] [5]) (.seq (.cond (.t 27) (.seq (.region [
    { dst := some 6, op := .move (.c (.int .i64 10)), ix := 0 }] false [0, 4, 6, 7, 8, 9] []) (.keep [0, 4, 6, 7, 8, 9] [] .skip)) (.seq (.region [
    { dst := some 42, op := .move (.t 4), ix := 0 },
    { dst := some 43, op := .bin .gtr (.t 42) (.c (.int .i64 0)), ix := 1 },
    { dst := some 44, op := .move (.t 43), ix := 2 },
    { dst := some 45, op := .move (.t 0), guard := some (44, true), ix := 3 },
    { dst := some 46, op := .move (.t 4), guard := some (44, true), ix := 4 },
    { dst := some 47, op := .bin .sub (.t 46) (.c (.int .i64 1)), guard := some (44, true), ix := 5 },
    { dst := some 48, op := .indexAddr 2 (.t 45) (.t 47), guard := some (44, true), ix := 6 },
    { dst := some 49, op := .fieldAddr 0 (.t 48), guard := some (44, true), ix := 7 },
    { dst := some 50, op := .load 1 false (.t 49), guard := some (44, true), ix := 8 },
    { dst := some 51, op := .fieldAddr 0 (.t 5), guard := some (44, true), ix := 9 },
    { dst := some 52, op := .load 1 false (.t 51), guard := some (44, true), ix := 10 },
    { dst := some 53, op := .bin .gtr (.t 50) (.t 52), guard := some (44, true), ix := 11 },
    { dst := some 54, op := .pick (.t 44) (.t 53) (.c (.bool false)), ix := 12 },
    { dst := some 41, op := .move (.t 54), ix := 13 }] true [0, 4, 6, 7, 8, 9, 41] []) (.seq (.cond (.t 41) (.seq (.region [
    { dst := some 6, op := .move (.c (.int .i64 9)), ix := 0 }] false [0, 4, 6, 7, 8, 9] []) (.keep [0, 4, 6, 7, 8, 9] [] .skip)) (.keep [0, 4, 6, 7, 8, 9] [] .skip)) (.keep [0, 4, 6, 7, 8, 9] [] .skip)))) (.keep [0, 4, 6, 7, 8, 9] [] .skip)))) (.keep [0, 4, 6, 7, 8, 9] [] .skip)))) (.keep [0, 4, 6, 7, 8, 9] [] .skip)))) (.keep [0, 4, 6, 7, 8, 9] [] .skip)))) (.keep [0, 4, 6, 7, 8, 9] [] (.seq (.region [
    { dst := some 55, op := .move (.t 6), ix := 0 },
    { dst := some 56, op := .eq .i true (.t 55) (.c (.int .i64 0)), ix := 1 }] false [0, 4, 6, 7, 8, 9, 56] []) (.seq (.cond (.t 56) (.seq (.region [
    { dst := some 57, op := .move (.t 4), ix := 0 },
    { dst := some 58, op := .move (.t 6), ix := 1 },
    { dst := some 2, op := .move (.t 57), ix := 2 },
    { dst := some 3, op := .move (.t 58), ix := 3 }] false [2, 3] []) (.keep [2, 3] [] .ret)) (.keep [0, 7, 8, 9] [] .skip)) (.keep [0, 7, 8, 9] [] .skip)))))))) (.keep [0, 7, 8, 9] [] (.seq (.region [
    { dst := some 59, op := .bin .add (.t 9) (.c (.int .i64 1)), ix := 0 },
    { dst := some 9, op := .move (.t 59), ix := 1 }] false [0, 7, 8, 9] []) (.keep [0, 7, 8, 9] [] .skip)))))))
def F47 : LFunc := { nparams := 1, results := [.tmp 2, .tmp 3], pure := true, body :=
  (.seq (.region [
    { dst := some 2, op := .move (.c (.int .i64 0)), ix := 0 },
    { dst := some 3, op := .move (.c (.int .i64 0)), ix := 1 }] false [0] []) (.seq (.region [
    { dst := some 7, op := .move (.t 0), ix := 0 },
    { dst := some 8, op := .len 1 (.t 7), ix := 1 },
    { dst := some 9, op := .move (.c (.int .i64 0)), ix := 2 }] false [0, 7, 8, 9] []) (.seq (.block 0 (.seq (.keep [0, 7, 8, 9] [] (.loop B47x0)) (.keep [] [] .skip))) (.keep [] [] (.seq (.region [
    { dst := some 2, op := .move (.c (.int .i64 0)), ix := 0 },
    { dst := some 3, op := .move (.c (.int .i64 0)), ix := 1 }] false [2, 3] []) (.keep [2, 3] [] .ret)))))) }
theorem ok47 : fnSoundB Go.Proofs.Try.prog 47 F47 = true := by decide +kernel
/- (tendril/dom.Document).live -/
def F49 : LFunc := { nparams := 2, results := [.tmp 4, .tmp 5], pure := false, body :=
  (.seq (.region [
    { dst := some 4, op := .move (.c (.nilp)), ix := 0 },
    { dst := some 5, op := .move (.c (.int .i64 0)), ix := 1 }] false [0, 1] []) (.seq (.block 0 (.seq (.region [
    { dst := some 8, op := .move (.t 0), ix := 0 },
    { dst := some 9, op := .eq .ptr false (.t 8) (.c (.nilp)), ix := 1 },
    { dst := some 7, op := .move (.t 9), ix := 2 }] false [0, 1, 7] []) (.seq (.cond (.t 7) (.seq (.region [
    { dst := some 4, op := .move (.c (.nilp)), ix := 0 },
    { dst := some 5, op := .move (.c (.int .i64 1)), ix := 1 }] false [4, 5] []) (.keep [4, 5] [] .ret)) (.seq (.region [
    { dst := some 11, op := .move (.t 1), ix := 0 },
    { dst := some 12, op := .eq .i false (.t 11) (.c (.int .i64 0)), ix := 1 },
    { dst := some 10, op := .move (.t 12), ix := 2 }] false [0, 1, 10] []) (.seq (.cond (.t 10) (.seq (.region [
    { dst := some 4, op := .move (.c (.nilp)), ix := 0 },
    { dst := some 5, op := .move (.c (.int .i64 14)), ix := 1 }] false [4, 5] []) (.keep [4, 5] [] .ret)) (.keep [0, 1] [] .skip)) (.keep [0, 1] [] .skip)))) (.keep [0, 1] [] .skip)))) (.keep [0, 1] [] (.seq (.region [
    { dst := some 13, op := .move (.t 0), ix := 0 },
    { dst := some 14, op := .nilCheck (.t 13), ix := 1 },
    { dst := some 15, op := .fieldAddr 0 (.t 14), ix := 2 },
    { dst := some 16, op := .load 1 false (.t 15), ix := 3 },
    { dst := some 17, op := .move (.t 1), ix := 4 },
    { dst := some 18, op := .lookup 1 (.nilp) false (.t 16) (.t 17), ix := 5 },
    { dst := some 6, op := .move (.t 18), ix := 6 }] false [6] []) (.seq (.region [
    { dst := some 19, op := .move (.t 6), ix := 0 },
    { dst := some 20, op := .eq .ptr false (.t 19) (.c (.nilp)), ix := 1 }] false [6, 20] []) (.seq (.cond (.t 20) (.seq (.region [
    { dst := some 4, op := .move (.c (.nilp)), ix := 0 },
    { dst := some 5, op := .move (.c (.int .i64 13)), ix := 1 }] false [4, 5] []) (.keep [4, 5] [] .ret)) (.keep [6] [] .skip)) (.keep [6] [] (.seq (.region [
    { dst := some 21, op := .move (.t 6), ix := 0 },
    { dst := some 4, op := .move (.t 21), ix := 1 },
    { dst := some 5, op := .move (.c (.int .i64 0)), ix := 2 }] false [4, 5] []) (.keep [4, 5] [] .ret))))))))) }
theorem ok49 : fnSoundB Go.Proofs.Try.prog 49 F49 = true := by decide +kernel
/- (tendril/dom.Document).beside -/
def F50 : LFunc := { nparams := 2, results := [.tmp 4, .tmp 5], pure := false, body :=
  (.seq (.region [
    { dst := some 4, op := .move (.c (.nilp)), ix := 0 },
    { dst := some 5, op := .move (.c (.int .i64 0)), ix := 1 }] false [0, 1] []) (.seq (.region [
    { dst := some 8, op := .move (.t 1), ix := 0 },
    { dst := some 9, op := .eq .i false (.t 8) (.c (.int .i64 0)), ix := 1 }] false [0, 1, 9] []) (.seq (.cond (.t 9) (.seq (.region [
    { dst := some 4, op := .move (.c (.nilp)), ix := 0 },
    { dst := some 5, op := .move (.c (.int .i64 0)), ix := 1 }] false [4, 5] []) (.keep [4, 5] [] .ret)) (.keep [0, 1] [] .skip)) (.keep [0, 1] [] (.seq (.region [
    { dst := some 11, op := .move (.t 0), ix := 0 },
    { dst := some 12, op := .move (.t 1), ix := 1 },
    { dst := some 13, op := .call 49 [(.t 11, .as), (.t 12, .as)], ix := 2 },
    { dst := some 10, op := .move (.t 13), ix := 3 },
    { dst := some 14, op := .extract (.t 10) 0, ix := 4 },
    { dst := some 15, op := .extract (.t 10) 1, ix := 5 },
    { dst := some 6, op := .move (.t 14), ix := 6 },
    { dst := some 7, op := .move (.t 15), ix := 7 }] false [6, 7] []) (.seq (.region [
    { dst := some 16, op := .move (.t 7), ix := 0 },
    { dst := some 17, op := .eq .i true (.t 16) (.c (.int .i64 0)), ix := 1 }] false [6, 7, 17] []) (.seq (.cond (.t 17) (.seq (.region [
    { dst := some 18, op := .move (.t 7), ix := 0 },
    { dst := some 4, op := .move (.c (.nilp)), ix := 1 },
    { dst := some 5, op := .move (.t 18), ix := 2 }] false [4, 5] []) (.keep [4, 5] [] .ret)) (.keep [6] [] .skip)) (.keep [6] [] (.seq (.region [
    { dst := some 19, op := .move (.t 6), ix := 0 },
    { dst := some 20, op := .nilCheck (.t 19), ix := 1 },
    { dst := some 21, op := .fieldAddr 0 (.t 20), ix := 2 },
    { dst := some 22, op := .load 1 false (.t 21), ix := 3 },
    { dst := some 4, op := .move (.t 22), ix := 4 },
    { dst := some 5, op := .move (.c (.int .i64 0)), ix := 5 }] false [4, 5] []) (.keep [4, 5] [] .ret)))))))))) }
theorem ok50 : fnSoundB Go.Proofs.Try.prog 50 F50 = true := by decide +kernel
/- (tendril/links.Item).Place -/
def F51 : LFunc := { nparams := 3, results := [.tmp 6], pure := false, body :=
  (.seq (.region [
    { dst := some 6, op := .move (.c (.int .i64 0)), ix := 0 }] false [0, 1, 2] []) (.seq (.block 0 (.seq (.region [
    { dst := some 8, op := .move (.t 0), ix := 0 },
    { dst := some 9, op := .eq .ptr false (.t 8) (.c (.nilp)), ix := 1 },
    { dst := some 10, op := .move (.t 9), ix := 2 },
    { dst := some 11, op := .move (.t 1), guard := some (10, false), ix := 3 },
    { dst := some 12, op := .eq .ptr false (.t 11) (.c (.nilp)), guard := some (10, false), ix := 4 },
    { dst := some 13, op := .pick (.t 10) (.c (.bool true)) (.t 12), ix := 5 },
    { dst := some 7, op := .move (.t 13), ix := 6 }] false [0, 1, 2, 7] []) (.seq (.cond (.t 7) (.seq (.region [
    { dst := some 6, op := .move (.c (.int .i64 1)), ix := 0 }] false [6] []) (.keep [6] [] .ret)) (.seq (.region [
    { dst := some 15, op := .move (.t 1), ix := 0 },
    { dst := some 16, op := .nilCheck (.t 15), ix := 1 },
    { dst := some 17, op := .fieldAddr 1 (.t 16), ix := 2 },
    { dst := some 18, op := .load 1 false (.t 17), ix := 3 },
    { dst := some 19, op := .eq .ptr true (.t 18) (.c (.nilp)), ix := 4 },
    { dst := some 14, op := .move (.t 19), ix := 5 }] false [0, 1, 2, 14] []) (.seq (.cond (.t 14) (.seq (.region [
    { dst := some 6, op := .move (.c (.int .i64 15)), ix := 0 }] false [6] []) (.keep [6] [] .ret)) (.seq (.region [
    { dst := some 21, op := .move (.t 0), ix := 0 },
    { dst := some 22, op := .move (.t 1), ix := 1 },
    { dst := some 23, op := .call 71 [(.t 21, .as), (.t 22, .as)], ix := 2 },
    { dst := some 20, op := .move (.t 23), ix := 3 }] false [0, 1, 2, 20] []) (.seq (.cond (.t 20) (.seq (.region [
    { dst := some 6, op := .move (.c (.int .i64 17)), ix := 0 }] false [6] []) (.keep [6] [] .ret)) (.seq (.region [
    { dst := some 25, op := .move (.t 2), ix := 0 },
    { dst := some 26, op := .eq .ptr true (.t 25) (.c (.nilp)), ix := 1 },
    { dst := some 27, op := .move (.t 26), ix := 2 },
    { dst := some 28, op := .move (.t 2), guard := some (27, true), ix := 3 },
    { dst := some 29, op := .nilCheck (.t 28), guard := some (27, true), ix := 4 },
    { dst := some 30, op := .fieldAddr 1 (.t 29), guard := some (27, true), ix := 5 },
    { dst := some 31, op := .load 1 false (.t 30), guard := some (27, true), ix := 6 },
    { dst := some 32, op := .move (.t 0), guard := some (27, true), ix := 7 },
    { dst := some 33, op := .eq .ptr true (.t 31) (.t 32), guard := some (27, true), ix := 8 },
    { dst := some 34, op := .pick (.t 27) (.t 33) (.c (.bool false)), ix := 9 },
    { dst := some 24, op := .move (.t 34), ix := 10 }] false [0, 1, 2, 24] []) (.seq (.cond (.t 24) (.seq (.region [
    { dst := some 6, op := .move (.c (.int .i64 18)), ix := 0 }] false [6] []) (.keep [6] [] .ret)) (.keep [0, 1, 2] [] .skip)) (.keep [0, 1, 2] [] .skip)))) (.keep [0, 1, 2] [] .skip)))) (.keep [0, 1, 2] [] .skip)))) (.keep [0, 1, 2] [] .skip)))) (.keep [0, 1, 2] [] (.seq (.region [
    { dst := some 35, op := .move (.t 1), ix := 0 },
    { dst := some 36, op := .move (.t 1), ix := 1 },
    { dst := some 37, op := .move (.t 0), ix := 2 },
    { dst := some 38, op := .move (.t 2), ix := 3 },
    { dst := some 39, op := .nilCheck (.t 35), ix := 4 },
    { dst := some 40, op := .fieldAddr 1 (.t 39), ix := 5 },
    { dst := none, op := .store 1 false (.t 40) (.t 37), ix := 6 },
    { dst := some 41, op := .nilCheck (.t 36), ix := 7 },
    { dst := some 42, op := .fieldAddr 5 (.t 41), ix := 8 },
    { dst := none, op := .store 1 false (.t 42) (.t 38), ix := 9 }] false [0, 1, 2] []) (.seq (.region [
    { dst := some 43, op := .move (.t 2), ix := 0 },
    { dst := some 44, op := .eq .ptr false (.t 43) (.c (.nilp)), ix := 1 }] false [0, 1, 2, 44] []) (.seq (.cond (.t 44) (.seq (.region [
    { dst := some 45, op := .move (.t 1), ix := 0 },
    { dst := some 46, op := .move (.t 0), ix := 1 },
    { dst := some 47, op := .nilCheck (.t 46), ix := 2 },
    { dst := some 48, op := .fieldAddr 3 (.t 47), ix := 3 },
    { dst := some 49, op := .load 1 false (.t 48), ix := 4 },
    { dst := some 50, op := .nilCheck (.t 45), ix := 5 },
    { dst := some 51, op := .fieldAddr 4 (.t 50), ix := 6 },
    { dst := none, op := .store 1 false (.t 51) (.t 49), ix := 7 }] false [0, 1] []) (.seq (.region [
    { dst := some 52, op := .move (.t 0), ix := 0 },
    { dst := some 53, op := .move (.t 1), ix := 1 },
    { dst := some 54, op := .nilCheck (.t 52), ix := 2 },
    { dst := some 55, op := .fieldAddr 3 (.t 54), ix := 3 },
    { dst := none, op := .store 1 false (.t 55) (.t 53), ix := 4 }] false [0, 1] []) (.keep [0, 1] [] .skip))) (.seq (.region [
    { dst := some 56, op := .move (.t 1), ix := 0 },
    { dst := some 57, op := .move (.t 2), ix := 1 },
    { dst := some 58, op := .nilCheck (.t 57), ix := 2 },
    { dst := some 59, op := .fieldAddr 4 (.t 58), ix := 3 },
    { dst := some 60, op := .load 1 false (.t 59), ix := 4 },
    { dst := some 61, op := .nilCheck (.t 56), ix := 5 },
    { dst := some 62, op := .fieldAddr 4 (.t 61), ix := 6 },
    { dst := none, op := .store 1 false (.t 62) (.t 60), ix := 7 }] false [0, 1, 2] []) (.seq (.region [
    { dst := some 63, op := .move (.t 2), ix := 0 },
    { dst := some 64, op := .move (.t 1), ix := 1 },
    { dst := some 65, op := .nilCheck (.t 63), ix := 2 },
    { dst := some 66, op := .fieldAddr 4 (.t 65), ix := 3 },
    { dst := none, op := .store 1 false (.t 66) (.t 64), ix := 4 }] false [0, 1] []) (.keep [0, 1] [] .skip)))) (.keep [0, 1] [] (.seq (.region [
    { dst := some 67, op := .move (.t 1), ix := 0 },
    { dst := some 68, op := .nilCheck (.t 67), ix := 1 },
    { dst := some 69, op := .fieldAddr 4 (.t 68), ix := 2 },
    { dst := some 70, op := .load 1 false (.t 69), ix := 3 },
    { dst := some 71, op := .eq .ptr false (.t 70) (.c (.nilp)), ix := 4 }] false [0, 1, 71] []) (.seq (.cond (.t 71) (.seq (.region [
    { dst := some 72, op := .move (.t 0), ix := 0 },
    { dst := some 73, op := .move (.t 1), ix := 1 },
    { dst := some 74, op := .nilCheck (.t 72), ix := 2 },
    { dst := some 75, op := .fieldAddr 2 (.t 74), ix := 3 },
    { dst := none, op := .store 1 false (.t 75) (.t 73), ix := 4 }] false [] []) (.keep [] [] .skip)) (.seq (.region [
    { dst := some 76, op := .move (.t 1), ix := 0 },
    { dst := some 77, op := .nilCheck (.t 76), ix := 1 },
    { dst := some 78, op := .fieldAddr 4 (.t 77), ix := 2 },
    { dst := some 79, op := .load 1 false (.t 78), ix := 3 },
    { dst := some 80, op := .move (.t 1), ix := 4 },
    { dst := some 81, op := .nilCheck (.t 79), ix := 5 },
    { dst := some 82, op := .fieldAddr 5 (.t 81), ix := 6 },
    { dst := none, op := .store 1 false (.t 82) (.t 80), ix := 7 }] false [] []) (.keep [] [] .skip))) (.keep [] [] (.seq (.region [
    { dst := some 6, op := .move (.c (.int .i64 0)), ix := 0 }] false [6] []) (.keep [6] [] .ret)))))))))))) }
theorem ok51 : fnSoundB Go.Proofs.Try.prog 51 F51 = true := by decide +kernel
/- (tendril/dom.Document).Read$1 -/
def B52x0 : LCode :=
  (.seq (.region [
    { dst := some 11, op := .move (.t 7), ix := 0 },
    { dst := some 12, op := .eq .ptr true (.t 11) (.c (.nilp)), ix := 1 }] false [1, 2, 3, 4, 7, 12] []) (.seq (.cond (.t 12) (.keep [1, 2, 3, 4, 7] [] .skip) (.keep [] [] (.exit 0))) (.keep [1, 2, 3, 4, 7] [] (.seq (.block 1 (.seq (.draw [
    { dst := some 15, op := .load 1 false (.t 2), ix := 0 },
    { dst := some 16, op := .nilCheck (.t 15), ix := 1 },
    { dst := some 17, op := .fieldAddr 0 (.t 16), ix := 2 },
    { dst := some 18, op := .load 1 false (.t 17), ix := 3 },
    { dst := some 19, op := .move (.t 7), ix := 4 },
    { dst := some 20, op := .call 53 [(.t 19, .as)], ix := 5, again := [0, 3] },
    { dst := some 21, op := .lookup 1 (.nilp) false (.t 18) (.t 20), ix := 6 },
    { dst := some 8, op := .move (.t 21), ix := 7 }] [1, 2, 3, 4, 7, 8] []) (.seq (.draw [
    { dst := some 22, op := .load 1 false (.t 3), ix := 0 },
    { dst := some 23, op := .move (.t 7), ix := 1 },
    { dst := some 25, op := .move (.t 1), ix := 3 },
    { dst := some 26, op := .move (.t 8), ix := 4 },
    { dst := some 27, op := .nilCheck (.t 26), ix := 5 },
    { dst := some 28, op := .fieldAddr 1 (.t 27), ix := 6 },
    { dst := some 29, op := .load 1 false (.t 28), ix := 7 },
    { dst := some 30, op := .move (.t 8), ix := 8 },
    { dst := some 31, op := .nilCheck (.t 30), ix := 9 },
    { dst := some 32, op := .fieldAddr 2 (.t 31), ix := 10 },
    { dst := some 33, op := .load 1 false (.t 32), ix := 11 },
    { dst := some 34, op := .move (.t 8), ix := 12 },
    { dst := some 35, op := .nilCheck (.t 34), ix := 13 },
    { dst := some 36, op := .fieldAddr 3 (.t 35), ix := 14 },
    { dst := some 37, op := .load 1 false (.t 36), ix := 15 },
    { dst := some 38, op := .move (.t 8), ix := 16 },
    { dst := some 39, op := .nilCheck (.t 38), ix := 17 },
    { dst := some 40, op := .fieldAddr 4 (.t 39), ix := 18 },
    { dst := some 41, op := .load 1 false (.t 40), ix := 19 },
    { dst := some 24, op := .call 53 [(.t 23, .as)], ix := 2, again := [0, 7, 11, 15, 19] },
    { dst := some 42, op := .pcall 48 [(.t 41, .as)], ix := 20 },
    { dst := some 43, op := .build [.p (.int .i64 0), .p (.int .i64 0), .p (.str []), .p (.str []), .p (.str []), .p (.list [])] [(0, 1, .t 24), (1, 1, .t 25), (2, 1, .t 29), (3, 1, .t 33), (4, 1, .t 37), (5, 1, .t 42)], ix := 21 },
    { dst := some 44, op := .row 6 [.t 43], ix := 22 },
    { dst := some 45, op := .append true 1000 6 88 (.t 22) (.t 44), ix := 23 },
    { dst := none, op := .store 1 false (.t 3) (.t 45), ix := 24 }] [1, 2, 3, 4, 7] []) (.seq (.region [
    { dst := some 46, op := .load 1 false (.t 4), ix := 0 },
    { dst := some 47, op := .move (.t 7), ix := 1 },
    { dst := some 48, op := .load 1 false (.t 3), ix := 2 },
    { dst := some 49, op := .len 1 (.t 48), ix := 3 },
    { dst := some 50, op := .callv (.t 46) [(.t 47, .as), (.t 49, .as)], ix := 4 }] false [1, 2, 3, 4, 7] []) (.keep [1, 2, 3, 4, 7] [] .skip))))) (.keep [1, 2, 3, 4, 7] [] (.seq (.region [
    { dst := some 13, op := .move (.t 7), ix := 0 },
    { dst := some 14, op := .call 36 [(.t 13, .as)], ix := 1 },
    { dst := some 7, op := .move (.t 14), ix := 2 }] false [1, 2, 3, 4, 7] []) (.keep [1, 2, 3, 4, 7] [] .skip)))))))
def F52 : LFunc := { nparams := 5, results := [], pure := false, body :=
  (.seq (.region [
    { dst := some 9, op := .move (.t 0), ix := 0 },
    { dst := some 10, op := .call 33 [(.t 9, .as)], ix := 1 },
    { dst := some 7, op := .move (.t 10), ix := 2 }] false [1, 2, 3, 4, 7] []) (.seq (.block 0 (.seq (.keep [1, 2, 3, 4, 7] [] (.loop B52x0)) (.keep [] [] .skip))) (.keep [] [] .skip))) }
theorem ok52 : fnSoundB Go.Proofs.Try.prog 52 F52 = true := by decide +kernel
/- (tendril/links.Item).Mark -/
def F53 : LFunc := { nparams := 1, results := [.tmp 2], pure := false, body :=
  (.seq (.region [
    { dst := some 2, op := .move (.c (.int .i64 0)), ix := 0 }] false [0] []) (.seq (.region [
    { dst := some 3, op := .move (.t 0), ix := 0 },
    { dst := some 4, op := .eq .ptr false (.t 3) (.c (.nilp)), ix := 1 }] false [0, 4] []) (.seq (.cond (.t 4) (.seq (.region [
    { dst := some 2, op := .move (.c (.int .i64 0)), ix := 0 }] false [2] []) (.keep [2] [] .ret)) (.keep [0] [] .skip)) (.keep [0] [] (.seq (.region [
    { dst := some 5, op := .move (.t 0), ix := 0 },
    { dst := some 6, op := .nilCheck (.t 5), ix := 1 },
    { dst := some 7, op := .fieldAddr 0 (.t 6), ix := 2 },
    { dst := some 8, op := .load 1 false (.t 7), ix := 3 },
    { dst := some 2, op := .move (.t 8), ix := 4 }] false [2] []) (.keep [2] [] .ret)))))) }
theorem ok53 : fnSoundB Go.Proofs.Try.prog 53 F53 = true := by decide +kernel
/- (tendril/links.Item).Drop -/
def F54 : LFunc := { nparams := 1, results := [.tmp 2], pure := false, body :=
  (.seq (.region [
    { dst := some 2, op := .move (.c (.int .i64 0)), ix := 0 }] false [0] []) (.seq (.block 0 (.seq (.region [
    { dst := some 4, op := .move (.t 0), ix := 0 },
    { dst := some 5, op := .eq .ptr false (.t 4) (.c (.nilp)), ix := 1 },
    { dst := some 3, op := .move (.t 5), ix := 2 }] false [0, 3] []) (.seq (.cond (.t 3) (.seq (.region [
    { dst := some 2, op := .move (.c (.int .i64 1)), ix := 0 }] false [2] []) (.keep [2] [] .ret)) (.seq (.region [
    { dst := some 7, op := .move (.t 0), ix := 0 },
    { dst := some 8, op := .nilCheck (.t 7), ix := 1 },
    { dst := some 9, op := .fieldAddr 1 (.t 8), ix := 2 },
    { dst := some 10, op := .load 1 false (.t 9), ix := 3 },
    { dst := some 11, op := .eq .ptr false (.t 10) (.c (.nilp)), ix := 4 },
    { dst := some 6, op := .move (.t 11), ix := 5 }] false [0, 6] []) (.seq (.cond (.t 6) (.seq (.region [
    { dst := some 2, op := .move (.c (.int .i64 16)), ix := 0 }] false [2] []) (.keep [2] [] .ret)) (.keep [0] [] .skip)) (.keep [0] [] .skip)))) (.keep [0] [] .skip)))) (.keep [0] [] (.seq (.region [
    { dst := some 12, op := .move (.t 0), ix := 0 },
    { dst := some 13, op := .nilCheck (.t 12), ix := 1 },
    { dst := some 14, op := .fieldAddr 4 (.t 13), ix := 2 },
    { dst := some 15, op := .load 1 false (.t 14), ix := 3 },
    { dst := some 16, op := .eq .ptr false (.t 15) (.c (.nilp)), ix := 4 }] false [0, 16] []) (.seq (.cond (.t 16) (.seq (.draw [
    { dst := some 17, op := .move (.t 0), ix := 0 },
    { dst := some 18, op := .nilCheck (.t 17), ix := 1 },
    { dst := some 19, op := .fieldAddr 1 (.t 18), ix := 2 },
    { dst := some 20, op := .load 1 false (.t 19), ix := 3 },
    { dst := some 21, op := .move (.t 0), ix := 4 },
    { dst := some 22, op := .nilCheck (.t 21), ix := 5 },
    { dst := some 23, op := .fieldAddr 5 (.t 22), ix := 6 },
    { dst := some 24, op := .load 1 false (.t 23), ix := 7 },
    { dst := some 25, op := .nilCheck (.t 20), ix := 8 },
    { dst := some 26, op := .fieldAddr 2 (.t 25), ix := 9 },
    { dst := none, op := .store 1 false (.t 26) (.t 24), ix := 10 }] [0] []) (.keep [0] [] .skip)) (.seq (.draw [
    { dst := some 27, op := .move (.t 0), ix := 0 },
    { dst := some 28, op := .nilCheck (.t 27), ix := 1 },
    { dst := some 29, op := .fieldAddr 4 (.t 28), ix := 2 },
    { dst := some 30, op := .load 1 false (.t 29), ix := 3 },
    { dst := some 31, op := .move (.t 0), ix := 4 },
    { dst := some 32, op := .nilCheck (.t 31), ix := 5 },
    { dst := some 33, op := .fieldAddr 5 (.t 32), ix := 6 },
    { dst := some 34, op := .load 1 false (.t 33), ix := 7 },
    { dst := some 35, op := .nilCheck (.t 30), ix := 8 },
    { dst := some 36, op := .fieldAddr 5 (.t 35), ix := 9 },
    { dst := none, op := .store 1 false (.t 36) (.t 34), ix := 10 }] [0] []) (.keep [0] [] .skip))) (.keep [0] [] (.seq (.region [
    { dst := some 37, op := .move (.t 0), ix := 0 },
    { dst := some 38, op := .nilCheck (.t 37), ix := 1 },
    { dst := some 39, op := .fieldAddr 5 (.t 38), ix := 2 },
    { dst := some 40, op := .load 1 false (.t 39), ix := 3 },
    { dst := some 41, op := .eq .ptr false (.t 40) (.c (.nilp)), ix := 4 }] false [0, 41] []) (.seq (.cond (.t 41) (.seq (.draw [
    { dst := some 42, op := .move (.t 0), ix := 0 },
    { dst := some 43, op := .nilCheck (.t 42), ix := 1 },
    { dst := some 44, op := .fieldAddr 1 (.t 43), ix := 2 },
    { dst := some 45, op := .load 1 false (.t 44), ix := 3 },
    { dst := some 46, op := .move (.t 0), ix := 4 },
    { dst := some 47, op := .nilCheck (.t 46), ix := 5 },
    { dst := some 48, op := .fieldAddr 4 (.t 47), ix := 6 },
    { dst := some 49, op := .load 1 false (.t 48), ix := 7 },
    { dst := some 50, op := .nilCheck (.t 45), ix := 8 },
    { dst := some 51, op := .fieldAddr 3 (.t 50), ix := 9 },
    { dst := none, op := .store 1 false (.t 51) (.t 49), ix := 10 }] [0] []) (.keep [0] [] .skip)) (.seq (.draw [
    { dst := some 52, op := .move (.t 0), ix := 0 },
    { dst := some 53, op := .nilCheck (.t 52), ix := 1 },
    { dst := some 54, op := .fieldAddr 5 (.t 53), ix := 2 },
    { dst := some 55, op := .load 1 false (.t 54), ix := 3 },
    { dst := some 56, op := .move (.t 0), ix := 4 },
    { dst := some 57, op := .nilCheck (.t 56), ix := 5 },
    { dst := some 58, op := .fieldAddr 4 (.t 57), ix := 6 },
    { dst := some 59, op := .load 1 false (.t 58), ix := 7 },
    { dst := some 60, op := .nilCheck (.t 55), ix := 8 },
    { dst := some 61, op := .fieldAddr 4 (.t 60), ix := 9 },
    { dst := none, op := .store 1 false (.t 61) (.t 59), ix := 10 }] [0] []) (.keep [0] [] .skip))) (.keep [0] [] (.seq (.region [
    { dst := some 62, op := .move (.t 0), ix := 0 },
    { dst := some 63, op := .move (.t 0), ix := 1 },
    { dst := some 64, op := .move (.t 0), ix := 2 },
    { dst := some 65, op := .nilCheck (.t 62), ix := 3 },
    { dst := some 66, op := .fieldAddr 1 (.t 65), ix := 4 },
    { dst := none, op := .store 1 false (.t 66) (.c (.nilp)), ix := 5 },
    { dst := some 67, op := .nilCheck (.t 63), ix := 6 },
    { dst := some 68, op := .fieldAddr 4 (.t 67), ix := 7 },
    { dst := none, op := .store 1 false (.t 68) (.c (.nilp)), ix := 8 },
    { dst := some 69, op := .nilCheck (.t 64), ix := 9 },
    { dst := some 70, op := .fieldAddr 5 (.t 69), ix := 10 },
    { dst := none, op := .store 1 false (.t 70) (.c (.nilp)), ix := 11 }] false [] []) (.seq (.region [
    { dst := some 2, op := .move (.c (.int .i64 0)), ix := 0 }] false [2] []) (.keep [2] [] .ret)))))))))))) }
theorem ok54 : fnSoundB Go.Proofs.Try.prog 54 F54 = true := by decide +kernel
/- (tendril/dom.Document).Remove$1 -/
def B55x0 : LCode :=
  (.seq (.region [
    { dst := some 13, op := .move (.t 4), ix := 0 },
    { dst := some 14, op := .eq .ptr true (.t 13) (.c (.nilp)), ix := 1 }] false [2, 4, 14] []) (.seq (.cond (.t 14) (.keep [2, 4] [] .skip) (.keep [] [] (.exit 0))) (.keep [2, 4] [] (.seq (.block 1 (.seq (.region [
    { dst := some 17, op := .load 1 false (.t 2), ix := 0 },
    { dst := some 18, op := .move (.t 4), ix := 1 },
    { dst := some 19, op := .callv (.t 17) [(.t 18, .as)], ix := 2 }] false [2, 4] []) (.keep [2, 4] [] .skip))) (.keep [2, 4] [] (.seq (.region [
    { dst := some 15, op := .move (.t 4), ix := 0 },
    { dst := some 16, op := .call 36 [(.t 15, .as)], ix := 1 },
    { dst := some 4, op := .move (.t 16), ix := 2 }] false [2, 4] []) (.keep [2, 4] [] .skip)))))))
def F55 : LFunc := { nparams := 3, results := [], pure := false, body :=
  (.seq (.draw [
    { dst := some 5, op := .load 1 false (.t 1), ix := 0 },
    { dst := some 6, op := .nilCheck (.t 5), ix := 1 },
    { dst := some 7, op := .fieldAddr 0 (.t 6), ix := 2 },
    { dst := some 8, op := .load 1 false (.t 7), ix := 3 },
    { dst := some 9, op := .move (.t 0), ix := 4 },
    { dst := some 10, op := .call 53 [(.t 9, .as)], ix := 5, again := [0, 3] },
    { dst := none, op := .delete 1 (.t 8) (.t 10), ix := 6 }] [0, 2] []) (.seq (.region [
    { dst := some 11, op := .move (.t 0), ix := 0 },
    { dst := some 12, op := .call 33 [(.t 11, .as)], ix := 1 },
    { dst := some 4, op := .move (.t 12), ix := 2 }] false [2, 4] []) (.seq (.block 0 (.seq (.keep [2, 4] [] (.loop B55x0)) (.keep [] [] .skip))) (.keep [] [] .skip)))) }
theorem ok55 : fnSoundB Go.Proofs.Try.prog 55 F55 = true := by decide +kernel
/- tendril/chars.Name -/
def F56 : LFunc := { nparams := 1, results := [.tmp 2], pure := true, body :=
  (.seq (.region [
    { dst := some 2, op := .move (.c (.bool false)), ix := 0 }] false [0] []) (.seq (.region [
    { dst := some 3, op := .move (.t 0), ix := 0 },
    { dst := some 4, op := .pcall 70 [(.t 3, .as), (.c (.str [45, 58, 46]), .as)], ix := 1 },
    { dst := some 2, op := .move (.t 4), ix := 2 }] false [2] []) (.keep [2] [] .ret))) }
theorem ok56 : fnSoundB Go.Proofs.Try.prog 56 F56 = true := by decide +kernel
/- tendril/attrs.With -/
def F57 : LFunc := { nparams := 3, results := [.tmp 6], pure := true, body :=
  (.seq (.region [
    { dst := some 6, op := .move (.c (.list [])), ix := 0 }] false [0, 1, 2] []) (.seq (.region [
    { dst := some 11, op := .move (.t 0), ix := 0 },
    { dst := some 12, op := .move (.t 1), ix := 1 },
    { dst := some 13, op := .pcall 72 [(.t 11, .as), (.t 12, .as)], ix := 2 },
    { dst := some 10, op := .move (.t 13), ix := 3 },
    { dst := some 14, op := .extract (.t 10) 0, ix := 4 },
    { dst := some 15, op := .extract (.t 10) 1, ix := 5 },
    { dst := some 7, op := .move (.t 14), ix := 6 },
    { dst := some 8, op := .move (.t 15), ix := 7 }] false [0, 1, 2, 7, 8] []) (.seq (.region [
    { dst := some 16, op := .move (.t 0), ix := 0 },
    { dst := some 17, op := .call 48 [(.t 16, .as)], ix := 1 },
    { dst := some 9, op := .move (.t 17), ix := 2 }] false [1, 2, 7, 8, 9] []) (.seq (.region [
    { dst := some 18, op := .move (.t 8), ix := 0 }] false [1, 2, 7, 9, 18] []) (.seq (.cond (.t 18) (.seq (.region [
    { dst := some 19, op := .move (.t 9), ix := 0 },
    { dst := some 20, op := .move (.t 7), ix := 1 },
    { dst := some 21, op := .move (.t 2), ix := 2 },
    { dst := some 22, op := .indexAddr 2 (.t 19) (.t 20), ix := 3 },
    { dst := some 23, op := .fieldAddr 1 (.t 22), ix := 4 },
    { dst := none, op := .store 1 false (.t 23) (.t 21), ix := 5 }] false [9] []) (.seq (.region [
    { dst := some 24, op := .move (.t 9), ix := 0 },
    { dst := some 6, op := .move (.t 24), ix := 1 }] false [6] []) (.keep [6] [] .ret))) (.keep [1, 2, 7, 9] [] .skip)) (.keep [1, 2, 7, 9] [] (.seq (.region [
    { dst := some 25, op := .move (.t 9), ix := 0 },
    { dst := some 26, op := .move (.t 7), ix := 1 },
    { dst := some 27, op := .move (.t 1), ix := 2 },
    { dst := some 28, op := .move (.t 2), ix := 3 },
    { dst := some 29, op := .build [.p (.str []), .p (.str [])] [(0, 1, .t 27), (1, 1, .t 28)], ix := 4 },
    { dst := some 30, op := .row 2 [.t 29], ix := 5 },
    { dst := some 31, op := .call 73 [(.t 25, .as), (.t 26, .as), (.t 30, .freeze)], ix := 6 },
    { dst := some 6, op := .move (.t 31), ix := 7 }] false [6] []) (.keep [6] [] .ret)))))))) }
theorem ok57 : fnSoundB Go.Proofs.Try.prog 57 F57 = true := by decide +kernel
/- tendril/attrs.Without -/
def F58 : LFunc := { nparams := 2, results := [.tmp 4, .tmp 5], pure := true, body :=
  (.seq (.region [
    { dst := some 3, op := .box true 3 (.t 1), ix := 0 },
    { dst := some 4, op := .move (.c (.list [])), ix := 1 },
    { dst := some 5, op := .move (.c (.bool false)), ix := 2 }] false [0, 3] []) (.seq (.region [
    { dst := some 7, op := .move (.t 0), ix := 0 },
    { dst := some 8, op := .call 48 [(.t 7, .as)], ix := 1 },
    { dst := some 9, op := .makeFunc 75 [.t 3], ix := 2 },
    { dst := some 10, op := .call 74 [(.t 8, .as), (.t 9, .as)], ix := 3 },
    { dst := some 6, op := .move (.t 10), ix := 4 }] false [0, 6] []) (.seq (.region [
    { dst := some 11, op := .move (.t 6), ix := 0 },
    { dst := some 12, op := .move (.t 6), ix := 1 },
    { dst := some 13, op := .len 1 (.t 12), ix := 2 },
    { dst := some 14, op := .move (.t 0), ix := 3 },
    { dst := some 15, op := .len 1 (.t 14), ix := 4 },
    { dst := some 16, op := .bin .lss (.t 13) (.t 15), ix := 5 },
    { dst := some 4, op := .move (.t 11), ix := 6 },
    { dst := some 5, op := .move (.t 16), ix := 7 }] false [4, 5] []) (.keep [4, 5] [] .ret)))) }
theorem ok58 : fnSoundB Go.Proofs.Try.prog 58 F58 = true := by decide +kernel
/- tendril/chars.named -/
def B70x0 : LCode :=
  (.seq (.region [
    { dst := some 23, op := .bin .lss (.t 22) (.t 21), ix := 0 }] false [0, 1, 21, 22, 23] []) (.seq (.cond (.t 23) (.keep [0, 1, 21, 22] [] .skip) (.keep [] [] (.exit 0))) (.keep [0, 1, 21, 22] [] (.seq (.block 1 (.seq (.region [
    { dst := some 24, op := .move (.t 22), ix := 0 },
    { dst := some 5, op := .move (.t 24), ix := 1 }] false [0, 1, 5, 21, 22] []) (.seq (.region [
    { dst := some 25, op := .move (.t 0), ix := 0 },
    { dst := some 26, op := .move (.t 5), ix := 1 },
    { dst := some 27, op := .index (.t 25) (.t 26), ix := 2 },
    { dst := some 6, op := .move (.t 27), ix := 3 }] false [0, 1, 6, 21, 22] []) (.seq (.region [
    { dst := some 28, op := .move (.t 6), ix := 0 },
    { dst := some 29, op := .pcall 81 [(.t 28, .as)], ix := 1 },
    { dst := some 30, op := .un .not (.t 29), ix := 2 },
    { dst := some 31, op := .move (.t 30), ix := 3 },
    { dst := some 32, op := .move (.t 6), guard := some (31, true), ix := 4 },
    { dst := some 33, op := .bin .lss (.t 32) (.c (.int .u8 48)), guard := some (31, true), ix := 5 },
    { dst := some 34, op := .move (.t 33), guard := some (31, true), ix := 6 },
    { dst := some 35, op := .move (.t 6), guard := some (34, false), ix := 7 },
    { dst := some 36, op := .bin .gtr (.t 35) (.c (.int .u8 57)), guard := some (34, false), ix := 8 },
    { dst := some 37, op := .pick (.t 34) (.c (.bool true)) (.t 36), guard := some (31, true), ix := 9 },
    { dst := some 38, op := .pick (.t 31) (.t 37) (.c (.bool false)), ix := 10 },
    { dst := some 39, op := .move (.t 38), ix := 11 },
    { dst := some 40, op := .move (.t 1), guard := some (39, true), ix := 12 },
    { dst := some 41, op := .move (.t 6), guard := some (39, true), ix := 13 },
    { dst := some 42, op := .pcall 82 [(.t 40, .as), (.t 41, .as)], guard := some (39, true), ix := 14 },
    { dst := some 43, op := .bin .lss (.t 42) (.c (.int .i64 0)), guard := some (39, true), ix := 15 },
    { dst := some 44, op := .pick (.t 39) (.t 43) (.c (.bool false)), ix := 16 }] false [0, 1, 21, 22, 44] []) (.seq (.cond (.t 44) (.seq (.region [
    { dst := some 4, op := .move (.c (.bool false)), ix := 0 }] false [4] []) (.keep [4] [] .ret)) (.keep [0, 1, 21, 22] [] .skip)) (.keep [0, 1, 21, 22] [] .skip)))))) (.keep [0, 1, 21, 22] [] (.seq (.region [
    { dst := some 45, op := .bin .add (.t 22) (.c (.int .i64 1)), ix := 0 },
    { dst := some 22, op := .move (.t 45), ix := 1 }] false [0, 1, 21, 22] []) (.keep [0, 1, 21, 22] [] .skip)))))))
def F70 : LFunc := { nparams := 2, results := [.tmp 4], pure := true, body :=
  (.seq (.region [
    { dst := some 4, op := .move (.c (.bool false)), ix := 0 }] false [0, 1] []) (.seq (.region [
    { dst := some 7, op := .move (.t 0), ix := 0 },
    { dst := some 8, op := .eq .s false (.t 7) (.c (.str [])), ix := 1 },
    { dst := some 9, op := .move (.t 8), ix := 2 },
    { dst := some 10, op := .move (.t 0), guard := some (9, false), ix := 3 },
    { dst := some 11, op := .len 0 (.t 10), guard := some (9, false), ix := 4 },
    { dst := some 12, op := .bin .gtr (.t 11) (.c (.int .i64 32)), guard := some (9, false), ix := 5 },
    { dst := some 13, op := .pick (.t 9) (.c (.bool true)) (.t 12), ix := 6 },
    { dst := some 14, op := .move (.t 13), ix := 7 },
    { dst := some 15, op := .move (.t 0), guard := some (14, false), ix := 8 },
    { dst := some 16, op := .index (.t 15) (.c (.int .i64 0)), guard := some (14, false), ix := 9 },
    { dst := some 17, op := .pcall 81 [(.t 16, .as)], guard := some (14, false), ix := 10 },
    { dst := some 18, op := .un .not (.t 17), guard := some (14, false), ix := 11 },
    { dst := some 19, op := .pick (.t 14) (.c (.bool true)) (.t 18), ix := 12 }] false [0, 1, 19] []) (.seq (.cond (.t 19) (.seq (.region [
    { dst := some 4, op := .move (.c (.bool false)), ix := 0 }] false [4] []) (.keep [4] [] .ret)) (.keep [0, 1] [] .skip)) (.keep [0, 1] [] (.seq (.region [
    { dst := some 20, op := .move (.t 0), ix := 0 },
    { dst := some 21, op := .len 0 (.t 20), ix := 1 },
    { dst := some 22, op := .move (.c (.int .i64 0)), ix := 2 }] false [0, 1, 21, 22] []) (.seq (.block 0 (.seq (.keep [0, 1, 21, 22] [] (.loop B70x0)) (.keep [] [] .skip))) (.keep [] [] (.seq (.region [
    { dst := some 4, op := .move (.c (.bool true)), ix := 0 }] false [4] []) (.keep [4] [] .ret))))))))) }
theorem ok70 : fnSoundB Go.Proofs.Try.prog 70 F70 = true := by decide +kernel
/- (tendril/links.Item).Under -/
def B71x0 : LCode :=
  (.seq (.region [
    { dst := some 7, op := .move (.t 0), ix := 0 },
    { dst := some 8, op := .eq .ptr true (.t 7) (.c (.nilp)), ix := 1 }] false [0, 1, 8] []) (.seq (.cond (.t 8) (.keep [0, 1] [] .skip) (.keep [] [] (.exit 0))) (.keep [0, 1] [] (.seq (.block 1 (.seq (.region [
    { dst := some 13, op := .move (.t 0), ix := 0 },
    { dst := some 14, op := .move (.t 1), ix := 1 },
    { dst := some 15, op := .eq .ptr false (.t 13) (.t 14), ix := 2 }] false [0, 1, 15] []) (.seq (.cond (.t 15) (.seq (.region [
    { dst := some 4, op := .move (.c (.bool true)), ix := 0 }] false [4] []) (.keep [4] [] .ret)) (.keep [0, 1] [] .skip)) (.keep [0, 1] [] .skip)))) (.keep [0, 1] [] (.seq (.region [
    { dst := some 9, op := .move (.t 0), ix := 0 },
    { dst := some 10, op := .nilCheck (.t 9), ix := 1 },
    { dst := some 11, op := .fieldAddr 1 (.t 10), ix := 2 },
    { dst := some 12, op := .load 1 false (.t 11), ix := 3 },
    { dst := some 0, op := .move (.t 12), ix := 4 }] false [0, 1] []) (.keep [0, 1] [] .skip)))))))
def F71 : LFunc := { nparams := 2, results := [.tmp 4], pure := false, body :=
  (.seq (.region [
    { dst := some 4, op := .move (.c (.bool false)), ix := 0 }] false [0, 1] []) (.seq (.region [
    { dst := some 5, op := .move (.t 1), ix := 0 },
    { dst := some 6, op := .eq .ptr false (.t 5) (.c (.nilp)), ix := 1 }] false [0, 1, 6] []) (.seq (.cond (.t 6) (.seq (.region [
    { dst := some 4, op := .move (.c (.bool false)), ix := 0 }] false [4] []) (.keep [4] [] .ret)) (.keep [0, 1] [] .skip)) (.keep [0, 1] [] (.seq (.block 0 (.seq (.keep [0, 1] [] (.loop B71x0)) (.keep [] [] .skip))) (.keep [] [] (.seq (.region [
    { dst := some 4, op := .move (.c (.bool false)), ix := 0 }] false [4] []) (.keep [4] [] .ret)))))))) }
theorem ok71 : fnSoundB Go.Proofs.Try.prog 71 F71 = true := by decide +kernel
/- tendril/attrs.find -/
def B72x0 : LCode :=
  (.seq (.region [
    { dst := some 14, op := .bin .lss (.t 13) (.t 12), ix := 0 }] false [0, 1, 6, 11, 12, 13, 14] []) (.seq (.cond (.t 14) (.keep [0, 1, 6, 11, 12, 13] [] .skip) (.keep [6] [] (.exit 0))) (.keep [0, 1, 6, 11, 12, 13] [] (.seq (.block 1 (.seq (.region [
    { dst := some 15, op := .move (.t 13), ix := 0 },
    { dst := some 16, op := .indexAddr 2 (.t 11) (.t 13), ix := 1 },
    { dst := some 17, op := .load 2 true (.t 16), ix := 2 },
    { dst := some 8, op := .alloc false 8 [.p (.str []), .p (.str [])] [], ix := 3 },
    { dst := some 7, op := .move (.t 15), ix := 4 },
    { dst := none, op := .store 2 true (.t 8) (.t 17), ix := 5 }] false [0, 1, 6, 7, 8, 11, 12, 13] [8]) (.seq (.block 2 (.seq (.block 5 (.seq (.block 4 (.seq (.block 3 (.seq (.region [
    { dst := some 19, op := .fieldAddr 0 (.t 8), ix := 0 },
    { dst := some 20, op := .load 1 false (.t 19), ix := 1 },
    { dst := some 21, op := .move (.t 1), ix := 2 },
    { dst := some 22, op := .eq .s false (.t 20) (.t 21), ix := 3 },
    { dst := some 18, op := .move (.t 22), ix := 4 }] false [0, 1, 6, 7, 8, 11, 12, 13, 18] [8]) (.seq (.cond (.t 18) (.keep [7] [] (.exit 3)) (.keep [0, 1, 6, 7, 8, 11, 12, 13] [8] .skip)) (.keep [0, 1, 6, 7, 8, 11, 12, 13] [8] (.seq (.region [
    { dst := some 24, op := .move (.t 6), ix := 0 },
    { dst := some 25, op := .move (.t 0), ix := 1 },
    { dst := some 26, op := .len 1 (.t 25), ix := 2 },
    { dst := some 27, op := .bin .lss (.t 24) (.t 26), ix := 3 },
    { dst := some 23, op := .move (.t 27), ix := 4 }] false [0, 1, 6, 7, 8, 11, 12, 13, 23] [8]) (.seq (.cond (.t 23) (.keep [0, 1, 6, 11, 12, 13] [] (.exit 4)) (.keep [0, 1, 6, 7, 8, 11, 12, 13] [8] .skip)) (.keep [0, 1, 6, 7, 8, 11, 12, 13] [8] (.seq (.region [
    { dst := some 29, op := .fieldAddr 0 (.t 8), ix := 0 },
    { dst := some 30, op := .load 1 false (.t 29), ix := 1 },
    { dst := some 31, op := .move (.t 1), ix := 2 },
    { dst := some 32, op := .bin .lss (.t 30) (.t 31), ix := 3 },
    { dst := some 28, op := .move (.t 32), ix := 4 }] false [0, 1, 6, 7, 11, 12, 13, 28] []) (.seq (.cond (.t 28) (.keep [0, 1, 6, 11, 12, 13] [] (.exit 5)) (.keep [0, 1, 7, 11, 12, 13] [] .skip)) (.keep [0, 1, 7, 11, 12, 13] [] (.exit 2))))))))))) (.keep [7] [] (.seq (.region [
    { dst := some 33, op := .move (.t 7), ix := 0 },
    { dst := some 4, op := .move (.t 33), ix := 1 },
    { dst := some 5, op := .move (.c (.bool true)), ix := 2 }] false [4, 5] []) (.seq (.keep [4, 5] [] .ret) (.keep [0, 1, 7, 11, 12, 13] [] (.exit 2))))))) (.keep [0, 1, 6, 11, 12, 13] [] .skip))) (.seq (.keep [0, 1, 6, 11, 12, 13] [] (.exit 1)) (.keep [0, 1, 7, 11, 12, 13] [] (.exit 2))))) (.keep [0, 1, 7, 11, 12, 13] [] (.seq (.region [
    { dst := some 34, op := .move (.t 7), ix := 0 },
    { dst := some 6, op := .move (.t 34), ix := 1 }] false [0, 1, 6, 11, 12, 13] []) (.keep [0, 1, 6, 11, 12, 13] [] .skip)))))) (.keep [0, 1, 6, 11, 12, 13] [] (.seq (.region [
    { dst := some 35, op := .bin .add (.t 13) (.c (.int .i64 1)), ix := 0 },
    { dst := some 13, op := .move (.t 35), ix := 1 }] false [0, 1, 6, 11, 12, 13] []) (.keep [0, 1, 6, 11, 12, 13] [] .skip)))))))
def F72 : LFunc := { nparams := 2, results := [.tmp 4, .tmp 5], pure := true, body :=
  (.seq (.region [
    { dst := some 4, op := .move (.c (.int .i64 0)), ix := 0 },
    { dst := some 5, op := .move (.c (.bool false)), ix := 1 }] false [0, 1] []) (.seq (.region [
    { dst := some 9, op := .move (.t 0), ix := 0 },
    { dst := some 10, op := .len 1 (.t 9), ix := 1 },
    { dst := some 6, op := .move (.t 10), ix := 2 }] false [0, 1, 6] []) (.seq (.region [
    { dst := some 11, op := .move (.t 0), ix := 0 },
    { dst := some 12, op := .len 1 (.t 11), ix := 1 },
    { dst := some 13, op := .move (.c (.int .i64 0)), ix := 2 }] false [0, 1, 6, 11, 12, 13] []) (.seq (.block 0 (.seq (.keep [0, 1, 6, 11, 12, 13] [] (.loop B72x0)) (.keep [6] [] .skip))) (.keep [6] [] (.seq (.region [
    { dst := some 36, op := .move (.t 6), ix := 0 },
    { dst := some 4, op := .move (.t 36), ix := 1 },
    { dst := some 5, op := .move (.c (.bool false)), ix := 2 }] false [4, 5] []) (.keep [4, 5] [] .ret))))))) }
theorem ok72 : fnSoundB Go.Proofs.Try.prog 72 F72 = true := by decide +kernel
/- tendril/attrs.Without$1 -/
def F75 : LFunc := { nparams := 2, results := [.tmp 3], pure := false, body :=
  (.seq (.region [
    { dst := some 2, op := .box false 2 (.t 0), ix := 0 },
    { dst := some 3, op := .move (.c (.bool false)), ix := 1 }] false [1, 2] [2]) (.seq (.region [
    { dst := some 4, op := .fieldAddr 0 (.t 2), ix := 0 },
    { dst := some 5, op := .load 1 false (.t 4), ix := 1 },
    { dst := some 6, op := .load 1 false (.t 1), ix := 2 },
    { dst := some 7, op := .eq .s false (.t 5) (.t 6), ix := 3 },
    { dst := some 3, op := .move (.t 7), ix := 4 }] false [3] []) (.keep [3] [] .ret))) }
theorem ok75 : fnSoundB Go.Proofs.Try.prog 75 F75 = true := by decide +kernel
/- tendril/chars.small -/
def F81 : LFunc := { nparams := 1, results := [.tmp 2], pure := true, body :=
  (.seq (.region [
    { dst := some 2, op := .move (.c (.bool false)), ix := 0 }] false [0] []) (.seq (.region [
    { dst := some 3, op := .move (.t 0), ix := 0 },
    { dst := some 4, op := .bin .geq (.t 3) (.c (.int .u8 97)), ix := 1 },
    { dst := some 5, op := .move (.t 4), ix := 2 },
    { dst := some 6, op := .move (.t 0), guard := some (5, true), ix := 3 },
    { dst := some 7, op := .bin .leq (.t 6) (.c (.int .u8 122)), guard := some (5, true), ix := 4 },
    { dst := some 8, op := .pick (.t 5) (.t 7) (.c (.bool false)), ix := 5 },
    { dst := some 2, op := .move (.t 8), ix := 6 }] false [2] []) (.keep [2] [] .ret))) }
theorem ok81 : fnSoundB Go.Proofs.Try.prog 81 F81 = true := by decide +kernel
end Go.TA.Try
