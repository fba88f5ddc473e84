/- Functions of the program, lowered: each is held against the program's own text by the kernel. -/
import Derived.Test.YtpomccmdhifdiaaLibF
import Derived.Test.YtpomccmdhifdiaaProg
set_option linter.unusedVariables false
set_option maxRecDepth 100000
namespace Go.TA.Try
/- tendril/tendrillaw38.AuditChange -/
def F6 : LFunc := { nparams := 2, results := [.tmp 4], pure := true, body :=
  (.seq (.region [
    { dst := some 4, op := .move (.c (.bool false)), ix := 0 }] false [0, 1] []) (.seq (.region [
    { dst := some 7, op := .move (.t 0), ix := 0 },
    { dst := some 8, op := .pcall 13 [(.t 7, .as), (.c (.int .i64 120), .as)], ix := 1 },
    { dst := some 9, op := .un .not (.t 8), ix := 2 },
    { dst := some 10, op := .move (.t 9), ix := 3 },
    { dst := some 11, op := .move (.t 1), guard := some (10, false), ix := 4 },
    { dst := some 12, op := .pcall 13 [(.t 11, .as), (.c (.int .i64 120), .as)], guard := some (10, false), ix := 5 },
    { dst := some 13, op := .un .not (.t 12), guard := some (10, false), ix := 6 },
    { dst := some 14, op := .pick (.t 10) (.c (.bool true)) (.t 13), ix := 7 }] false [0, 1, 14] []) (.seq (.cond (.t 14) (.seq (.region [
    { dst := some 15, op := .pcall 14 [], ix := 0 },
    { dst := some 4, op := .move (.t 15), ix := 1 }] false [4] []) (.keep [4] [] .ret)) (.keep [0, 1] [] .skip)) (.keep [0, 1] [] (.seq (.region [
    { dst := some 16, op := .move (.t 0), ix := 0 },
    { dst := some 17, op := .move (.t 1), ix := 1 },
    { dst := some 18, op := .pcall 18 [(.t 16, .as), (.t 17, .as)], ix := 2 },
    { dst := some 5, op := .alloc false 5 [.p (.list []), .p (.list []), .p (.list [])] [(0, 1000, 1), (1, 1001, 1), (2, 1002, 1)], ix := 3 },
    { dst := none, op := .store 3 true (.t 5) (.t 18), ix := 4 }] false [0, 1, 5] [5, 1000, 1001, 1002]) (.seq (.region [
    { dst := some 19, op := .move (.t 0), ix := 0 },
    { dst := some 20, op := .pcall 18 [(.t 19, .as), (.c (.list []), .as)], ix := 1 },
    { dst := some 6, op := .alloc false 6 [.p (.list []), .p (.list []), .p (.list [])] [(0, 1003, 1), (1, 1004, 1), (2, 1005, 1)], ix := 2 },
    { dst := none, op := .store 3 true (.t 6) (.t 20), ix := 3 }] false [0, 1, 5, 6] [5, 6, 1000, 1001, 1002, 1003, 1004, 1005]) (.seq (.region [
    { dst := some 21, op := .fieldAddr 0 (.t 5), ix := 0 },
    { dst := some 22, op := .load 1 false (.t 21), ix := 1 },
    { dst := some 23, op := .move (.t 0), ix := 2 },
    { dst := some 24, op := .move (.t 1), ix := 3 },
    { dst := some 25, op := .pcall 20 [(.t 23, .as), (.t 24, .as)], ix := 4 },
    { dst := some 26, op := .pcall 19 [(.t 22, .look), (.t 25, .as)], ix := 5 },
    { dst := some 27, op := .move (.t 26), ix := 6 },
    { dst := some 28, op := .fieldAddr 1 (.t 5), guard := some (27, true), ix := 7 },
    { dst := some 29, op := .load 1 false (.t 28), guard := some (27, true), ix := 8 },
    { dst := some 30, op := .move (.t 1), guard := some (27, true), ix := 9 },
    { dst := some 31, op := .move (.t 0), guard := some (27, true), ix := 10 },
    { dst := some 32, op := .pcall 20 [(.t 30, .as), (.t 31, .as)], guard := some (27, true), ix := 11 },
    { dst := some 33, op := .pcall 19 [(.t 29, .look), (.t 32, .as)], guard := some (27, true), ix := 12 },
    { dst := some 34, op := .pick (.t 27) (.t 33) (.c (.bool false)), ix := 13 },
    { dst := some 35, op := .move (.t 34), ix := 14 },
    { dst := some 36, op := .fieldAddr 2 (.t 5), guard := some (35, true), ix := 15 },
    { dst := some 37, op := .load 1 false (.t 36), guard := some (35, true), ix := 16 },
    { dst := some 38, op := .move (.t 0), guard := some (35, true), ix := 17 },
    { dst := some 39, op := .move (.t 1), guard := some (35, true), ix := 18 },
    { dst := some 40, op := .pcall 21 [(.t 38, .as), (.t 39, .as)], guard := some (35, true), ix := 19 },
    { dst := some 41, op := .pcall 19 [(.t 37, .look), (.t 40, .as)], guard := some (35, true), ix := 20 },
    { dst := some 42, op := .pick (.t 35) (.t 41) (.c (.bool false)), ix := 21 },
    { dst := some 43, op := .move (.t 42), ix := 22 },
    { dst := some 44, op := .fieldAddr 0 (.t 6), guard := some (43, true), ix := 23 },
    { dst := some 45, op := .load 1 false (.t 44), guard := some (43, true), ix := 24 },
    { dst := some 46, op := .len 1 (.t 45), guard := some (43, true), ix := 25 },
    { dst := some 47, op := .move (.t 0), guard := some (43, true), ix := 26 },
    { dst := some 48, op := .len 1 (.t 47), guard := some (43, true), ix := 27 },
    { dst := some 49, op := .eq .i false (.t 46) (.t 48), guard := some (43, true), ix := 28 },
    { dst := some 50, op := .pick (.t 43) (.t 49) (.c (.bool false)), ix := 29 },
    { dst := some 51, op := .move (.t 50), ix := 30 },
    { dst := some 52, op := .fieldAddr 1 (.t 6), guard := some (51, true), ix := 31 },
    { dst := some 53, op := .load 1 false (.t 52), guard := some (51, true), ix := 32 },
    { dst := some 54, op := .len 1 (.t 53), guard := some (51, true), ix := 33 },
    { dst := some 55, op := .fieldAddr 2 (.t 6), guard := some (51, true), ix := 34 },
    { dst := some 56, op := .load 1 false (.t 55), guard := some (51, true), ix := 35 },
    { dst := some 57, op := .len 1 (.t 56), guard := some (51, true), ix := 36 },
    { dst := some 58, op := .bin .add (.t 54) (.t 57), guard := some (51, true), ix := 37 },
    { dst := some 59, op := .eq .i false (.t 58) (.c (.int .i64 0)), guard := some (51, true), ix := 38 },
    { dst := some 60, op := .pick (.t 51) (.t 59) (.c (.bool false)), ix := 39 },
    { dst := some 61, op := .move (.t 60), ix := 40 },
    { dst := some 62, op := .pcall 14 [], guard := some (61, true), ix := 41 },
    { dst := some 63, op := .pick (.t 61) (.t 62) (.c (.bool false)), ix := 42 },
    { dst := some 4, op := .move (.t 63), ix := 43 }] true [4] []) (.keep [4] [] .ret)))))))) }
theorem ok6 : fnSoundB Go.Proofs.Try.prog 6 F6 = true := by decide +kernel
/- tendril/tendrilplain.FewRows -/
def B13x1 : LCode :=
  (.seq (.region [
    { dst := some 54, op := .bin .lss (.t 53) (.t 52), ix := 0 }] false [0, 5, 6, 10, 11, 52, 53, 54] []) (.seq (.cond (.t 54) (.keep [0, 5, 6, 10, 11, 52, 53] [] .skip) (.keep [0, 5, 10, 11] [] (.exit 2))) (.keep [0, 5, 6, 10, 11, 52, 53] [] (.seq (.block 3 (.seq (.region [
    { dst := some 55, op := .move (.t 53), ix := 0 },
    { dst := some 7, op := .move (.t 55), ix := 1 }] false [0, 5, 6, 7, 10, 11, 52, 53] []) (.seq (.region [
    { dst := some 56, op := .move (.t 5), ix := 0 },
    { dst := some 57, op := .move (.t 0), ix := 1 },
    { dst := some 58, op := .move (.t 6), ix := 2 },
    { dst := some 59, op := .indexAddr 6 (.t 57) (.t 58), ix := 3 },
    { dst := some 60, op := .fieldAddr 5 (.t 59), ix := 4 },
    { dst := some 61, op := .load 1 false (.t 60), ix := 5 },
    { dst := some 62, op := .move (.t 7), ix := 6 },
    { dst := some 63, op := .indexAddr 2 (.t 61) (.t 62), ix := 7 },
    { dst := some 64, op := .fieldAddr 1 (.t 63), ix := 8 },
    { dst := some 65, op := .load 1 false (.t 64), ix := 9 },
    { dst := some 66, op := .len 0 (.t 65), ix := 10 },
    { dst := some 67, op := .move (.t 0), ix := 11 },
    { dst := some 68, op := .move (.t 6), ix := 12 },
    { dst := some 69, op := .indexAddr 6 (.t 67) (.t 68), ix := 13 },
    { dst := some 70, op := .fieldAddr 5 (.t 69), ix := 14 },
    { dst := some 71, op := .load 1 false (.t 70), ix := 15 },
    { dst := some 72, op := .move (.t 7), ix := 16 },
    { dst := some 73, op := .indexAddr 2 (.t 71) (.t 72), ix := 17 },
    { dst := some 74, op := .fieldAddr 0 (.t 73), ix := 18 },
    { dst := some 75, op := .load 1 false (.t 74), ix := 19 },
    { dst := some 76, op := .len 0 (.t 75), ix := 20 },
    { dst := some 77, op := .bin .add (.t 66) (.t 76), ix := 21 },
    { dst := some 78, op := .bin .quo (.t 77) (.c (.int .i64 4096)), ix := 22 },
    { dst := some 79, op := .bin .sub (.t 56) (.t 78), ix := 23 },
    { dst := some 5, op := .move (.t 79), ix := 24 }] true [0, 5, 6, 10, 11, 52, 53] []) (.keep [0, 5, 6, 10, 11, 52, 53] [] .skip)))) (.keep [0, 5, 6, 10, 11, 52, 53] [] (.seq (.region [
    { dst := some 80, op := .bin .add (.t 53) (.c (.int .i64 1)), ix := 0 },
    { dst := some 53, op := .move (.t 80), ix := 1 }] false [0, 5, 6, 10, 11, 52, 53] []) (.keep [0, 5, 6, 10, 11, 52, 53] [] .skip)))))))
def B13x0 : LCode :=
  (.seq (.region [
    { dst := some 12, op := .bin .lss (.t 11) (.t 10), ix := 0 }] false [0, 5, 10, 11, 12] []) (.seq (.cond (.t 12) (.keep [0, 5, 10, 11] [] .skip) (.keep [5] [] (.exit 0))) (.keep [0, 5, 10, 11] [] (.seq (.block 1 (.seq (.region [
    { dst := some 13, op := .move (.t 11), ix := 0 },
    { dst := some 6, op := .move (.t 13), ix := 1 }] false [0, 5, 6, 10, 11] []) (.seq (.region [
    { dst := some 14, op := .move (.t 5), ix := 0 },
    { dst := some 15, op := .bin .sub (.t 14) (.c (.int .i64 1)), ix := 1 },
    { dst := some 16, op := .move (.t 0), ix := 2 },
    { dst := some 17, op := .move (.t 6), ix := 3 },
    { dst := some 18, op := .indexAddr 6 (.t 16) (.t 17), ix := 4 },
    { dst := some 19, op := .fieldAddr 5 (.t 18), ix := 5 },
    { dst := some 20, op := .load 1 false (.t 19), ix := 6 },
    { dst := some 21, op := .len 1 (.t 20), ix := 7 },
    { dst := some 22, op := .bin .sub (.t 15) (.t 21), ix := 8 },
    { dst := some 23, op := .move (.t 0), ix := 9 },
    { dst := some 24, op := .move (.t 6), ix := 10 },
    { dst := some 25, op := .indexAddr 6 (.t 23) (.t 24), ix := 11 },
    { dst := some 26, op := .fieldAddr 4 (.t 25), ix := 12 },
    { dst := some 27, op := .load 1 false (.t 26), ix := 13 },
    { dst := some 28, op := .len 0 (.t 27), ix := 14 },
    { dst := some 29, op := .move (.t 0), ix := 15 },
    { dst := some 30, op := .move (.t 6), ix := 16 },
    { dst := some 31, op := .indexAddr 6 (.t 29) (.t 30), ix := 17 },
    { dst := some 32, op := .fieldAddr 3 (.t 31), ix := 18 },
    { dst := some 33, op := .load 1 false (.t 32), ix := 19 },
    { dst := some 34, op := .len 0 (.t 33), ix := 20 },
    { dst := some 35, op := .bin .add (.t 28) (.t 34), ix := 21 },
    { dst := some 36, op := .move (.t 0), ix := 22 },
    { dst := some 37, op := .move (.t 6), ix := 23 },
    { dst := some 38, op := .indexAddr 6 (.t 36) (.t 37), ix := 24 },
    { dst := some 39, op := .fieldAddr 2 (.t 38), ix := 25 },
    { dst := some 40, op := .load 1 false (.t 39), ix := 26 },
    { dst := some 41, op := .len 0 (.t 40), ix := 27 },
    { dst := some 42, op := .bin .add (.t 35) (.t 41), ix := 28 },
    { dst := some 43, op := .bin .quo (.t 42) (.c (.int .i64 4096)), ix := 29 },
    { dst := some 44, op := .bin .sub (.t 22) (.t 43), ix := 30 },
    { dst := some 5, op := .move (.t 44), ix := 31 }] true [0, 5, 6, 10, 11] []) (.seq (.region [
    { dst := some 45, op := .move (.t 5), ix := 0 },
    { dst := some 46, op := .bin .lss (.t 45) (.c (.int .i64 0)), ix := 1 }] false [0, 5, 6, 10, 11, 46] []) (.seq (.cond (.t 46) (.seq (.region [
    { dst := some 4, op := .move (.c (.bool false)), ix := 0 }] false [4] []) (.keep [4] [] .ret)) (.keep [0, 5, 6, 10, 11] [] .skip)) (.keep [0, 5, 6, 10, 11] [] (.seq (.region [
    { dst := some 47, op := .move (.t 0), ix := 0 },
    { dst := some 48, op := .move (.t 6), ix := 1 },
    { dst := some 49, op := .indexAddr 6 (.t 47) (.t 48), ix := 2 },
    { dst := some 50, op := .fieldAddr 5 (.t 49), ix := 3 },
    { dst := some 51, op := .load 1 false (.t 50), ix := 4 },
    { dst := some 52, op := .len 1 (.t 51), ix := 5 },
    { dst := some 53, op := .move (.c (.int .i64 0)), ix := 6 }] false [0, 5, 6, 10, 11, 52, 53] []) (.seq (.block 2 (.seq (.keep [0, 5, 6, 10, 11, 52, 53] [] (.loop B13x1)) (.keep [0, 5, 10, 11] [] .skip))) (.keep [0, 5, 10, 11] [] .skip))))))))) (.keep [0, 5, 10, 11] [] (.seq (.region [
    { dst := some 81, op := .bin .add (.t 11) (.c (.int .i64 1)), ix := 0 },
    { dst := some 11, op := .move (.t 81), ix := 1 }] false [0, 5, 10, 11] []) (.keep [0, 5, 10, 11] [] .skip)))))))
def F13 : LFunc := { nparams := 2, results := [.tmp 4], pure := true, body :=
  (.seq (.region [
    { dst := some 4, op := .move (.c (.bool false)), ix := 0 }] false [0, 1] []) (.seq (.region [
    { dst := some 8, op := .move (.t 1), ix := 0 },
    { dst := some 5, op := .move (.t 8), ix := 1 }] false [0, 5] []) (.seq (.region [
    { dst := some 9, op := .move (.t 0), ix := 0 },
    { dst := some 10, op := .len 1 (.t 9), ix := 1 },
    { dst := some 11, op := .move (.c (.int .i64 0)), ix := 2 }] false [0, 5, 10, 11] []) (.seq (.block 0 (.seq (.keep [0, 5, 10, 11] [] (.loop B13x0)) (.keep [5] [] .skip))) (.keep [5] [] (.seq (.region [
    { dst := some 82, op := .move (.t 5), ix := 0 },
    { dst := some 83, op := .bin .geq (.t 82) (.c (.int .i64 0)), ix := 1 },
    { dst := some 4, op := .move (.t 83), ix := 2 }] false [4] []) (.keep [4] [] .ret))))))) }
theorem ok13 : fnSoundB Go.Proofs.Try.prog 13 F13 = true := by decide +kernel
/- tendril/tendrillaw38.same -/
def F14 : LFunc := { nparams := 0, results := [.tmp 0], pure := true, body :=
  (.seq (.region [
    { dst := some 0, op := .move (.c (.bool false)), ix := 0 }] false [] []) (.seq (.region [
    { dst := some 6, op := .build [.p (.int .i64 0), .p (.int .i64 0), .p (.str []), .p (.str []), .p (.str []), .p (.list [])] [(0, 1, .c (.int .i64 5)), (2, 1, .c (.str [112]))], ix := 0 },
    { dst := some 7, op := .build [.p (.int .i64 0), .p (.int .i64 0), .p (.str []), .p (.str []), .p (.str []), .p (.list [])] [(0, 1, .c (.int .i64 6)), (1, 1, .c (.int .i64 1)), (2, 1, .c (.str [98]))], ix := 1 },
    { dst := some 8, op := .row 6 [.t 6, .t 7], ix := 2 },
    { dst := some 9, op := .pcall 15 [(.t 8, .freeze)], ix := 3 },
    { dst := some 5, op := .move (.t 9), ix := 4 },
    { dst := some 10, op := .extract (.t 5) 0, ix := 5 },
    { dst := some 11, op := .extract (.t 5) 1, ix := 6 },
    { dst := some 1, op := .move (.t 10), ix := 7 },
    { dst := some 2, op := .move (.t 11), ix := 8 }] false [1, 2] []) (.seq (.region [
    { dst := some 13, op := .build [.p (.int .i64 0), .p (.int .i64 0), .p (.str []), .p (.str []), .p (.str []), .p (.list [])] [(0, 1, .c (.int .i64 5)), (1, 1, .c (.int .i64 1))], ix := 0 },
    { dst := some 14, op := .row 6 [.t 13], ix := 1 },
    { dst := some 15, op := .pcall 15 [(.t 14, .freeze)], ix := 2 },
    { dst := some 12, op := .move (.t 15), ix := 3 },
    { dst := some 16, op := .extract (.t 12) 0, ix := 4 },
    { dst := some 17, op := .extract (.t 12) 1, ix := 5 },
    { dst := some 3, op := .move (.t 16), ix := 6 },
    { dst := some 4, op := .move (.t 17), ix := 7 }] false [1, 2, 4] []) (.seq (.region [
    { dst := some 18, op := .move (.t 2), ix := 0 },
    { dst := some 19, op := .eq .i false (.t 18) (.c (.int .i64 0)), ix := 1 },
    { dst := some 20, op := .move (.t 19), ix := 2 },
    { dst := some 21, op := .move (.t 4), guard := some (20, true), ix := 3 },
    { dst := some 22, op := .eq .i false (.t 21) (.c (.int .i64 2)), guard := some (20, true), ix := 4 },
    { dst := some 23, op := .pick (.t 20) (.t 22) (.c (.bool false)), ix := 5 },
    { dst := some 24, op := .move (.t 23), ix := 6 },
    { dst := some 25, op := .move (.t 1), guard := some (24, true), ix := 7 },
    { dst := some 26, op := .len 1 (.t 25), guard := some (24, true), ix := 8 },
    { dst := some 27, op := .eq .i false (.t 26) (.c (.int .i64 3)), guard := some (24, true), ix := 9 },
    { dst := some 28, op := .pick (.t 24) (.t 27) (.c (.bool false)), ix := 10 },
    { dst := some 29, op := .move (.t 28), ix := 11 },
    { dst := some 30, op := .move (.t 1), guard := some (29, true), ix := 12 },
    { dst := some 31, op := .indexAddr 5 (.t 30) (.c (.int .i64 0)), guard := some (29, true), ix := 13 },
    { dst := some 32, op := .fieldAddr 1 (.t 31), guard := some (29, true), ix := 14 },
    { dst := some 33, op := .load 1 false (.t 32), guard := some (29, true), ix := 15 },
    { dst := some 34, op := .eq .i false (.t 33) (.c (.int .i64 5)), guard := some (29, true), ix := 16 },
    { dst := some 35, op := .pick (.t 29) (.t 34) (.c (.bool false)), ix := 17 },
    { dst := some 36, op := .move (.t 35), ix := 18 },
    { dst := some 37, op := .move (.t 1), guard := some (36, true), ix := 19 },
    { dst := some 38, op := .indexAddr 5 (.t 37) (.c (.int .i64 0)), guard := some (36, true), ix := 20 },
    { dst := some 39, op := .fieldAddr 0 (.t 38), guard := some (36, true), ix := 21 },
    { dst := some 40, op := .load 1 false (.t 39), guard := some (36, true), ix := 22 },
    { dst := some 41, op := .eq .i false (.t 40) (.c (.int .i64 (-1))), guard := some (36, true), ix := 23 },
    { dst := some 42, op := .pick (.t 36) (.t 41) (.c (.bool false)), ix := 24 },
    { dst := some 43, op := .move (.t 42), ix := 25 },
    { dst := some 44, op := .move (.t 1), guard := some (43, true), ix := 26 },
    { dst := some 45, op := .indexAddr 5 (.t 44) (.c (.int .i64 1)), guard := some (43, true), ix := 27 },
    { dst := some 46, op := .load 5 true (.t 45), guard := some (43, true), ix := 28 },
    { dst := some 47, op := .build [.p (.int .i64 0), .p (.int .i64 0), .p (.int .i64 0), .p (.int .i64 0), .p (.int .i64 0)] [(0, 1, .c (.int .i64 0)), (1, 1, .c (.int .i64 6)), (2, 1, .c (.int .i64 6)), (3, 1, .c (.int .i64 (-1))), (4, 1, .c (.int .i64 (-1)))], guard := some (43, true), ix := 29 },
    { dst := some 48, op := .eq (.st [1, 1, 1, 1, 1]) false (.t 46) (.t 47), guard := some (43, true), ix := 30 },
    { dst := some 49, op := .pick (.t 43) (.t 48) (.c (.bool false)), ix := 31 },
    { dst := some 50, op := .move (.t 49), ix := 32 },
    { dst := some 51, op := .move (.t 1), guard := some (50, true), ix := 33 },
    { dst := some 52, op := .indexAddr 5 (.t 51) (.c (.int .i64 2)), guard := some (50, true), ix := 34 },
    { dst := some 53, op := .fieldAddr 0 (.t 52), guard := some (50, true), ix := 35 },
    { dst := some 54, op := .load 1 false (.t 53), guard := some (50, true), ix := 36 },
    { dst := some 55, op := .eq .i false (.t 54) (.c (.int .i64 5)), guard := some (50, true), ix := 37 },
    { dst := some 56, op := .pick (.t 50) (.t 55) (.c (.bool false)), ix := 38 },
    { dst := some 57, op := .move (.t 56), ix := 39 },
    { dst := some 58, op := .call 37 [(.c (.nilp), .as)], guard := some (57, true), ix := 40 },
    { dst := some 59, op := .eq .i false (.t 58) (.c (.int .i64 1)), guard := some (57, true), ix := 41 },
    { dst := some 60, op := .pick (.t 57) (.t 59) (.c (.bool false)), ix := 42 },
    { dst := some 61, op := .move (.t 60), ix := 43 },
    { dst := some 62, op := .call 38 [(.c (.nilp), .as)], guard := some (61, true), ix := 44 },
    { dst := some 63, op := .eq .i false (.t 62) (.c (.int .i64 1)), guard := some (61, true), ix := 45 },
    { dst := some 64, op := .pick (.t 61) (.t 63) (.c (.bool false)), ix := 46 },
    { dst := some 0, op := .move (.t 64), ix := 47 }] false [0] []) (.keep [0] [] .ret))))) }
theorem ok14 : fnSoundB Go.Proofs.Try.prog 14 F14 = true := by decide +kernel
/- tendril/audit.Links -/
def B15x0 : LCode :=
  (.seq (.region [
    { dst := some 21, op := .bin .lss (.t 20) (.t 19), ix := 0 }] false [0, 4, 19, 20, 21] [17]) (.seq (.cond (.t 21) (.keep [0, 4, 19, 20] [17] .skip) (.keep [0, 4] [17] (.exit 0))) (.keep [0, 4, 19, 20] [17] (.seq (.block 1 (.seq (.region [
    { dst := some 22, op := .move (.t 20), ix := 0 },
    { dst := some 5, op := .move (.t 22), ix := 1 }] false [0, 4, 5, 19, 20] [17]) (.seq (.region [
    { dst := some 23, op := .move (.t 4), ix := 0 },
    { dst := some 24, op := .move (.t 5), ix := 1 },
    { dst := some 25, op := .build [.p (.int .i64 0), .p (.int .i64 0), .p (.int .i64 0), .p (.int .i64 0), .p (.int .i64 0)] [(0, 1, .c (.int .i64 (-1))), (1, 1, .c (.int .i64 (-1))), (2, 1, .c (.int .i64 (-1))), (3, 1, .c (.int .i64 (-1))), (4, 1, .c (.int .i64 (-1)))], ix := 2 },
    { dst := some 26, op := .indexAddr 5 (.t 23) (.t 24), ix := 3 },
    { dst := none, op := .store 5 true (.t 26) (.t 25), ix := 4 }] false [0, 4, 19, 20] [17]) (.keep [0, 4, 19, 20] [17] .skip)))) (.keep [0, 4, 19, 20] [17] (.seq (.region [
    { dst := some 27, op := .bin .add (.t 20) (.c (.int .i64 1)), ix := 0 },
    { dst := some 20, op := .move (.t 27), ix := 1 }] false [0, 4, 19, 20] [17]) (.keep [0, 4, 19, 20] [17] .skip)))))))
def B15x1 : LCode :=
  (.seq (.region [
    { dst := some 35, op := .bin .lss (.t 34) (.t 33), ix := 0 }] false [0, 4, 6, 32, 33, 34, 35] [17, 31]) (.seq (.cond (.t 35) (.keep [0, 4, 6, 32, 33, 34] [17, 31] .skip) (.keep [4] [17] (.exit 2))) (.keep [0, 4, 6, 32, 33, 34] [17, 31] (.seq (.block 3 (.seq (.region [
    { dst := some 36, op := .move (.t 34), ix := 0 },
    { dst := some 37, op := .indexAddr 6 (.t 32) (.t 34), ix := 1 },
    { dst := some 38, op := .load 6 true (.t 37), ix := 2 },
    { dst := some 8, op := .alloc false 8 [.p (.int .i64 0), .p (.int .i64 0), .p (.str []), .p (.str []), .p (.str []), .p (.list [])] [], ix := 3 },
    { dst := some 7, op := .move (.t 36), ix := 4 },
    { dst := none, op := .store 6 true (.t 8) (.t 38), ix := 5 }] false [0, 4, 6, 7, 8, 32, 33, 34] [8, 17, 31]) (.seq (.region [
    { dst := some 39, op := .move (.t 7), ix := 0 },
    { dst := some 40, op := .bin .add (.t 39) (.c (.int .i64 1)), ix := 1 },
    { dst := some 9, op := .move (.t 40), ix := 2 }] false [0, 4, 6, 8, 9, 32, 33, 34] [8, 17, 31]) (.seq (.region [
    { dst := some 41, op := .move (.t 4), ix := 0 },
    { dst := some 42, op := .move (.t 9), ix := 1 },
    { dst := some 43, op := .indexAddr 5 (.t 41) (.t 42), ix := 2 },
    { dst := some 44, op := .fieldAddr 0 (.t 43), ix := 3 },
    { dst := none, op := .store 1 false (.t 44) (.c (.int .i64 0)), ix := 4 }] false [0, 4, 6, 8, 9, 32, 33, 34] [8, 17, 31]) (.seq (.region [
    { dst := some 45, op := .fieldAddr 1 (.t 8), ix := 0 },
    { dst := some 46, op := .load 1 false (.t 45), ix := 1 },
    { dst := some 47, op := .bin .gtr (.t 46) (.c (.int .i64 0)), ix := 2 }] false [0, 4, 6, 8, 9, 32, 33, 34, 47] [8, 17, 31]) (.seq (.cond (.t 47) (.seq (.region [
    { dst := some 48, op := .move (.t 4), ix := 0 },
    { dst := some 49, op := .move (.t 9), ix := 1 },
    { dst := some 50, op := .move (.t 0), ix := 2 },
    { dst := some 51, op := .fieldAddr 1 (.t 8), ix := 3 },
    { dst := some 52, op := .load 1 false (.t 51), ix := 4 },
    { dst := some 53, op := .bin .sub (.t 52) (.c (.int .i64 1)), ix := 5 },
    { dst := some 54, op := .indexAddr 6 (.t 50) (.t 53), ix := 6 },
    { dst := some 55, op := .fieldAddr 0 (.t 54), ix := 7 },
    { dst := some 56, op := .load 1 false (.t 55), ix := 8 },
    { dst := some 57, op := .indexAddr 5 (.t 48) (.t 49), ix := 9 },
    { dst := some 58, op := .fieldAddr 0 (.t 57), ix := 10 },
    { dst := none, op := .store 1 false (.t 58) (.t 56), ix := 11 }] false [0, 4, 6, 8, 9, 32, 33, 34] [8, 17, 31]) (.keep [0, 4, 6, 8, 9, 32, 33, 34] [8, 17, 31] .skip)) (.keep [0, 4, 6, 8, 9, 32, 33, 34] [8, 17, 31] .skip)) (.keep [0, 4, 6, 8, 9, 32, 33, 34] [8, 17, 31] (.seq (.region [
    { dst := some 59, op := .move (.t 6), ix := 0 },
    { dst := some 60, op := .fieldAddr 1 (.t 8), ix := 1 },
    { dst := some 61, op := .load 1 false (.t 60), ix := 2 },
    { dst := some 62, op := .indexAddr 1 (.t 59) (.t 61), ix := 3 },
    { dst := some 63, op := .load 1 false (.t 62), ix := 4 },
    { dst := some 10, op := .move (.t 63), ix := 5 }] false [0, 4, 6, 8, 9, 10, 32, 33, 34] [8, 17, 31]) (.seq (.region [
    { dst := some 64, op := .move (.t 10), ix := 0 },
    { dst := some 65, op := .bin .gtr (.t 64) (.c (.int .i64 0)), ix := 1 }] false [0, 4, 6, 8, 9, 10, 32, 33, 34, 65] [8, 17, 31]) (.seq (.cond (.t 65) (.seq (.region [
    { dst := some 66, op := .move (.t 4), ix := 0 },
    { dst := some 67, op := .move (.t 9), ix := 1 },
    { dst := some 68, op := .move (.t 0), ix := 2 },
    { dst := some 69, op := .move (.t 10), ix := 3 },
    { dst := some 70, op := .bin .sub (.t 69) (.c (.int .i64 1)), ix := 4 },
    { dst := some 71, op := .indexAddr 6 (.t 68) (.t 70), ix := 5 },
    { dst := some 72, op := .fieldAddr 0 (.t 71), ix := 6 },
    { dst := some 73, op := .load 1 false (.t 72), ix := 7 },
    { dst := some 74, op := .indexAddr 5 (.t 66) (.t 67), ix := 8 },
    { dst := some 75, op := .fieldAddr 3 (.t 74), ix := 9 },
    { dst := none, op := .store 1 false (.t 75) (.t 73), ix := 10 }] false [0, 4, 6, 8, 9, 10, 32, 33, 34] [8, 17, 31]) (.seq (.region [
    { dst := some 76, op := .move (.t 4), ix := 0 },
    { dst := some 77, op := .move (.t 10), ix := 1 },
    { dst := some 78, op := .fieldAddr 0 (.t 8), ix := 2 },
    { dst := some 79, op := .load 1 false (.t 78), ix := 3 },
    { dst := some 80, op := .indexAddr 5 (.t 76) (.t 77), ix := 4 },
    { dst := some 81, op := .fieldAddr 4 (.t 80), ix := 5 },
    { dst := none, op := .store 1 false (.t 81) (.t 79), ix := 6 }] false [0, 4, 6, 8, 9, 32, 33, 34] [8, 17, 31]) (.keep [0, 4, 6, 8, 9, 32, 33, 34] [8, 17, 31] .skip))) (.seq (.region [
    { dst := some 82, op := .move (.t 4), ix := 0 },
    { dst := some 83, op := .fieldAddr 1 (.t 8), ix := 1 },
    { dst := some 84, op := .load 1 false (.t 83), ix := 2 },
    { dst := some 85, op := .fieldAddr 0 (.t 8), ix := 3 },
    { dst := some 86, op := .load 1 false (.t 85), ix := 4 },
    { dst := some 87, op := .indexAddr 5 (.t 82) (.t 84), ix := 5 },
    { dst := some 88, op := .fieldAddr 1 (.t 87), ix := 6 },
    { dst := none, op := .store 1 false (.t 88) (.t 86), ix := 7 }] false [0, 4, 6, 8, 9, 32, 33, 34] [8, 17, 31]) (.keep [0, 4, 6, 8, 9, 32, 33, 34] [8, 17, 31] .skip))) (.keep [0, 4, 6, 8, 9, 32, 33, 34] [8, 17, 31] (.seq (.region [
    { dst := some 89, op := .move (.t 4), ix := 0 },
    { dst := some 90, op := .fieldAddr 1 (.t 8), ix := 1 },
    { dst := some 91, op := .load 1 false (.t 90), ix := 2 },
    { dst := some 92, op := .fieldAddr 0 (.t 8), ix := 3 },
    { dst := some 93, op := .load 1 false (.t 92), ix := 4 },
    { dst := some 94, op := .indexAddr 5 (.t 89) (.t 91), ix := 5 },
    { dst := some 95, op := .fieldAddr 2 (.t 94), ix := 6 },
    { dst := none, op := .store 1 false (.t 95) (.t 93), ix := 7 }] false [0, 4, 6, 8, 9, 32, 33, 34] [8, 17, 31]) (.seq (.region [
    { dst := some 96, op := .move (.t 6), ix := 0 },
    { dst := some 97, op := .fieldAddr 1 (.t 8), ix := 1 },
    { dst := some 98, op := .load 1 false (.t 97), ix := 2 },
    { dst := some 99, op := .move (.t 9), ix := 3 },
    { dst := some 100, op := .indexAddr 1 (.t 96) (.t 98), ix := 4 },
    { dst := none, op := .store 1 false (.t 100) (.t 99), ix := 5 }] false [0, 4, 6, 32, 33, 34] [17, 31]) (.keep [0, 4, 6, 32, 33, 34] [17, 31] .skip)))))))))))))) (.keep [0, 4, 6, 32, 33, 34] [17, 31] (.seq (.region [
    { dst := some 101, op := .bin .add (.t 34) (.c (.int .i64 1)), ix := 0 },
    { dst := some 34, op := .move (.t 101), ix := 1 }] false [0, 4, 6, 32, 33, 34] [17, 31]) (.keep [0, 4, 6, 32, 33, 34] [17, 31] .skip)))))))
def F15 : LFunc := { nparams := 1, results := [.tmp 2, .tmp 3], pure := true, body :=
  (.seq (.region [
    { dst := some 2, op := .move (.c (.list [])), ix := 0 },
    { dst := some 3, op := .move (.c (.int .i64 0)), ix := 1 }] false [0] []) (.seq (.region [
    { dst := some 11, op := .move (.t 0), ix := 0 },
    { dst := some 12, op := .pcall 39 [(.t 11, .as)], ix := 1 },
    { dst := some 13, op := .un .not (.t 12), ix := 2 }] false [0, 13] []) (.seq (.cond (.t 13) (.seq (.region [
    { dst := some 2, op := .move (.c (.list [])), ix := 0 },
    { dst := some 3, op := .move (.c (.int .i64 2)), ix := 1 }] false [2, 3] [17]) (.keep [2, 3] [17] .ret)) (.keep [0] [] .skip)) (.keep [0] [] (.seq (.region [
    { dst := some 14, op := .move (.t 0), ix := 0 },
    { dst := some 15, op := .len 1 (.t 14), ix := 1 },
    { dst := some 16, op := .bin .add (.t 15) (.c (.int .i64 1)), ix := 2 },
    { dst := some 17, op := .makeRow false 17 5 40 [.int .i64 0, .int .i64 0, .int .i64 0, .int .i64 0, .int .i64 0] (.t 16) (.t 16), ix := 3 },
    { dst := some 4, op := .move (.t 17), ix := 4 }] false [0, 4] [17]) (.seq (.region [
    { dst := some 18, op := .move (.t 4), ix := 0 },
    { dst := some 19, op := .len 1 (.t 18), ix := 1 },
    { dst := some 20, op := .move (.c (.int .i64 0)), ix := 2 }] false [0, 4, 19, 20] [17]) (.seq (.block 0 (.seq (.keep [0, 4, 19, 20] [17] (.loop B15x0)) (.keep [0, 4] [17] .skip))) (.keep [0, 4] [17] (.seq (.region [
    { dst := some 28, op := .move (.t 0), ix := 0 },
    { dst := some 29, op := .len 1 (.t 28), ix := 1 },
    { dst := some 30, op := .bin .add (.t 29) (.c (.int .i64 1)), ix := 2 },
    { dst := some 31, op := .makeRow false 31 1 8 [.int .i64 0] (.t 30) (.t 30), ix := 3 },
    { dst := some 6, op := .move (.t 31), ix := 4 }] false [0, 4, 6] [17, 31]) (.seq (.region [
    { dst := some 32, op := .move (.t 0), ix := 0 },
    { dst := some 33, op := .len 1 (.t 32), ix := 1 },
    { dst := some 34, op := .move (.c (.int .i64 0)), ix := 2 }] false [0, 4, 6, 32, 33, 34] [17, 31]) (.seq (.block 2 (.seq (.keep [0, 4, 6, 32, 33, 34] [17, 31] (.loop B15x1)) (.keep [4] [17] .skip))) (.keep [4] [17] (.seq (.region [
    { dst := some 102, op := .move (.t 4), ix := 0 },
    { dst := some 2, op := .move (.t 102), ix := 1 },
    { dst := some 3, op := .move (.c (.int .i64 0)), ix := 2 }] false [2, 3] [17]) (.keep [2, 3] [17] .ret)))))))))))))) }
theorem ok15 : fnSoundB Go.Proofs.Try.prog 15 F15 = true := by decide +kernel
/- tendril/audit.Change -/
def B18x0 : LCode :=
  (.seq (.region [
    { dst := some 23, op := .bin .lss (.t 22) (.t 21), ix := 0 }] false [1, 4, 5, 6, 7, 20, 21, 22, 23] [4, 5, 1000, 1001, 1002, 1003, 1004, 1005]) (.seq (.cond (.t 23) (.keep [1, 4, 5, 6, 7, 20, 21, 22] [4, 5, 1000, 1001, 1002, 1003, 1004, 1005] .skip) (.keep [1, 4, 5, 6] [4, 5, 1000, 1001, 1002, 1003, 1004, 1005] (.exit 0))) (.keep [1, 4, 5, 6, 7, 20, 21, 22] [4, 5, 1000, 1001, 1002, 1003, 1004, 1005] (.seq (.block 1 (.seq (.region [
    { dst := some 24, op := .indexAddr 6 (.t 20) (.t 22), ix := 0 },
    { dst := some 25, op := .load 6 true (.t 24), ix := 1 },
    { dst := some 9, op := .alloc false 9 [.p (.int .i64 0), .p (.int .i64 0), .p (.str []), .p (.str []), .p (.str []), .p (.list [])] [], ix := 2 },
    { dst := none, op := .store 6 true (.t 9) (.t 25), ix := 3 }] false [1, 4, 5, 6, 7, 9, 20, 21, 22] [4, 5, 9, 1000, 1001, 1002, 1003, 1004, 1005]) (.seq (.region [
    { dst := some 27, op := .move (.t 7), ix := 0 },
    { dst := some 28, op := .fieldAddr 0 (.t 9), ix := 1 },
    { dst := some 29, op := .load 1 false (.t 28), ix := 2 },
    { dst := some 30, op := .lookup 1 (.agg [.int .i64 0, .int .i64 0, .str [], .str [], .str [], .list []]) true (.t 27) (.t 29), ix := 3 },
    { dst := some 26, op := .move (.t 30), ix := 4 },
    { dst := some 31, op := .extract (.t 26) 0, ix := 5 },
    { dst := some 32, op := .extract (.t 26) 1, ix := 6 },
    { dst := some 10, op := .alloc false 10 [.p (.int .i64 0), .p (.int .i64 0), .p (.str []), .p (.str []), .p (.str []), .p (.list [])] [], ix := 7 },
    { dst := none, op := .store 6 true (.t 10) (.t 31), ix := 8 },
    { dst := some 11, op := .move (.t 32), ix := 9 }] false [1, 4, 5, 6, 7, 9, 11, 20, 21, 22] [4, 5, 9, 1000, 1001, 1002, 1003, 1004, 1005]) (.seq (.region [
    { dst := some 33, op := .move (.t 11), ix := 0 },
    { dst := some 34, op := .un .not (.t 33), ix := 1 }] false [1, 4, 5, 6, 7, 9, 20, 21, 22, 34] [4, 5, 9, 1000, 1001, 1002, 1003, 1004, 1005]) (.seq (.cond (.t 34) (.seq (.region [
    { dst := some 35, op := .fieldAddr 0 (.t 5), ix := 0 },
    { dst := some 36, op := .load 1 false (.t 35), ix := 1 },
    { dst := some 37, op := .fieldAddr 0 (.t 9), ix := 2 },
    { dst := some 38, op := .load 1 false (.t 37), ix := 3 },
    { dst := some 39, op := .row 1 [.t 38], ix := 4 },
    { dst := some 40, op := .append false 1006 1 8 (.t 36) (.t 39), ix := 5 },
    { dst := some 41, op := .fieldAddr 0 (.t 5), ix := 6 },
    { dst := none, op := .store 1 false (.t 41) (.t 40), ix := 7 }] false [1, 4, 5, 6, 7, 20, 21, 22] [4, 5, 1000, 1001, 1002, 1003, 1004, 1005]) (.keep [1, 4, 5, 6, 7, 20, 21, 22] [4, 5, 1000, 1001, 1002, 1003, 1004, 1005] .skip)) (.keep [1, 4, 5, 6, 7, 20, 21, 22] [4, 5, 1000, 1001, 1002, 1003, 1004, 1005] .skip)) (.keep [1, 4, 5, 6, 7, 20, 21, 22] [4, 5, 1000, 1001, 1002, 1003, 1004, 1005] .skip)))))) (.keep [1, 4, 5, 6, 7, 20, 21, 22] [4, 5, 1000, 1001, 1002, 1003, 1004, 1005] (.seq (.region [
    { dst := some 42, op := .bin .add (.t 22) (.c (.int .i64 1)), ix := 0 },
    { dst := some 22, op := .move (.t 42), ix := 1 }] false [1, 4, 5, 6, 7, 20, 21, 22] [4, 5, 1000, 1001, 1002, 1003, 1004, 1005]) (.keep [1, 4, 5, 6, 7, 20, 21, 22] [4, 5, 1000, 1001, 1002, 1003, 1004, 1005] .skip)))))))
def B18x1 : LCode :=
  (.seq (.region [
    { dst := some 46, op := .bin .lss (.t 45) (.t 44), ix := 0 }] false [4, 5, 6, 43, 44, 45, 46] [4, 5, 1000, 1001, 1002, 1003, 1004, 1005]) (.seq (.cond (.t 46) (.keep [4, 5, 6, 43, 44, 45] [4, 5, 1000, 1001, 1002, 1003, 1004, 1005] .skip) (.keep [4, 5] [4, 5, 1000, 1001, 1002, 1003, 1004, 1005] (.exit 2))) (.keep [4, 5, 6, 43, 44, 45] [4, 5, 1000, 1001, 1002, 1003, 1004, 1005] (.seq (.block 3 (.seq (.region [
    { dst := some 47, op := .indexAddr 6 (.t 43) (.t 45), ix := 0 },
    { dst := some 48, op := .load 6 true (.t 47), ix := 1 },
    { dst := some 13, op := .alloc false 13 [.p (.int .i64 0), .p (.int .i64 0), .p (.str []), .p (.str []), .p (.str []), .p (.list [])] [], ix := 2 },
    { dst := none, op := .store 6 true (.t 13) (.t 48), ix := 3 }] false [4, 5, 6, 13, 43, 44, 45] [4, 5, 13, 1000, 1001, 1002, 1003, 1004, 1005]) (.seq (.region [
    { dst := some 50, op := .move (.t 6), ix := 0 },
    { dst := some 51, op := .fieldAddr 0 (.t 13), ix := 1 },
    { dst := some 52, op := .load 1 false (.t 51), ix := 2 },
    { dst := some 53, op := .lookup 1 (.agg [.int .i64 0, .int .i64 0, .str [], .str [], .str [], .list []]) true (.t 50) (.t 52), ix := 3 },
    { dst := some 49, op := .move (.t 53), ix := 4 },
    { dst := some 54, op := .extract (.t 49) 0, ix := 5 },
    { dst := some 55, op := .extract (.t 49) 1, ix := 6 },
    { dst := some 14, op := .alloc false 14 [.p (.int .i64 0), .p (.int .i64 0), .p (.str []), .p (.str []), .p (.str []), .p (.list [])] [], ix := 7 },
    { dst := none, op := .store 6 true (.t 14) (.t 54), ix := 8 },
    { dst := some 15, op := .move (.t 55), ix := 9 }] false [4, 5, 6, 13, 14, 15, 43, 44, 45] [4, 5, 13, 14, 1000, 1001, 1002, 1003, 1004, 1005]) (.seq (.block 4 (.seq (.region [
    { dst := some 57, op := .move (.t 15), ix := 0 },
    { dst := some 58, op := .un .not (.t 57), ix := 1 },
    { dst := some 56, op := .move (.t 58), ix := 2 }] false [4, 5, 6, 13, 14, 43, 44, 45, 56] [4, 5, 13, 14, 1000, 1001, 1002, 1003, 1004, 1005]) (.seq (.cond (.t 56) (.seq (.region [
    { dst := some 59, op := .fieldAddr 1 (.t 5), ix := 0 },
    { dst := some 60, op := .load 1 false (.t 59), ix := 1 },
    { dst := some 61, op := .fieldAddr 0 (.t 13), ix := 2 },
    { dst := some 62, op := .load 1 false (.t 61), ix := 3 },
    { dst := some 63, op := .row 1 [.t 62], ix := 4 },
    { dst := some 64, op := .append false 1007 1 8 (.t 60) (.t 63), ix := 5 },
    { dst := some 65, op := .fieldAddr 1 (.t 5), ix := 6 },
    { dst := none, op := .store 1 false (.t 65) (.t 64), ix := 7 }] false [4, 5, 6, 43, 44, 45] [4, 5, 1000, 1001, 1002, 1003, 1004, 1005]) (.keep [4, 5, 6, 43, 44, 45] [4, 5, 1000, 1001, 1002, 1003, 1004, 1005] .skip)) (.seq (.region [
    { dst := some 67, op := .fieldAddr 2 (.t 13), ix := 0 },
    { dst := some 68, op := .load 1 false (.t 67), ix := 1 },
    { dst := some 69, op := .fieldAddr 2 (.t 14), ix := 2 },
    { dst := some 70, op := .load 1 false (.t 69), ix := 3 },
    { dst := some 71, op := .eq .s true (.t 68) (.t 70), ix := 4 },
    { dst := some 72, op := .move (.t 71), ix := 5 },
    { dst := some 73, op := .fieldAddr 3 (.t 13), guard := some (72, false), ix := 6 },
    { dst := some 74, op := .load 1 false (.t 73), guard := some (72, false), ix := 7 },
    { dst := some 75, op := .fieldAddr 3 (.t 14), guard := some (72, false), ix := 8 },
    { dst := some 76, op := .load 1 false (.t 75), guard := some (72, false), ix := 9 },
    { dst := some 77, op := .eq .s true (.t 74) (.t 76), guard := some (72, false), ix := 10 },
    { dst := some 78, op := .pick (.t 72) (.c (.bool true)) (.t 77), ix := 11 },
    { dst := some 79, op := .move (.t 78), ix := 12 },
    { dst := some 80, op := .fieldAddr 4 (.t 13), guard := some (79, false), ix := 13 },
    { dst := some 81, op := .load 1 false (.t 80), guard := some (79, false), ix := 14 },
    { dst := some 82, op := .fieldAddr 4 (.t 14), guard := some (79, false), ix := 15 },
    { dst := some 83, op := .load 1 false (.t 82), guard := some (79, false), ix := 16 },
    { dst := some 84, op := .eq .s true (.t 81) (.t 83), guard := some (79, false), ix := 17 },
    { dst := some 85, op := .pick (.t 79) (.c (.bool true)) (.t 84), ix := 18 },
    { dst := some 86, op := .move (.t 85), ix := 19 },
    { dst := some 87, op := .fieldAddr 5 (.t 13), guard := some (86, false), ix := 20 },
    { dst := some 88, op := .load 1 false (.t 87), guard := some (86, false), ix := 21 },
    { dst := some 89, op := .fieldAddr 5 (.t 14), guard := some (86, false), ix := 22 },
    { dst := some 90, op := .load 1 false (.t 89), guard := some (86, false), ix := 23 },
    { dst := some 91, op := .pcall 42 [(.t 88, .as), (.t 90, .as)], guard := some (86, false), ix := 24 },
    { dst := some 92, op := .un .not (.t 91), guard := some (86, false), ix := 25 },
    { dst := some 93, op := .pick (.t 86) (.c (.bool true)) (.t 92), ix := 26 },
    { dst := some 66, op := .move (.t 93), ix := 27 }] false [4, 5, 6, 13, 43, 44, 45, 66] [4, 5, 13, 1000, 1001, 1002, 1003, 1004, 1005]) (.seq (.cond (.t 66) (.seq (.region [
    { dst := some 94, op := .fieldAddr 2 (.t 5), ix := 0 },
    { dst := some 95, op := .load 1 false (.t 94), ix := 1 },
    { dst := some 96, op := .fieldAddr 0 (.t 13), ix := 2 },
    { dst := some 97, op := .load 1 false (.t 96), ix := 3 },
    { dst := some 98, op := .row 1 [.t 97], ix := 4 },
    { dst := some 99, op := .append false 1008 1 8 (.t 95) (.t 98), ix := 5 },
    { dst := some 100, op := .fieldAddr 2 (.t 5), ix := 6 },
    { dst := none, op := .store 1 false (.t 100) (.t 99), ix := 7 }] false [4, 5, 6, 43, 44, 45] [4, 5, 1000, 1001, 1002, 1003, 1004, 1005]) (.keep [4, 5, 6, 43, 44, 45] [4, 5, 1000, 1001, 1002, 1003, 1004, 1005] .skip)) (.keep [4, 5, 6, 43, 44, 45] [4, 5, 1000, 1001, 1002, 1003, 1004, 1005] .skip)) (.keep [4, 5, 6, 43, 44, 45] [4, 5, 1000, 1001, 1002, 1003, 1004, 1005] .skip)))) (.keep [4, 5, 6, 43, 44, 45] [4, 5, 1000, 1001, 1002, 1003, 1004, 1005] .skip)))) (.keep [4, 5, 6, 43, 44, 45] [4, 5, 1000, 1001, 1002, 1003, 1004, 1005] .skip))))) (.keep [4, 5, 6, 43, 44, 45] [4, 5, 1000, 1001, 1002, 1003, 1004, 1005] (.seq (.region [
    { dst := some 101, op := .bin .add (.t 45) (.c (.int .i64 1)), ix := 0 },
    { dst := some 45, op := .move (.t 101), ix := 1 }] false [4, 5, 6, 43, 44, 45] [4, 5, 1000, 1001, 1002, 1003, 1004, 1005]) (.keep [4, 5, 6, 43, 44, 45] [4, 5, 1000, 1001, 1002, 1003, 1004, 1005] .skip)))))))
def F18 : LFunc := { nparams := 2, results := [.cell 4 3 true], pure := true, body :=
  (.seq (.region [
    { dst := some 4, op := .alloc false 4 [.p (.list []), .p (.list []), .p (.list [])] [(0, 1000, 1), (1, 1001, 1), (2, 1002, 1)], ix := 0 }] false [0, 1, 4] [4, 1000, 1001, 1002, 1003, 1004, 1005]) (.seq (.region [
    { dst := some 5, op := .alloc false 5 [.p (.list []), .p (.list []), .p (.list [])] [(0, 1003, 1), (1, 1005, 1), (2, 1004, 1)], ix := 0 }] false [0, 1, 4, 5] [4, 5, 1000, 1001, 1002, 1003, 1004, 1005]) (.seq (.region [
    { dst := some 16, op := .move (.t 0), ix := 0 },
    { dst := some 17, op := .call 41 [(.t 16, .as)], ix := 1 },
    { dst := some 18, op := .move (.t 1), ix := 2 },
    { dst := some 19, op := .call 41 [(.t 18, .as)], ix := 3 },
    { dst := some 6, op := .move (.t 17), ix := 4 },
    { dst := some 7, op := .move (.t 19), ix := 5 }] false [0, 1, 4, 5, 6, 7] [4, 5, 1000, 1001, 1002, 1003, 1004, 1005]) (.seq (.region [
    { dst := some 20, op := .move (.t 0), ix := 0 },
    { dst := some 21, op := .len 1 (.t 20), ix := 1 },
    { dst := some 22, op := .move (.c (.int .i64 0)), ix := 2 }] false [1, 4, 5, 6, 7, 20, 21, 22] [4, 5, 1000, 1001, 1002, 1003, 1004, 1005]) (.seq (.block 0 (.seq (.keep [1, 4, 5, 6, 7, 20, 21, 22] [4, 5, 1000, 1001, 1002, 1003, 1004, 1005] (.loop B18x0)) (.keep [1, 4, 5, 6] [4, 5, 1000, 1001, 1002, 1003, 1004, 1005] .skip))) (.keep [1, 4, 5, 6] [4, 5, 1000, 1001, 1002, 1003, 1004, 1005] (.seq (.region [
    { dst := some 43, op := .move (.t 1), ix := 0 },
    { dst := some 44, op := .len 1 (.t 43), ix := 1 },
    { dst := some 45, op := .move (.c (.int .i64 0)), ix := 2 }] false [4, 5, 6, 43, 44, 45] [4, 5, 1000, 1001, 1002, 1003, 1004, 1005]) (.seq (.block 2 (.seq (.keep [4, 5, 6, 43, 44, 45] [4, 5, 1000, 1001, 1002, 1003, 1004, 1005] (.loop B18x1)) (.keep [4, 5] [4, 5, 1000, 1001, 1002, 1003, 1004, 1005] .skip))) (.keep [4, 5] [4, 5, 1000, 1001, 1002, 1003, 1004, 1005] (.seq (.region [
    { dst := some 102, op := .load 3 true (.t 5), ix := 0 },
    { dst := none, op := .store 3 true (.t 4) (.t 102), ix := 1 }] false [4] [4, 1000, 1001, 1002, 1003, 1004, 1005]) (.keep [4] [4, 1000, 1001, 1002, 1003, 1004, 1005] .ret))))))))))) }
theorem ok18 : fnSoundB Go.Proofs.Try.prog 18 F18 = true := by decide +kernel
/- tendril/tendrilplain.Ints -/
def B19x0 : LCode :=
  (.seq (.region [
    { dst := some 14, op := .bin .lss (.t 13) (.t 12), ix := 0 }] false [0, 1, 12, 13, 14] []) (.seq (.cond (.t 14) (.keep [0, 1, 12, 13] [] .skip) (.keep [] [] (.exit 0))) (.keep [0, 1, 12, 13] [] (.seq (.block 1 (.seq (.region [
    { dst := some 15, op := .move (.t 13), ix := 0 },
    { dst := some 5, op := .move (.t 15), ix := 1 }] false [0, 1, 5, 12, 13] []) (.seq (.region [
    { dst := some 16, op := .move (.t 0), ix := 0 },
    { dst := some 17, op := .move (.t 5), ix := 1 },
    { dst := some 18, op := .indexAddr 1 (.t 16) (.t 17), ix := 2 },
    { dst := some 19, op := .load 1 false (.t 18), ix := 3 },
    { dst := some 20, op := .move (.t 1), ix := 4 },
    { dst := some 21, op := .move (.t 5), ix := 5 },
    { dst := some 22, op := .indexAddr 1 (.t 20) (.t 21), ix := 6 },
    { dst := some 23, op := .load 1 false (.t 22), ix := 7 },
    { dst := some 24, op := .eq .i true (.t 19) (.t 23), ix := 8 }] true [0, 1, 12, 13, 24] []) (.seq (.cond (.t 24) (.seq (.region [
    { dst := some 4, op := .move (.c (.bool false)), ix := 0 }] false [4] []) (.keep [4] [] .ret)) (.keep [0, 1, 12, 13] [] .skip)) (.keep [0, 1, 12, 13] [] .skip))))) (.keep [0, 1, 12, 13] [] (.seq (.region [
    { dst := some 25, op := .bin .add (.t 13) (.c (.int .i64 1)), ix := 0 },
    { dst := some 13, op := .move (.t 25), ix := 1 }] false [0, 1, 12, 13] []) (.keep [0, 1, 12, 13] [] .skip)))))))
def F19 : LFunc := { nparams := 2, results := [.tmp 4], pure := true, body :=
  (.seq (.region [
    { dst := some 4, op := .move (.c (.bool false)), ix := 0 }] false [0, 1] []) (.seq (.region [
    { dst := some 6, op := .move (.t 0), ix := 0 },
    { dst := some 7, op := .len 1 (.t 6), ix := 1 },
    { dst := some 8, op := .move (.t 1), ix := 2 },
    { dst := some 9, op := .len 1 (.t 8), ix := 3 },
    { dst := some 10, op := .eq .i true (.t 7) (.t 9), ix := 4 }] false [0, 1, 10] []) (.seq (.cond (.t 10) (.seq (.region [
    { dst := some 4, op := .move (.c (.bool false)), ix := 0 }] false [4] []) (.keep [4] [] .ret)) (.keep [0, 1] [] .skip)) (.keep [0, 1] [] (.seq (.region [
    { dst := some 11, op := .move (.t 0), ix := 0 },
    { dst := some 12, op := .len 1 (.t 11), ix := 1 },
    { dst := some 13, op := .move (.c (.int .i64 0)), ix := 2 }] false [0, 1, 12, 13] []) (.seq (.block 0 (.seq (.keep [0, 1, 12, 13] [] (.loop B19x0)) (.keep [] [] .skip))) (.keep [] [] (.seq (.region [
    { dst := some 4, op := .move (.c (.bool true)), ix := 0 }] false [4] []) (.keep [4] [] .ret))))))))) }
theorem ok19 : fnSoundB Go.Proofs.Try.prog 19 F19 = true := by decide +kernel
/- tendril/tendrilref38.Gone -/
def B20x0 : LCode :=
  (.seq (.region [
    { dst := some 10, op := .bin .lss (.t 9) (.t 8), ix := 0 }] false [0, 1, 5, 8, 9, 10] [1000]) (.seq (.cond (.t 10) (.keep [0, 1, 5, 8, 9] [1000] .skip) (.keep [5] [1000] (.exit 0))) (.keep [0, 1, 5, 8, 9] [1000] (.seq (.block 1 (.seq (.region [
    { dst := some 11, op := .move (.t 9), ix := 0 },
    { dst := some 6, op := .move (.t 11), ix := 1 }] false [0, 1, 5, 6, 8, 9] [1000]) (.seq (.region [
    { dst := some 12, op := .move (.t 1), ix := 0 },
    { dst := some 13, op := .move (.t 0), ix := 1 },
    { dst := some 14, op := .move (.t 6), ix := 2 },
    { dst := some 15, op := .indexAddr 6 (.t 13) (.t 14), ix := 3 },
    { dst := some 16, op := .fieldAddr 0 (.t 15), ix := 4 },
    { dst := some 17, op := .load 1 false (.t 16), ix := 5 },
    { dst := some 18, op := .pcall 43 [(.t 12, .as), (.t 17, .as)], ix := 6 },
    { dst := some 19, op := .bin .lss (.t 18) (.c (.int .i64 0)), ix := 7 }] false [0, 1, 5, 6, 8, 9, 19] [1000]) (.seq (.cond (.t 19) (.seq (.region [
    { dst := some 20, op := .move (.t 5), ix := 0 },
    { dst := some 21, op := .move (.t 0), ix := 1 },
    { dst := some 22, op := .move (.t 6), ix := 2 },
    { dst := some 23, op := .indexAddr 6 (.t 21) (.t 22), ix := 3 },
    { dst := some 24, op := .fieldAddr 0 (.t 23), ix := 4 },
    { dst := some 25, op := .load 1 false (.t 24), ix := 5 },
    { dst := some 26, op := .row 1 [.t 25], ix := 6 },
    { dst := some 27, op := .append false 1001 1 8 (.t 20) (.t 26), ix := 7 },
    { dst := some 5, op := .move (.t 27), ix := 8 }] false [0, 1, 5, 8, 9] [1000]) (.keep [0, 1, 5, 8, 9] [1000] .skip)) (.keep [0, 1, 5, 8, 9] [1000] .skip)) (.keep [0, 1, 5, 8, 9] [1000] .skip))))) (.keep [0, 1, 5, 8, 9] [1000] (.seq (.region [
    { dst := some 28, op := .bin .add (.t 9) (.c (.int .i64 1)), ix := 0 },
    { dst := some 9, op := .move (.t 28), ix := 1 }] false [0, 1, 5, 8, 9] [1000]) (.keep [0, 1, 5, 8, 9] [1000] .skip)))))))
def F20 : LFunc := { nparams := 2, results := [.tmp 4], pure := true, body :=
  (.seq (.region [
    { dst := some 4, op := .move (.c (.list [])), ix := 0 }] false [0, 1] []) (.seq (.region [
    { dst := some 5, op := .nilown false 1000 1, ix := 0 }] false [0, 1, 5] [1000]) (.seq (.region [
    { dst := some 7, op := .move (.t 0), ix := 0 },
    { dst := some 8, op := .len 1 (.t 7), ix := 1 },
    { dst := some 9, op := .move (.c (.int .i64 0)), ix := 2 }] false [0, 1, 5, 8, 9] [1000]) (.seq (.block 0 (.seq (.keep [0, 1, 5, 8, 9] [1000] (.loop B20x0)) (.keep [5] [1000] .skip))) (.keep [5] [1000] (.seq (.region [
    { dst := some 29, op := .move (.t 5), ix := 0 },
    { dst := some 4, op := .move (.t 29), ix := 1 }] false [4] [1000]) (.keep [4] [1000] .ret))))))) }
theorem ok20 : fnSoundB Go.Proofs.Try.prog 20 F20 = true := by decide +kernel
/- tendril/tendrilref38.Turned -/
def B21x0 : LCode :=
  (.seq (.region [
    { dst := some 13, op := .bin .lss (.t 12) (.t 11), ix := 0 }] false [0, 1, 5, 11, 12, 13] [1000]) (.seq (.cond (.t 13) (.keep [0, 1, 5, 11, 12] [1000] .skip) (.keep [5] [1000] (.exit 0))) (.keep [0, 1, 5, 11, 12] [1000] (.seq (.block 1 (.seq (.region [
    { dst := some 14, op := .move (.t 12), ix := 0 },
    { dst := some 6, op := .move (.t 14), ix := 1 }] false [0, 1, 5, 6, 11, 12] [1000]) (.seq (.region [
    { dst := some 15, op := .move (.t 0), ix := 0 },
    { dst := some 16, op := .move (.t 1), ix := 1 },
    { dst := some 17, op := .move (.t 6), ix := 2 },
    { dst := some 18, op := .indexAddr 6 (.t 16) (.t 17), ix := 3 },
    { dst := some 19, op := .fieldAddr 0 (.t 18), ix := 4 },
    { dst := some 20, op := .load 1 false (.t 19), ix := 5 },
    { dst := some 21, op := .pcall 43 [(.t 15, .as), (.t 20, .as)], ix := 6 },
    { dst := some 7, op := .move (.t 21), ix := 7 }] false [0, 1, 5, 6, 7, 11, 12] [1000]) (.seq (.region [
    { dst := some 22, op := .move (.t 7), ix := 0 },
    { dst := some 23, op := .bin .lss (.t 22) (.c (.int .i64 0)), ix := 1 }] false [0, 1, 5, 6, 7, 11, 12, 23] [1000]) (.seq (.cond (.t 23) (.keep [0, 1, 5, 11, 12] [1000] (.exit 1)) (.keep [0, 1, 5, 6, 7, 11, 12] [1000] .skip)) (.keep [0, 1, 5, 6, 7, 11, 12] [1000] (.seq (.region [
    { dst := some 24, op := .move (.t 0), ix := 0 },
    { dst := some 25, op := .move (.t 7), ix := 1 },
    { dst := some 26, op := .indexAddr 6 (.t 24) (.t 25), ix := 2 },
    { dst := some 27, op := .load 6 true (.t 26), ix := 3 },
    { dst := some 8, op := .alloc false 8 [.p (.int .i64 0), .p (.int .i64 0), .p (.str []), .p (.str []), .p (.str []), .p (.list [])] [], ix := 4 },
    { dst := none, op := .store 6 true (.t 8) (.t 27), ix := 5 }] false [0, 1, 5, 6, 8, 11, 12] [8, 1000]) (.seq (.region [
    { dst := some 28, op := .move (.t 1), ix := 0 },
    { dst := some 29, op := .move (.t 6), ix := 1 },
    { dst := some 30, op := .indexAddr 6 (.t 28) (.t 29), ix := 2 },
    { dst := some 31, op := .load 6 true (.t 30), ix := 3 },
    { dst := some 9, op := .alloc false 9 [.p (.int .i64 0), .p (.int .i64 0), .p (.str []), .p (.str []), .p (.str []), .p (.list [])] [], ix := 4 },
    { dst := none, op := .store 6 true (.t 9) (.t 31), ix := 5 }] false [0, 1, 5, 8, 9, 11, 12] [8, 9, 1000]) (.seq (.region [
    { dst := some 32, op := .fieldAddr 1 (.t 8), ix := 0 },
    { dst := none, op := .store 1 false (.t 32) (.c (.int .i64 0)), ix := 1 }] false [0, 1, 5, 8, 9, 11, 12] [8, 9, 1000]) (.seq (.region [
    { dst := some 33, op := .fieldAddr 1 (.t 9), ix := 0 },
    { dst := none, op := .store 1 false (.t 33) (.c (.int .i64 0)), ix := 1 }] false [0, 1, 5, 8, 9, 11, 12] [8, 9, 1000]) (.seq (.region [
    { dst := some 34, op := .load 6 true (.t 8), ix := 0 },
    { dst := some 35, op := .row 6 [.t 34], ix := 1 },
    { dst := some 36, op := .load 6 true (.t 9), ix := 2 },
    { dst := some 37, op := .row 6 [.t 36], ix := 3 },
    { dst := some 38, op := .pcall 44 [(.t 35, .look), (.t 37, .look)], ix := 4 },
    { dst := some 39, op := .un .not (.t 38), ix := 5 }] false [0, 1, 5, 9, 11, 12, 39] [9, 1000]) (.seq (.cond (.t 39) (.seq (.region [
    { dst := some 40, op := .move (.t 5), ix := 0 },
    { dst := some 41, op := .fieldAddr 0 (.t 9), ix := 1 },
    { dst := some 42, op := .load 1 false (.t 41), ix := 2 },
    { dst := some 43, op := .row 1 [.t 42], ix := 3 },
    { dst := some 44, op := .append false 1001 1 8 (.t 40) (.t 43), ix := 4 },
    { dst := some 5, op := .move (.t 44), ix := 5 }] false [0, 1, 5, 11, 12] [1000]) (.keep [0, 1, 5, 11, 12] [1000] .skip)) (.keep [0, 1, 5, 11, 12] [1000] .skip)) (.keep [0, 1, 5, 11, 12] [1000] .skip))))))))))))) (.keep [0, 1, 5, 11, 12] [1000] (.seq (.region [
    { dst := some 45, op := .bin .add (.t 12) (.c (.int .i64 1)), ix := 0 },
    { dst := some 12, op := .move (.t 45), ix := 1 }] false [0, 1, 5, 11, 12] [1000]) (.keep [0, 1, 5, 11, 12] [1000] .skip)))))))
def F21 : LFunc := { nparams := 2, results := [.tmp 4], pure := true, body :=
  (.seq (.region [
    { dst := some 4, op := .move (.c (.list [])), ix := 0 }] false [0, 1] []) (.seq (.region [
    { dst := some 5, op := .nilown false 1000 1, ix := 0 }] false [0, 1, 5] [1000]) (.seq (.region [
    { dst := some 10, op := .move (.t 1), ix := 0 },
    { dst := some 11, op := .len 1 (.t 10), ix := 1 },
    { dst := some 12, op := .move (.c (.int .i64 0)), ix := 2 }] false [0, 1, 5, 11, 12] [1000]) (.seq (.block 0 (.seq (.keep [0, 1, 5, 11, 12] [1000] (.loop B21x0)) (.keep [5] [1000] .skip))) (.keep [5] [1000] (.seq (.region [
    { dst := some 46, op := .move (.t 5), ix := 0 },
    { dst := some 4, op := .move (.t 46), ix := 1 }] false [4] [1000]) (.keep [4] [1000] .ret))))))) }
theorem ok21 : fnSoundB Go.Proofs.Try.prog 21 F21 = true := by decide +kernel
/- (tendril/dom.Document).Read -/
def F24 : LFunc := { nparams := 1, results := [.tmp 2], pure := false, body :=
  (.seq (.region [
    { dst := some 1, op := .box true 1 (.t 0), ix := 0 },
    { dst := some 2, op := .move (.c (.list [])), ix := 1 }] false [1] []) (.seq (.region [
    { dst := some 3, op := .alloc true 3 [.p (.list [])] [(0, 1000, 6)], ix := 0 }] false [1, 3] []) (.seq (.region [
    { dst := some 5, op := .load 1 false (.t 1), ix := 0 },
    { dst := some 6, op := .eq .ptr false (.t 5) (.c (.nilp)), ix := 1 }] false [1, 3, 6] []) (.seq (.cond (.t 6) (.seq (.region [
    { dst := some 7, op := .load 1 false (.t 3), ix := 0 },
    { dst := some 2, op := .move (.t 7), ix := 1 }] false [2] []) (.keep [2] [] .ret)) (.keep [1, 3] [] .skip)) (.keep [1, 3] [] (.seq (.region [
    { dst := some 4, op := .alloc true 4 [.p (.nilf)] [], ix := 0 }] false [1, 3, 4] []) (.seq (.region [
    { dst := some 8, op := .makeFunc 52 [.t 1, .t 3, .t 4], ix := 0 },
    { dst := none, op := .store 1 false (.t 4) (.t 8), ix := 1 }] false [1, 3, 4] []) (.seq (.draw [
    { dst := some 9, op := .load 1 false (.t 4), ix := 0 },
    { dst := some 10, op := .load 1 false (.t 1), ix := 1 },
    { dst := some 11, op := .nilCheck (.t 10), ix := 2 },
    { dst := some 12, op := .fieldAddr 0 (.t 11), ix := 3 },
    { dst := some 13, op := .load 1 false (.t 12), ix := 4 },
    { dst := some 14, op := .lookup 1 (.nilp) false (.t 13) (.c (.int .i64 0)), ix := 5 },
    { dst := some 15, op := .nilCheck (.t 14), ix := 6 },
    { dst := some 16, op := .fieldAddr 0 (.t 15), ix := 7 },
    { dst := some 17, op := .load 1 false (.t 16), ix := 8 },
    { dst := some 18, op := .callv (.t 9) [(.t 17, .as), (.c (.int .i64 0), .as)], ix := 9 }] [3] []) (.seq (.region [
    { dst := some 19, op := .load 1 false (.t 3), ix := 0 },
    { dst := some 2, op := .move (.t 19), ix := 1 }] false [2] []) (.keep [2] [] .ret)))))))))) }
theorem ok24 : fnSoundB Go.Proofs.Try.prog 24 F24 = true := by decide +kernel
/- tendril/audit.Document -/
def F37 : LFunc := { nparams := 1, results := [.tmp 2], pure := false, body :=
  (.seq (.region [
    { dst := some 2, op := .move (.c (.int .i64 0)), ix := 0 }] false [0] []) (.seq (.region [
    { dst := some 4, op := .move (.t 0), ix := 0 },
    { dst := some 5, op := .call 24 [(.t 4, .as)], ix := 1 },
    { dst := some 3, op := .move (.t 5), ix := 2 }] false [0, 3] []) (.seq (.block 0 (.seq (.region [
    { dst := some 7, op := .move (.t 0), ix := 0 },
    { dst := some 8, op := .eq .ptr false (.t 7) (.c (.nilp)), ix := 1 },
    { dst := some 6, op := .move (.t 8), ix := 2 }] false [0, 3, 6] []) (.seq (.cond (.t 6) (.seq (.region [
    { dst := some 2, op := .move (.c (.int .i64 1)), ix := 0 }] false [2] []) (.keep [2] [] .ret)) (.seq (.region [
    { dst := some 10, op := .move (.t 0), ix := 0 },
    { dst := some 11, op := .call 59 [(.t 10, .as)], ix := 1 },
    { dst := some 12, op := .len 1 (.t 11), ix := 2 },
    { dst := some 13, op := .bin .gtr (.t 12) (.c (.int .i64 0)), ix := 3 },
    { dst := some 9, op := .move (.t 13), ix := 4 }] false [0, 3, 9] []) (.seq (.cond (.t 9) (.seq (.region [
    { dst := some 2, op := .move (.c (.int .i64 19)), ix := 0 }] false [2] []) (.keep [2] [] .ret)) (.seq (.region [
    { dst := some 15, op := .move (.t 0), ix := 0 },
    { dst := some 16, op := .call 60 [(.t 15, .as)], ix := 1 },
    { dst := some 17, op := .move (.t 3), ix := 2 },
    { dst := some 18, op := .len 1 (.t 17), ix := 3 },
    { dst := some 19, op := .eq .i true (.t 16) (.t 18), ix := 4 },
    { dst := some 14, op := .move (.t 19), ix := 5 }] false [0, 3, 14] []) (.seq (.cond (.t 14) (.seq (.region [
    { dst := some 2, op := .move (.c (.int .i64 12)), ix := 0 }] false [2] []) (.keep [2] [] .ret)) (.seq (.region [
    { dst := some 21, op := .move (.t 3), ix := 0 },
    { dst := some 22, op := .move (.t 0), ix := 1 },
    { dst := some 23, op := .stuck, ix := 2 },
    { dst := some 24, op := .call 61 [(.t 21, .as), (.t 23, .as)], ix := 3 },
    { dst := some 25, op := .un .not (.t 24), ix := 4 },
    { dst := some 20, op := .move (.t 25), ix := 5 }] false [20] []) (.seq (.cond (.t 20) (.seq (.region [
    { dst := some 2, op := .move (.c (.int .i64 18)), ix := 0 }] false [2] []) (.keep [2] [] .ret)) (.keep [] [] .skip)) (.keep [] [] .skip)))) (.keep [] [] .skip)))) (.keep [] [] .skip)))) (.keep [] [] .skip)))) (.keep [] [] (.seq (.region [
    { dst := some 2, op := .move (.c (.int .i64 0)), ix := 0 }] false [2] []) (.keep [2] [] .ret)))))) }
theorem ok37 : fnSoundB Go.Proofs.Try.prog 37 F37 = true := by decide +kernel
/- tendril/audit.Session -/
def B38x0 : LCode :=
  (.seq (.region [
    { dst := some 29, op := .bin .lss (.t 28) (.t 27), ix := 0 }] false [0, 3, 6, 26, 27, 28, 29] [25]) (.seq (.cond (.t 29) (.keep [0, 3, 6, 26, 27, 28] [25] .skip) (.keep [0, 3, 6] [25] (.exit 0))) (.keep [0, 3, 6, 26, 27, 28] [25] (.seq (.block 1 (.seq (.region [
    { dst := some 30, op := .indexAddr 6 (.t 26) (.t 28), ix := 0 },
    { dst := some 31, op := .load 6 true (.t 30), ix := 1 },
    { dst := some 8, op := .alloc false 8 [.p (.int .i64 0), .p (.int .i64 0), .p (.str []), .p (.str []), .p (.str []), .p (.list [])] [], ix := 2 },
    { dst := none, op := .store 6 true (.t 8) (.t 31), ix := 3 }] false [0, 3, 6, 8, 26, 27, 28] [8, 25]) (.seq (.region [
    { dst := some 32, op := .move (.t 6), ix := 0 },
    { dst := some 33, op := .fieldAddr 0 (.t 8), ix := 1 },
    { dst := some 34, op := .load 1 false (.t 33), ix := 2 },
    { dst := some 35, op := .row 1 [.t 34], ix := 3 },
    { dst := some 36, op := .append false 1000 1 8 (.t 32) (.t 35), ix := 4 },
    { dst := some 6, op := .move (.t 36), ix := 5 }] false [0, 3, 6, 26, 27, 28] [25]) (.keep [0, 3, 6, 26, 27, 28] [25] .skip)))) (.keep [0, 3, 6, 26, 27, 28] [25] (.seq (.region [
    { dst := some 37, op := .bin .add (.t 28) (.c (.int .i64 1)), ix := 0 },
    { dst := some 28, op := .move (.t 37), ix := 1 }] false [0, 3, 6, 26, 27, 28] [25]) (.keep [0, 3, 6, 26, 27, 28] [25] .skip)))))))
def F38 : LFunc := { nparams := 1, results := [.tmp 2], pure := false, body :=
  (.seq (.region [
    { dst := some 2, op := .move (.c (.int .i64 0)), ix := 0 }] false [0] []) (.seq (.region [
    { dst := some 9, op := .move (.t 0), ix := 0 },
    { dst := some 10, op := .eq .ptr false (.t 9) (.c (.nilp)), ix := 1 }] false [0, 10] []) (.seq (.cond (.t 10) (.seq (.region [
    { dst := some 2, op := .move (.c (.int .i64 1)), ix := 0 }] false [2] []) (.keep [2] [] .ret)) (.keep [0] [] .skip)) (.keep [0] [] (.seq (.region [
    { dst := some 11, op := .move (.t 0), ix := 0 },
    { dst := some 12, op := .call 62 [(.t 11, .as)], ix := 1 },
    { dst := some 3, op := .move (.t 12), ix := 2 }] false [0, 3] []) (.seq (.region [
    { dst := some 13, op := .move (.t 3), ix := 0 },
    { dst := some 14, op := .pcall 63 [(.t 13, .as)], ix := 1 },
    { dst := some 4, op := .move (.t 14), ix := 2 }] false [0, 3, 4] []) (.seq (.region [
    { dst := some 15, op := .move (.t 4), ix := 0 },
    { dst := some 16, op := .eq .i true (.t 15) (.c (.int .i64 0)), ix := 1 }] false [0, 3, 4, 16] []) (.seq (.cond (.t 16) (.seq (.region [
    { dst := some 17, op := .move (.t 4), ix := 0 },
    { dst := some 2, op := .move (.t 17), ix := 1 }] false [2] []) (.keep [2] [] .ret)) (.keep [0, 3] [] .skip)) (.keep [0, 3] [] (.seq (.region [
    { dst := some 18, op := .move (.t 3), ix := 0 },
    { dst := some 19, op := .move (.t 0), ix := 1 },
    { dst := some 20, op := .call 65 [(.t 19, .as)], ix := 2 },
    { dst := some 21, op := .pcall 64 [(.t 18, .as), (.t 20, .as)], ix := 3 },
    { dst := some 5, op := .move (.t 21), ix := 4 }] false [0, 3, 5] []) (.seq (.region [
    { dst := some 22, op := .move (.t 5), ix := 0 },
    { dst := some 23, op := .eq .i true (.t 22) (.c (.int .i64 0)), ix := 1 }] false [0, 3, 5, 23] []) (.seq (.cond (.t 23) (.seq (.region [
    { dst := some 24, op := .move (.t 5), ix := 0 },
    { dst := some 2, op := .move (.t 24), ix := 1 }] false [2] []) (.keep [2] [] .ret)) (.keep [0, 3] [] .skip)) (.keep [0, 3] [] (.seq (.region [
    { dst := some 25, op := .rowOwn false 25 1 [.c (.int .i64 0)], ix := 0 },
    { dst := some 6, op := .move (.t 25), ix := 1 }] false [0, 3, 6] [25]) (.seq (.region [
    { dst := some 26, op := .move (.t 3), ix := 0 },
    { dst := some 27, op := .len 1 (.t 26), ix := 1 },
    { dst := some 28, op := .move (.c (.int .i64 0)), ix := 2 }] false [0, 3, 6, 26, 27, 28] [25]) (.seq (.block 0 (.seq (.keep [0, 3, 6, 26, 27, 28] [25] (.loop B38x0)) (.keep [0, 3, 6] [25] .skip))) (.keep [0, 3, 6] [25] (.seq (.block 2 (.seq (.region [
    { dst := some 39, op := .move (.t 6), ix := 0 },
    { dst := some 40, op := .move (.t 0), ix := 1 },
    { dst := some 41, op := .call 67 [(.t 40, .as)], ix := 2 },
    { dst := some 42, op := .pcall 66 [(.t 39, .look), (.t 41, .as)], ix := 3 },
    { dst := some 43, op := .un .not (.t 42), ix := 4 },
    { dst := some 38, op := .move (.t 43), ix := 5 }] false [0, 3, 38] []) (.seq (.cond (.t 38) (.seq (.region [
    { dst := some 2, op := .move (.c (.int .i64 9)), ix := 0 }] false [2] []) (.keep [2] [] .ret)) (.seq (.region [
    { dst := some 45, op := .move (.t 3), ix := 0 },
    { dst := some 46, op := .move (.t 0), ix := 1 },
    { dst := some 47, op := .stuck, ix := 2 },
    { dst := some 48, op := .call 61 [(.t 45, .as), (.t 47, .as)], ix := 3 },
    { dst := some 49, op := .un .not (.t 48), ix := 4 },
    { dst := some 44, op := .move (.t 49), ix := 5 }] false [44] []) (.seq (.cond (.t 44) (.seq (.region [
    { dst := some 2, op := .move (.c (.int .i64 18)), ix := 0 }] false [2] []) (.keep [2] [] .ret)) (.keep [] [] .skip)) (.keep [] [] .skip)))) (.keep [] [] .skip)))) (.keep [] [] (.seq (.region [
    { dst := some 2, op := .move (.c (.int .i64 0)), ix := 0 }] false [2] []) (.keep [2] [] .ret))))))))))))))))))))) }
theorem ok38 : fnSoundB Go.Proofs.Try.prog 38 F38 = true := by decide +kernel
/- tendril/audit.stand -/
def B39x0 : LCode :=
  (.seq (.region [
    { dst := some 8, op := .bin .lss (.t 7) (.t 6), ix := 0 }] false [5, 6, 7, 8] []) (.seq (.cond (.t 8) (.keep [5, 6, 7] [] .skip) (.keep [] [] (.exit 0))) (.keep [5, 6, 7] [] (.seq (.block 1 (.seq (.region [
    { dst := some 9, op := .move (.t 7), ix := 0 },
    { dst := some 10, op := .indexAddr 6 (.t 5) (.t 7), ix := 1 },
    { dst := some 11, op := .load 6 true (.t 10), ix := 2 },
    { dst := some 4, op := .alloc false 4 [.p (.int .i64 0), .p (.int .i64 0), .p (.str []), .p (.str []), .p (.str []), .p (.list [])] [], ix := 3 },
    { dst := some 3, op := .move (.t 9), ix := 4 },
    { dst := none, op := .store 6 true (.t 4) (.t 11), ix := 5 }] false [3, 4, 5, 6, 7] [4]) (.seq (.region [
    { dst := some 12, op := .fieldAddr 1 (.t 4), ix := 0 },
    { dst := some 13, op := .load 1 false (.t 12), ix := 1 },
    { dst := some 14, op := .bin .lss (.t 13) (.c (.int .i64 0)), ix := 2 },
    { dst := some 15, op := .move (.t 14), ix := 3 },
    { dst := some 16, op := .fieldAddr 1 (.t 4), guard := some (15, false), ix := 4 },
    { dst := some 17, op := .load 1 false (.t 16), guard := some (15, false), ix := 5 },
    { dst := some 18, op := .move (.t 3), guard := some (15, false), ix := 6 },
    { dst := some 19, op := .bin .gtr (.t 17) (.t 18), guard := some (15, false), ix := 7 },
    { dst := some 20, op := .pick (.t 15) (.c (.bool true)) (.t 19), ix := 8 }] false [5, 6, 7, 20] []) (.seq (.cond (.t 20) (.seq (.region [
    { dst := some 2, op := .move (.c (.bool false)), ix := 0 }] false [2] []) (.keep [2] [] .ret)) (.keep [5, 6, 7] [] .skip)) (.keep [5, 6, 7] [] .skip))))) (.keep [5, 6, 7] [] (.seq (.region [
    { dst := some 21, op := .bin .add (.t 7) (.c (.int .i64 1)), ix := 0 },
    { dst := some 7, op := .move (.t 21), ix := 1 }] false [5, 6, 7] []) (.keep [5, 6, 7] [] .skip)))))))
def F39 : LFunc := { nparams := 1, results := [.tmp 2], pure := true, body :=
  (.seq (.region [
    { dst := some 2, op := .move (.c (.bool false)), ix := 0 }] false [0] []) (.seq (.region [
    { dst := some 5, op := .move (.t 0), ix := 0 },
    { dst := some 6, op := .len 1 (.t 5), ix := 1 },
    { dst := some 7, op := .move (.c (.int .i64 0)), ix := 2 }] false [5, 6, 7] []) (.seq (.block 0 (.seq (.keep [5, 6, 7] [] (.loop B39x0)) (.keep [] [] .skip))) (.keep [] [] (.seq (.region [
    { dst := some 2, op := .move (.c (.bool true)), ix := 0 }] false [2] []) (.keep [2] [] .ret)))))) }
theorem ok39 : fnSoundB Go.Proofs.Try.prog 39 F39 = true := by decide +kernel
/- tendril/audit.first -/
def B41x0 : LCode :=
  (.seq (.region [
    { dst := some 12, op := .bin .lss (.t 11) (.t 10), ix := 0 }] false [3, 9, 10, 11, 12] []) (.seq (.cond (.t 12) (.keep [3, 9, 10, 11] [] .skip) (.keep [3] [] (.exit 0))) (.keep [3, 9, 10, 11] [] (.seq (.block 1 (.seq (.region [
    { dst := some 13, op := .indexAddr 6 (.t 9) (.t 11), ix := 0 },
    { dst := some 14, op := .load 6 true (.t 13), ix := 1 },
    { dst := some 5, op := .alloc false 5 [.p (.int .i64 0), .p (.int .i64 0), .p (.str []), .p (.str []), .p (.str []), .p (.list [])] [], ix := 2 },
    { dst := none, op := .store 6 true (.t 5) (.t 14), ix := 3 }] false [3, 5, 9, 10, 11] [5]) (.seq (.region [
    { dst := some 16, op := .move (.t 3), ix := 0 },
    { dst := some 17, op := .fieldAddr 0 (.t 5), ix := 1 },
    { dst := some 18, op := .load 1 false (.t 17), ix := 2 },
    { dst := some 19, op := .lookup 1 (.agg [.int .i64 0, .int .i64 0, .str [], .str [], .str [], .list []]) true (.t 16) (.t 18), ix := 3 },
    { dst := some 15, op := .move (.t 19), ix := 4 },
    { dst := some 20, op := .extract (.t 15) 0, ix := 5 },
    { dst := some 21, op := .extract (.t 15) 1, ix := 6 },
    { dst := some 6, op := .alloc false 6 [.p (.int .i64 0), .p (.int .i64 0), .p (.str []), .p (.str []), .p (.str []), .p (.list [])] [], ix := 7 },
    { dst := none, op := .store 6 true (.t 6) (.t 20), ix := 8 },
    { dst := some 7, op := .move (.t 21), ix := 9 }] false [3, 5, 7, 9, 10, 11] [5]) (.seq (.region [
    { dst := some 22, op := .move (.t 7), ix := 0 },
    { dst := some 23, op := .un .not (.t 22), ix := 1 }] false [3, 5, 9, 10, 11, 23] [5]) (.seq (.cond (.t 23) (.seq (.region [
    { dst := some 24, op := .move (.t 3), ix := 0 },
    { dst := some 25, op := .fieldAddr 0 (.t 5), ix := 1 },
    { dst := some 26, op := .load 1 false (.t 25), ix := 2 },
    { dst := some 27, op := .load 6 true (.t 5), ix := 3 },
    { dst := none, op := .mapUpdate 1 (.t 24) (.t 26) (.t 27), ix := 4 }] false [3, 9, 10, 11] []) (.keep [3, 9, 10, 11] [] .skip)) (.keep [3, 9, 10, 11] [] .skip)) (.keep [3, 9, 10, 11] [] .skip)))))) (.keep [3, 9, 10, 11] [] (.seq (.region [
    { dst := some 28, op := .bin .add (.t 11) (.c (.int .i64 1)), ix := 0 },
    { dst := some 11, op := .move (.t 28), ix := 1 }] false [3, 9, 10, 11] []) (.keep [3, 9, 10, 11] [] .skip)))))))
def F41 : LFunc := { nparams := 1, results := [.tmp 2], pure := false, body :=
  (.seq (.region [
    { dst := some 2, op := .move (.c (.nilm)), ix := 0 }] false [0] []) (.seq (.region [
    { dst := some 8, op := .makeMap true 8, ix := 0 },
    { dst := some 3, op := .move (.t 8), ix := 1 }] false [0, 3] []) (.seq (.region [
    { dst := some 9, op := .move (.t 0), ix := 0 },
    { dst := some 10, op := .len 1 (.t 9), ix := 1 },
    { dst := some 11, op := .move (.c (.int .i64 0)), ix := 2 }] false [3, 9, 10, 11] []) (.seq (.block 0 (.seq (.keep [3, 9, 10, 11] [] (.loop B41x0)) (.keep [3] [] .skip))) (.keep [3] [] (.seq (.region [
    { dst := some 29, op := .move (.t 3), ix := 0 },
    { dst := some 2, op := .move (.t 29), ix := 1 }] false [2] []) (.keep [2] [] .ret))))))) }
theorem ok41 : fnSoundB Go.Proofs.Try.prog 41 F41 = true := by decide +kernel
/- slices.Equal[[]tendril/api.Attr,tendril/api.Attr] -/
def B42x0 : LCode :=
  (.seq (.region [
    { dst := some 14, op := .bin .lss (.t 13) (.t 12), ix := 0 }] false [0, 1, 12, 13, 14] []) (.seq (.cond (.t 14) (.keep [0, 1, 12, 13] [] .skip) (.keep [] [] (.exit 0))) (.keep [0, 1, 12, 13] [] (.seq (.block 1 (.seq (.region [
    { dst := some 15, op := .move (.t 13), ix := 0 },
    { dst := some 5, op := .move (.t 15), ix := 1 }] false [0, 1, 5, 12, 13] []) (.seq (.region [
    { dst := some 16, op := .move (.t 0), ix := 0 },
    { dst := some 17, op := .move (.t 5), ix := 1 },
    { dst := some 18, op := .indexAddr 2 (.t 16) (.t 17), ix := 2 },
    { dst := some 19, op := .load 2 true (.t 18), ix := 3 },
    { dst := some 20, op := .move (.t 1), ix := 4 },
    { dst := some 21, op := .move (.t 5), ix := 5 },
    { dst := some 22, op := .indexAddr 2 (.t 20) (.t 21), ix := 6 },
    { dst := some 23, op := .load 2 true (.t 22), ix := 7 },
    { dst := some 24, op := .eq (.st [2, 2]) true (.t 19) (.t 23), ix := 8 }] true [0, 1, 12, 13, 24] []) (.seq (.cond (.t 24) (.seq (.region [
    { dst := some 4, op := .move (.c (.bool false)), ix := 0 }] false [4] []) (.keep [4] [] .ret)) (.keep [0, 1, 12, 13] [] .skip)) (.keep [0, 1, 12, 13] [] .skip))))) (.keep [0, 1, 12, 13] [] (.seq (.region [
    { dst := some 25, op := .bin .add (.t 13) (.c (.int .i64 1)), ix := 0 },
    { dst := some 13, op := .move (.t 25), ix := 1 }] false [0, 1, 12, 13] []) (.keep [0, 1, 12, 13] [] .skip)))))))
def F42 : LFunc := { nparams := 2, results := [.tmp 4], pure := true, body :=
  (.seq (.region [
    { dst := some 4, op := .move (.c (.bool false)), ix := 0 }] false [0, 1] []) (.seq (.region [
    { dst := some 6, op := .move (.t 0), ix := 0 },
    { dst := some 7, op := .len 1 (.t 6), ix := 1 },
    { dst := some 8, op := .move (.t 1), ix := 2 },
    { dst := some 9, op := .len 1 (.t 8), ix := 3 },
    { dst := some 10, op := .eq .i true (.t 7) (.t 9), ix := 4 }] false [0, 1, 10] []) (.seq (.cond (.t 10) (.seq (.region [
    { dst := some 4, op := .move (.c (.bool false)), ix := 0 }] false [4] []) (.keep [4] [] .ret)) (.keep [0, 1] [] .skip)) (.keep [0, 1] [] (.seq (.region [
    { dst := some 11, op := .move (.t 0), ix := 0 },
    { dst := some 12, op := .len 1 (.t 11), ix := 1 },
    { dst := some 13, op := .move (.c (.int .i64 0)), ix := 2 }] false [0, 1, 12, 13] []) (.seq (.block 0 (.seq (.keep [0, 1, 12, 13] [] (.loop B42x0)) (.keep [] [] .skip))) (.keep [] [] (.seq (.region [
    { dst := some 4, op := .move (.c (.bool true)), ix := 0 }] false [4] []) (.keep [4] [] .ret))))))))) }
theorem ok42 : fnSoundB Go.Proofs.Try.prog 42 F42 = true := by decide +kernel
/- tendril/tendrilref38.find -/
def B43x0 : LCode :=
  (.seq (.region [
    { dst := some 9, op := .bin .lss (.t 8) (.t 7), ix := 0 }] false [0, 1, 7, 8, 9] []) (.seq (.cond (.t 9) (.keep [0, 1, 7, 8] [] .skip) (.keep [] [] (.exit 0))) (.keep [0, 1, 7, 8] [] (.seq (.block 1 (.seq (.region [
    { dst := some 10, op := .move (.t 8), ix := 0 },
    { dst := some 5, op := .move (.t 10), ix := 1 }] false [0, 1, 5, 7, 8] []) (.seq (.region [
    { dst := some 11, op := .move (.t 0), ix := 0 },
    { dst := some 12, op := .move (.t 5), ix := 1 },
    { dst := some 13, op := .indexAddr 6 (.t 11) (.t 12), ix := 2 },
    { dst := some 14, op := .fieldAddr 0 (.t 13), ix := 3 },
    { dst := some 15, op := .load 1 false (.t 14), ix := 4 },
    { dst := some 16, op := .move (.t 1), ix := 5 },
    { dst := some 17, op := .eq .i false (.t 15) (.t 16), ix := 6 }] false [0, 1, 5, 7, 8, 17] []) (.seq (.cond (.t 17) (.seq (.region [
    { dst := some 18, op := .move (.t 5), ix := 0 },
    { dst := some 4, op := .move (.t 18), ix := 1 }] false [4] []) (.keep [4] [] .ret)) (.keep [0, 1, 7, 8] [] .skip)) (.keep [0, 1, 7, 8] [] .skip))))) (.keep [0, 1, 7, 8] [] (.seq (.region [
    { dst := some 19, op := .bin .add (.t 8) (.c (.int .i64 1)), ix := 0 },
    { dst := some 8, op := .move (.t 19), ix := 1 }] false [0, 1, 7, 8] []) (.keep [0, 1, 7, 8] [] .skip)))))))
def F43 : LFunc := { nparams := 2, results := [.tmp 4], pure := true, body :=
  (.seq (.region [
    { dst := some 4, op := .move (.c (.int .i64 0)), ix := 0 }] false [0, 1] []) (.seq (.region [
    { dst := some 6, op := .move (.t 0), ix := 0 },
    { dst := some 7, op := .len 1 (.t 6), ix := 1 },
    { dst := some 8, op := .move (.c (.int .i64 0)), ix := 2 }] false [0, 1, 7, 8] []) (.seq (.block 0 (.seq (.keep [0, 1, 7, 8] [] (.loop B43x0)) (.keep [] [] .skip))) (.keep [] [] (.seq (.region [
    { dst := some 4, op := .move (.c (.int .i64 (-1))), ix := 0 }] false [4] []) (.keep [4] [] .ret)))))) }
theorem ok43 : fnSoundB Go.Proofs.Try.prog 43 F43 = true := by decide +kernel
/- tendril/tendrilplain.Shapes -/
def B44x0 : LCode :=
  (.seq (.region [
    { dst := some 16, op := .bin .lss (.t 15) (.t 14), ix := 0 }] false [0, 1, 14, 15, 16] []) (.seq (.cond (.t 16) (.keep [0, 1, 14, 15] [] .skip) (.keep [] [] (.exit 0))) (.keep [0, 1, 14, 15] [] (.seq (.block 1 (.seq (.region [
    { dst := some 17, op := .move (.t 15), ix := 0 },
    { dst := some 5, op := .move (.t 17), ix := 1 }] false [0, 1, 5, 14, 15] []) (.seq (.region [
    { dst := some 18, op := .move (.t 0), ix := 0 },
    { dst := some 19, op := .move (.t 5), ix := 1 },
    { dst := some 20, op := .indexAddr 6 (.t 18) (.t 19), ix := 2 },
    { dst := some 21, op := .load 6 true (.t 20), ix := 3 },
    { dst := some 6, op := .alloc false 6 [.p (.int .i64 0), .p (.int .i64 0), .p (.str []), .p (.str []), .p (.str []), .p (.list [])] [], ix := 4 },
    { dst := none, op := .store 6 true (.t 6) (.t 21), ix := 5 }] false [0, 1, 5, 6, 14, 15] [6]) (.seq (.region [
    { dst := some 22, op := .move (.t 1), ix := 0 },
    { dst := some 23, op := .move (.t 5), ix := 1 },
    { dst := some 24, op := .indexAddr 6 (.t 22) (.t 23), ix := 2 },
    { dst := some 25, op := .load 6 true (.t 24), ix := 3 },
    { dst := some 7, op := .alloc false 7 [.p (.int .i64 0), .p (.int .i64 0), .p (.str []), .p (.str []), .p (.str []), .p (.list [])] [], ix := 4 },
    { dst := none, op := .store 6 true (.t 7) (.t 25), ix := 5 }] false [0, 1, 6, 7, 14, 15] [6, 7]) (.seq (.region [
    { dst := some 26, op := .fieldAddr 1 (.t 6), ix := 0 },
    { dst := some 27, op := .load 1 false (.t 26), ix := 1 },
    { dst := some 28, op := .fieldAddr 1 (.t 7), ix := 2 },
    { dst := some 29, op := .load 1 false (.t 28), ix := 3 },
    { dst := some 30, op := .eq .i true (.t 27) (.t 29), ix := 4 },
    { dst := some 31, op := .move (.t 30), ix := 5 },
    { dst := some 32, op := .fieldAddr 2 (.t 6), guard := some (31, false), ix := 6 },
    { dst := some 33, op := .load 1 false (.t 32), guard := some (31, false), ix := 7 },
    { dst := some 34, op := .fieldAddr 2 (.t 7), guard := some (31, false), ix := 8 },
    { dst := some 35, op := .load 1 false (.t 34), guard := some (31, false), ix := 9 },
    { dst := some 36, op := .eq .s true (.t 33) (.t 35), guard := some (31, false), ix := 10 },
    { dst := some 37, op := .pick (.t 31) (.c (.bool true)) (.t 36), ix := 11 },
    { dst := some 38, op := .move (.t 37), ix := 12 },
    { dst := some 39, op := .fieldAddr 3 (.t 6), guard := some (38, false), ix := 13 },
    { dst := some 40, op := .load 1 false (.t 39), guard := some (38, false), ix := 14 },
    { dst := some 41, op := .fieldAddr 3 (.t 7), guard := some (38, false), ix := 15 },
    { dst := some 42, op := .load 1 false (.t 41), guard := some (38, false), ix := 16 },
    { dst := some 43, op := .eq .s true (.t 40) (.t 42), guard := some (38, false), ix := 17 },
    { dst := some 44, op := .pick (.t 38) (.c (.bool true)) (.t 43), ix := 18 },
    { dst := some 45, op := .move (.t 44), ix := 19 },
    { dst := some 46, op := .fieldAddr 4 (.t 6), guard := some (45, false), ix := 20 },
    { dst := some 47, op := .load 1 false (.t 46), guard := some (45, false), ix := 21 },
    { dst := some 48, op := .fieldAddr 4 (.t 7), guard := some (45, false), ix := 22 },
    { dst := some 49, op := .load 1 false (.t 48), guard := some (45, false), ix := 23 },
    { dst := some 50, op := .eq .s true (.t 47) (.t 49), guard := some (45, false), ix := 24 },
    { dst := some 51, op := .pick (.t 45) (.c (.bool true)) (.t 50), ix := 25 },
    { dst := some 52, op := .move (.t 51), ix := 26 },
    { dst := some 53, op := .fieldAddr 5 (.t 6), guard := some (52, false), ix := 27 },
    { dst := some 54, op := .load 1 false (.t 53), guard := some (52, false), ix := 28 },
    { dst := some 55, op := .fieldAddr 5 (.t 7), guard := some (52, false), ix := 29 },
    { dst := some 56, op := .load 1 false (.t 55), guard := some (52, false), ix := 30 },
    { dst := some 57, op := .pcall 69 [(.t 54, .as), (.t 56, .as)], guard := some (52, false), ix := 31 },
    { dst := some 58, op := .un .not (.t 57), guard := some (52, false), ix := 32 },
    { dst := some 59, op := .pick (.t 52) (.c (.bool true)) (.t 58), ix := 33 }] false [0, 1, 14, 15, 59] []) (.seq (.cond (.t 59) (.seq (.region [
    { dst := some 4, op := .move (.c (.bool false)), ix := 0 }] false [4] []) (.keep [4] [] .ret)) (.keep [0, 1, 14, 15] [] .skip)) (.keep [0, 1, 14, 15] [] .skip))))))) (.keep [0, 1, 14, 15] [] (.seq (.region [
    { dst := some 60, op := .bin .add (.t 15) (.c (.int .i64 1)), ix := 0 },
    { dst := some 15, op := .move (.t 60), ix := 1 }] false [0, 1, 14, 15] []) (.keep [0, 1, 14, 15] [] .skip)))))))
def F44 : LFunc := { nparams := 2, results := [.tmp 4], pure := true, body :=
  (.seq (.region [
    { dst := some 4, op := .move (.c (.bool false)), ix := 0 }] false [0, 1] []) (.seq (.region [
    { dst := some 8, op := .move (.t 0), ix := 0 },
    { dst := some 9, op := .len 1 (.t 8), ix := 1 },
    { dst := some 10, op := .move (.t 1), ix := 2 },
    { dst := some 11, op := .len 1 (.t 10), ix := 3 },
    { dst := some 12, op := .eq .i true (.t 9) (.t 11), ix := 4 }] false [0, 1, 12] []) (.seq (.cond (.t 12) (.seq (.region [
    { dst := some 4, op := .move (.c (.bool false)), ix := 0 }] false [4] []) (.keep [4] [] .ret)) (.keep [0, 1] [] .skip)) (.keep [0, 1] [] (.seq (.region [
    { dst := some 13, op := .move (.t 0), ix := 0 },
    { dst := some 14, op := .len 1 (.t 13), ix := 1 },
    { dst := some 15, op := .move (.c (.int .i64 0)), ix := 2 }] false [0, 1, 14, 15] []) (.seq (.block 0 (.seq (.keep [0, 1, 14, 15] [] (.loop B44x0)) (.keep [] [] .skip))) (.keep [] [] (.seq (.region [
    { dst := some 4, op := .move (.c (.bool true)), ix := 0 }] false [4] []) (.keep [4] [] .ret))))))))) }
theorem ok44 : fnSoundB Go.Proofs.Try.prog 44 F44 = true := by decide +kernel
/- (tendril/dom.Document).Read$1 -/
def B52x0 : LCode :=
  (.seq (.region [
    { dst := some 11, op := .move (.t 7), ix := 0 },
    { dst := some 12, op := .eq .ptr true (.t 11) (.c (.nilp)), ix := 1 }] false [1, 2, 3, 4, 7, 12] []) (.seq (.cond (.t 12) (.keep [1, 2, 3, 4, 7] [] .skip) (.keep [] [] (.exit 0))) (.keep [1, 2, 3, 4, 7] [] (.seq (.block 1 (.seq (.draw [
    { dst := some 15, op := .load 1 false (.t 2), ix := 0 },
    { dst := some 16, op := .nilCheck (.t 15), ix := 1 },
    { dst := some 17, op := .fieldAddr 0 (.t 16), ix := 2 },
    { dst := some 18, op := .load 1 false (.t 17), ix := 3 },
    { dst := some 19, op := .move (.t 7), ix := 4 },
    { dst := some 20, op := .call 53 [(.t 19, .as)], ix := 5, again := [0, 3] },
    { dst := some 21, op := .lookup 1 (.nilp) false (.t 18) (.t 20), ix := 6 },
    { dst := some 8, op := .move (.t 21), ix := 7 }] [1, 2, 3, 4, 7, 8] []) (.seq (.draw [
    { dst := some 22, op := .load 1 false (.t 3), ix := 0 },
    { dst := some 23, op := .move (.t 7), ix := 1 },
    { dst := some 25, op := .move (.t 1), ix := 3 },
    { dst := some 26, op := .move (.t 8), ix := 4 },
    { dst := some 27, op := .nilCheck (.t 26), ix := 5 },
    { dst := some 28, op := .fieldAddr 1 (.t 27), ix := 6 },
    { dst := some 29, op := .load 1 false (.t 28), ix := 7 },
    { dst := some 30, op := .move (.t 8), ix := 8 },
    { dst := some 31, op := .nilCheck (.t 30), ix := 9 },
    { dst := some 32, op := .fieldAddr 2 (.t 31), ix := 10 },
    { dst := some 33, op := .load 1 false (.t 32), ix := 11 },
    { dst := some 34, op := .move (.t 8), ix := 12 },
    { dst := some 35, op := .nilCheck (.t 34), ix := 13 },
    { dst := some 36, op := .fieldAddr 3 (.t 35), ix := 14 },
    { dst := some 37, op := .load 1 false (.t 36), ix := 15 },
    { dst := some 38, op := .move (.t 8), ix := 16 },
    { dst := some 39, op := .nilCheck (.t 38), ix := 17 },
    { dst := some 40, op := .fieldAddr 4 (.t 39), ix := 18 },
    { dst := some 41, op := .load 1 false (.t 40), ix := 19 },
    { dst := some 24, op := .call 53 [(.t 23, .as)], ix := 2, again := [0, 7, 11, 15, 19] },
    { dst := some 42, op := .pcall 48 [(.t 41, .as)], ix := 20 },
    { dst := some 43, op := .build [.p (.int .i64 0), .p (.int .i64 0), .p (.str []), .p (.str []), .p (.str []), .p (.list [])] [(0, 1, .t 24), (1, 1, .t 25), (2, 1, .t 29), (3, 1, .t 33), (4, 1, .t 37), (5, 1, .t 42)], ix := 21 },
    { dst := some 44, op := .row 6 [.t 43], ix := 22 },
    { dst := some 45, op := .append true 1000 6 88 (.t 22) (.t 44), ix := 23 },
    { dst := none, op := .store 1 false (.t 3) (.t 45), ix := 24 }] [1, 2, 3, 4, 7] []) (.seq (.region [
    { dst := some 46, op := .load 1 false (.t 4), ix := 0 },
    { dst := some 47, op := .move (.t 7), ix := 1 },
    { dst := some 48, op := .load 1 false (.t 3), ix := 2 },
    { dst := some 49, op := .len 1 (.t 48), ix := 3 },
    { dst := some 50, op := .callv (.t 46) [(.t 47, .as), (.t 49, .as)], ix := 4 }] false [1, 2, 3, 4, 7] []) (.keep [1, 2, 3, 4, 7] [] .skip))))) (.keep [1, 2, 3, 4, 7] [] (.seq (.region [
    { dst := some 13, op := .move (.t 7), ix := 0 },
    { dst := some 14, op := .call 36 [(.t 13, .as)], ix := 1 },
    { dst := some 7, op := .move (.t 14), ix := 2 }] false [1, 2, 3, 4, 7] []) (.keep [1, 2, 3, 4, 7] [] .skip)))))))
def F52 : LFunc := { nparams := 5, results := [], pure := false, body :=
  (.seq (.region [
    { dst := some 9, op := .move (.t 0), ix := 0 },
    { dst := some 10, op := .call 33 [(.t 9, .as)], ix := 1 },
    { dst := some 7, op := .move (.t 10), ix := 2 }] false [1, 2, 3, 4, 7] []) (.seq (.block 0 (.seq (.keep [1, 2, 3, 4, 7] [] (.loop B52x0)) (.keep [] [] .skip))) (.keep [] [] .skip))) }
theorem ok52 : fnSoundB Go.Proofs.Try.prog 52 F52 = true := by decide +kernel
/- slices.Equal[[]int,int] -/
def B66x0 : LCode :=
  (.seq (.region [
    { dst := some 14, op := .bin .lss (.t 13) (.t 12), ix := 0 }] false [0, 1, 12, 13, 14] []) (.seq (.cond (.t 14) (.keep [0, 1, 12, 13] [] .skip) (.keep [] [] (.exit 0))) (.keep [0, 1, 12, 13] [] (.seq (.block 1 (.seq (.region [
    { dst := some 15, op := .move (.t 13), ix := 0 },
    { dst := some 5, op := .move (.t 15), ix := 1 }] false [0, 1, 5, 12, 13] []) (.seq (.region [
    { dst := some 16, op := .move (.t 0), ix := 0 },
    { dst := some 17, op := .move (.t 5), ix := 1 },
    { dst := some 18, op := .indexAddr 1 (.t 16) (.t 17), ix := 2 },
    { dst := some 19, op := .load 1 false (.t 18), ix := 3 },
    { dst := some 20, op := .move (.t 1), ix := 4 },
    { dst := some 21, op := .move (.t 5), ix := 5 },
    { dst := some 22, op := .indexAddr 1 (.t 20) (.t 21), ix := 6 },
    { dst := some 23, op := .load 1 false (.t 22), ix := 7 },
    { dst := some 24, op := .eq .i true (.t 19) (.t 23), ix := 8 }] true [0, 1, 12, 13, 24] []) (.seq (.cond (.t 24) (.seq (.region [
    { dst := some 4, op := .move (.c (.bool false)), ix := 0 }] false [4] []) (.keep [4] [] .ret)) (.keep [0, 1, 12, 13] [] .skip)) (.keep [0, 1, 12, 13] [] .skip))))) (.keep [0, 1, 12, 13] [] (.seq (.region [
    { dst := some 25, op := .bin .add (.t 13) (.c (.int .i64 1)), ix := 0 },
    { dst := some 13, op := .move (.t 25), ix := 1 }] false [0, 1, 12, 13] []) (.keep [0, 1, 12, 13] [] .skip)))))))
def F66 : LFunc := { nparams := 2, results := [.tmp 4], pure := true, body :=
  (.seq (.region [
    { dst := some 4, op := .move (.c (.bool false)), ix := 0 }] false [0, 1] []) (.seq (.region [
    { dst := some 6, op := .move (.t 0), ix := 0 },
    { dst := some 7, op := .len 1 (.t 6), ix := 1 },
    { dst := some 8, op := .move (.t 1), ix := 2 },
    { dst := some 9, op := .len 1 (.t 8), ix := 3 },
    { dst := some 10, op := .eq .i true (.t 7) (.t 9), ix := 4 }] false [0, 1, 10] []) (.seq (.cond (.t 10) (.seq (.region [
    { dst := some 4, op := .move (.c (.bool false)), ix := 0 }] false [4] []) (.keep [4] [] .ret)) (.keep [0, 1] [] .skip)) (.keep [0, 1] [] (.seq (.region [
    { dst := some 11, op := .move (.t 0), ix := 0 },
    { dst := some 12, op := .len 1 (.t 11), ix := 1 },
    { dst := some 13, op := .move (.c (.int .i64 0)), ix := 2 }] false [0, 1, 12, 13] []) (.seq (.block 0 (.seq (.keep [0, 1, 12, 13] [] (.loop B66x0)) (.keep [] [] .skip))) (.keep [] [] (.seq (.region [
    { dst := some 4, op := .move (.c (.bool true)), ix := 0 }] false [4] []) (.keep [4] [] .ret))))))))) }
theorem ok66 : fnSoundB Go.Proofs.Try.prog 66 F66 = true := by decide +kernel
/- tendril/tendrilplain.Attrs -/
def B69x0 : LCode :=
  (.seq (.region [
    { dst := some 14, op := .bin .lss (.t 13) (.t 12), ix := 0 }] false [0, 1, 12, 13, 14] []) (.seq (.cond (.t 14) (.keep [0, 1, 12, 13] [] .skip) (.keep [] [] (.exit 0))) (.keep [0, 1, 12, 13] [] (.seq (.block 1 (.seq (.region [
    { dst := some 15, op := .move (.t 13), ix := 0 },
    { dst := some 5, op := .move (.t 15), ix := 1 }] false [0, 1, 5, 12, 13] []) (.seq (.region [
    { dst := some 16, op := .move (.t 0), ix := 0 },
    { dst := some 17, op := .move (.t 5), ix := 1 },
    { dst := some 18, op := .indexAddr 2 (.t 16) (.t 17), ix := 2 },
    { dst := some 19, op := .load 2 true (.t 18), ix := 3 },
    { dst := some 20, op := .move (.t 1), ix := 4 },
    { dst := some 21, op := .move (.t 5), ix := 5 },
    { dst := some 22, op := .indexAddr 2 (.t 20) (.t 21), ix := 6 },
    { dst := some 23, op := .load 2 true (.t 22), ix := 7 },
    { dst := some 24, op := .eq (.st [2, 2]) true (.t 19) (.t 23), ix := 8 }] true [0, 1, 12, 13, 24] []) (.seq (.cond (.t 24) (.seq (.region [
    { dst := some 4, op := .move (.c (.bool false)), ix := 0 }] false [4] []) (.keep [4] [] .ret)) (.keep [0, 1, 12, 13] [] .skip)) (.keep [0, 1, 12, 13] [] .skip))))) (.keep [0, 1, 12, 13] [] (.seq (.region [
    { dst := some 25, op := .bin .add (.t 13) (.c (.int .i64 1)), ix := 0 },
    { dst := some 13, op := .move (.t 25), ix := 1 }] false [0, 1, 12, 13] []) (.keep [0, 1, 12, 13] [] .skip)))))))
def F69 : LFunc := { nparams := 2, results := [.tmp 4], pure := true, body :=
  (.seq (.region [
    { dst := some 4, op := .move (.c (.bool false)), ix := 0 }] false [0, 1] []) (.seq (.region [
    { dst := some 6, op := .move (.t 0), ix := 0 },
    { dst := some 7, op := .len 1 (.t 6), ix := 1 },
    { dst := some 8, op := .move (.t 1), ix := 2 },
    { dst := some 9, op := .len 1 (.t 8), ix := 3 },
    { dst := some 10, op := .eq .i true (.t 7) (.t 9), ix := 4 }] false [0, 1, 10] []) (.seq (.cond (.t 10) (.seq (.region [
    { dst := some 4, op := .move (.c (.bool false)), ix := 0 }] false [4] []) (.keep [4] [] .ret)) (.keep [0, 1] [] .skip)) (.keep [0, 1] [] (.seq (.region [
    { dst := some 11, op := .move (.t 0), ix := 0 },
    { dst := some 12, op := .len 1 (.t 11), ix := 1 },
    { dst := some 13, op := .move (.c (.int .i64 0)), ix := 2 }] false [0, 1, 12, 13] []) (.seq (.block 0 (.seq (.keep [0, 1, 12, 13] [] (.loop B69x0)) (.keep [] [] .skip))) (.keep [] [] (.seq (.region [
    { dst := some 4, op := .move (.c (.bool true)), ix := 0 }] false [4] []) (.keep [4] [] .ret))))))))) }
theorem ok69 : fnSoundB Go.Proofs.Try.prog 69 F69 = true := by decide +kernel
end Go.TA.Try
