/- Part 9 of 15 of a proof; joined from ValidLow1. Functions of the program, lowered: each is held against the program's own text by the kernel. -/
import Derived.Test.YtnjblmbobmbgkaaDoorKe6
import Derived.Test.YtnjblmbobmbgkaaDoorProg
section
set_option linter.unusedSimpArgs false
set_option linter.unusedVariables false
/- Functions of the program, lowered: each is held against the program's own text by the kernel. -/
set_option linter.unusedVariables false
set_option maxRecDepth 100000
namespace Go.TA.Tryd
def F35 : LFunc := { nparams := 2, results := [.tmp 4], pure := false, body :=
  (.seq (.region [
    { dst := some 3, op := .box false 3 (.t 1), ix := 0 },
    { dst := some 4, op := .move (.c (.int .i64 0)), ix := 1 }] false [0, 3] [3]) (.seq (.block 0 (.seq (.region [
    { dst := some 6, op := .move (.t 0), ix := 0 },
    { dst := some 7, op := .fieldAddr 1 (.t 3), ix := 1 },
    { dst := some 8, op := .load 1 false (.t 7), ix := 2 },
    { dst := some 9, op := .call 56 [(.t 6, .as), (.t 8, .as)], ix := 3 },
    { dst := some 10, op := .un .not (.t 9), ix := 4 },
    { dst := some 11, op := .move (.t 10), ix := 5 },
    { dst := some 12, op := .move (.t 0), guard := some (11, false), ix := 6 },
    { dst := some 13, op := .fieldAddr 2 (.t 3), guard := some (11, false), ix := 7 },
    { dst := some 14, op := .load 1 false (.t 13), guard := some (11, false), ix := 8 },
    { dst := some 15, op := .call 56 [(.t 12, .as), (.t 14, .as)], guard := some (11, false), ix := 9 },
    { dst := some 16, op := .un .not (.t 15), guard := some (11, false), ix := 10 },
    { dst := some 17, op := .pick (.t 11) (.c (.bool true)) (.t 16), ix := 11 },
    { dst := some 18, op := .move (.t 17), ix := 12 },
    { dst := some 19, op := .move (.t 0), guard := some (18, false), ix := 13 },
    { dst := some 20, op := .fieldAddr 3 (.t 3), guard := some (18, false), ix := 14 },
    { dst := some 21, op := .load 1 false (.t 20), guard := some (18, false), ix := 15 },
    { dst := some 22, op := .call 56 [(.t 19, .as), (.t 21, .as)], guard := some (18, false), ix := 16 },
    { dst := some 23, op := .un .not (.t 22), guard := some (18, false), ix := 17 },
    { dst := some 24, op := .pick (.t 18) (.c (.bool true)) (.t 23), ix := 18 },
    { dst := some 5, op := .move (.t 24), ix := 19 }] false [0, 3, 5] [3]) (.seq (.cond (.t 5) (.seq (.region [
    { dst := some 4, op := .move (.c (.int .i64 13)), ix := 0 }] false [4] []) (.keep [4] [] .ret)) (.seq (.region [
    { dst := some 26, op := .move (.t 0), ix := 0 },
    { dst := some 27, op := .nilCheck (.t 26), ix := 1 },
    { dst := some 28, op := .fieldAddr 0 (.t 27), ix := 2 },
    { dst := some 29, op := .load 1 false (.t 28), ix := 3 },
    { dst := some 30, op := .fieldAddr 1 (.t 3), ix := 4 },
    { dst := some 31, op := .load 1 false (.t 30), ix := 5 },
    { dst := some 32, op := .indexAddr 7 (.t 29) (.t 31), ix := 6 },
    { dst := some 33, op := .fieldAddr 1 (.t 32), ix := 7 },
    { dst := some 34, op := .load 1 false (.t 33), ix := 8 },
    { dst := some 35, op := .bin .geq (.t 34) (.c (.int .i64 0)), ix := 9 },
    { dst := some 25, op := .move (.t 35), ix := 10 }] true [0, 3, 25] [3]) (.seq (.cond (.t 25) (.seq (.region [
    { dst := some 4, op := .move (.c (.int .i64 15)), ix := 0 }] false [4] []) (.keep [4] [] .ret)) (.seq (.region [
    { dst := some 37, op := .move (.t 0), ix := 0 },
    { dst := some 38, op := .fieldAddr 2 (.t 3), ix := 1 },
    { dst := some 39, op := .load 1 false (.t 38), ix := 2 },
    { dst := some 40, op := .fieldAddr 1 (.t 3), ix := 3 },
    { dst := some 41, op := .load 1 false (.t 40), ix := 4 },
    { dst := some 42, op := .call 57 [(.t 37, .as), (.t 39, .as), (.t 41, .as)], ix := 5 },
    { dst := some 36, op := .move (.t 42), ix := 6 }] false [0, 3, 36] [3]) (.seq (.cond (.t 36) (.seq (.region [
    { dst := some 4, op := .move (.c (.int .i64 17)), ix := 0 }] false [4] []) (.keep [4] [] .ret)) (.seq (.region [
    { dst := some 44, op := .fieldAddr 3 (.t 3), ix := 0 },
    { dst := some 45, op := .load 1 false (.t 44), ix := 1 },
    { dst := some 46, op := .eq .i true (.t 45) (.c (.int .i64 0)), ix := 2 },
    { dst := some 47, op := .move (.t 46), ix := 3 },
    { dst := some 48, op := .move (.t 0), guard := some (47, true), ix := 4 },
    { dst := some 49, op := .nilCheck (.t 48), guard := some (47, true), ix := 5 },
    { dst := some 50, op := .fieldAddr 0 (.t 49), guard := some (47, true), ix := 6 },
    { dst := some 51, op := .load 1 false (.t 50), guard := some (47, true), ix := 7 },
    { dst := some 52, op := .fieldAddr 3 (.t 3), guard := some (47, true), ix := 8 },
    { dst := some 53, op := .load 1 false (.t 52), guard := some (47, true), ix := 9 },
    { dst := some 54, op := .indexAddr 7 (.t 51) (.t 53), guard := some (47, true), ix := 10 },
    { dst := some 55, op := .fieldAddr 1 (.t 54), guard := some (47, true), ix := 11 },
    { dst := some 56, op := .load 1 false (.t 55), guard := some (47, true), ix := 12 },
    { dst := some 57, op := .fieldAddr 2 (.t 3), guard := some (47, true), ix := 13 },
    { dst := some 58, op := .load 1 false (.t 57), guard := some (47, true), ix := 14 },
    { dst := some 59, op := .eq .i true (.t 56) (.t 58), guard := some (47, true), ix := 15 },
    { dst := some 60, op := .pick (.t 47) (.t 59) (.c (.bool false)), ix := 16 },
    { dst := some 43, op := .move (.t 60), ix := 17 }] true [0, 3, 43] [3]) (.seq (.cond (.t 43) (.seq (.region [
    { dst := some 4, op := .move (.c (.int .i64 18)), ix := 0 }] false [4] []) (.keep [4] [] .ret)) (.keep [0, 3] [3] .skip)) (.keep [0, 3] [3] .skip)))) (.keep [0, 3] [3] .skip)))) (.keep [0, 3] [3] .skip)))) (.keep [0, 3] [3] .skip)))) (.keep [0, 3] [3] (.seq (.region [
    { dst := some 61, op := .move (.t 0), ix := 0 },
    { dst := some 62, op := .fieldAddr 1 (.t 3), ix := 1 },
    { dst := some 63, op := .load 1 false (.t 62), ix := 2 },
    { dst := some 64, op := .fieldAddr 2 (.t 3), ix := 3 },
    { dst := some 65, op := .load 1 false (.t 64), ix := 4 },
    { dst := some 66, op := .fieldAddr 3 (.t 3), ix := 5 },
    { dst := some 67, op := .load 1 false (.t 66), ix := 6 },
    { dst := some 68, op := .call 58 [(.t 61, .as), (.t 63, .as), (.t 65, .as), (.t 67, .as)], ix := 7 }] false [] []) (.seq (.region [
    { dst := some 4, op := .move (.c (.int .i64 0)), ix := 0 }] false [4] []) (.keep [4] [] .ret)))))) }
theorem ok35 : fnSoundB Go.Proofs.Tryd.prog 35 F35 = true := by decide +kernel
def F36 : LFunc := { nparams := 2, results := [.tmp 4], pure := false, body :=
  (.seq (.region [
    { dst := some 3, op := .box false 3 (.t 1), ix := 0 },
    { dst := some 4, op := .move (.c (.int .i64 0)), ix := 1 }] false [0, 3] [3]) (.seq (.region [
    { dst := some 5, op := .move (.c (.int .i64 (-1))), ix := 0 }] false [0, 3, 5] [3]) (.seq (.region [
    { dst := some 6, op := .move (.t 0), ix := 0 },
    { dst := some 7, op := .fieldAddr 1 (.t 3), ix := 1 },
    { dst := some 8, op := .load 1 false (.t 7), ix := 2 },
    { dst := some 9, op := .call 56 [(.t 6, .as), (.t 8, .as)], ix := 3 }] false [0, 3, 5, 9] [3]) (.seq (.cond (.t 9) (.seq (.region [
    { dst := some 10, op := .move (.t 0), ix := 0 },
    { dst := some 11, op := .nilCheck (.t 10), ix := 1 },
    { dst := some 12, op := .fieldAddr 0 (.t 11), ix := 2 },
    { dst := some 13, op := .load 1 false (.t 12), ix := 3 },
    { dst := some 14, op := .fieldAddr 1 (.t 3), ix := 4 },
    { dst := some 15, op := .load 1 false (.t 14), ix := 5 },
    { dst := some 16, op := .indexAddr 7 (.t 13) (.t 15), ix := 6 },
    { dst := some 17, op := .fieldAddr 1 (.t 16), ix := 7 },
    { dst := some 18, op := .load 1 false (.t 17), ix := 8 },
    { dst := some 5, op := .move (.t 18), ix := 9 }] true [0, 3, 5] [3]) (.keep [0, 3, 5] [3] .skip)) (.keep [0, 3, 5] [3] .skip)) (.keep [0, 3, 5] [3] (.seq (.block 0 (.seq (.region [
    { dst := some 20, op := .move (.t 0), ix := 0 },
    { dst := some 21, op := .fieldAddr 1 (.t 3), ix := 1 },
    { dst := some 22, op := .load 1 false (.t 21), ix := 2 },
    { dst := some 23, op := .call 56 [(.t 20, .as), (.t 22, .as)], ix := 3 },
    { dst := some 24, op := .un .not (.t 23), ix := 4 },
    { dst := some 25, op := .move (.t 24), ix := 5 },
    { dst := some 26, op := .move (.t 0), guard := some (25, false), ix := 6 },
    { dst := some 27, op := .fieldAddr 3 (.t 3), guard := some (25, false), ix := 7 },
    { dst := some 28, op := .load 1 false (.t 27), guard := some (25, false), ix := 8 },
    { dst := some 29, op := .call 56 [(.t 26, .as), (.t 28, .as)], guard := some (25, false), ix := 9 },
    { dst := some 30, op := .un .not (.t 29), guard := some (25, false), ix := 10 },
    { dst := some 31, op := .pick (.t 25) (.c (.bool true)) (.t 30), ix := 11 },
    { dst := some 19, op := .move (.t 31), ix := 12 }] false [0, 3, 5, 19] [3]) (.seq (.cond (.t 19) (.seq (.region [
    { dst := some 4, op := .move (.c (.int .i64 13)), ix := 0 }] false [4] []) (.keep [4] [] .ret)) (.seq (.region [
    { dst := some 33, op := .move (.t 5), ix := 0 },
    { dst := some 34, op := .bin .lss (.t 33) (.c (.int .i64 0)), ix := 1 },
    { dst := some 32, op := .move (.t 34), ix := 2 }] false [0, 3, 5, 32] [3]) (.seq (.cond (.t 32) (.seq (.region [
    { dst := some 4, op := .move (.c (.int .i64 16)), ix := 0 }] false [4] []) (.keep [4] [] .ret)) (.seq (.region [
    { dst := some 36, op := .fieldAddr 3 (.t 3), ix := 0 },
    { dst := some 37, op := .load 1 false (.t 36), ix := 1 },
    { dst := some 38, op := .fieldAddr 1 (.t 3), ix := 2 },
    { dst := some 39, op := .load 1 false (.t 38), ix := 3 },
    { dst := some 40, op := .eq .i false (.t 37) (.t 39), ix := 4 },
    { dst := some 41, op := .move (.t 40), ix := 5 },
    { dst := some 42, op := .fieldAddr 3 (.t 3), guard := some (41, false), ix := 6 },
    { dst := some 43, op := .load 1 false (.t 42), guard := some (41, false), ix := 7 },
    { dst := some 44, op := .eq .i true (.t 43) (.c (.int .i64 0)), guard := some (41, false), ix := 8 },
    { dst := some 45, op := .move (.t 44), guard := some (41, false), ix := 9 },
    { dst := some 46, op := .move (.t 0), guard := some (45, true), ix := 10 },
    { dst := some 47, op := .nilCheck (.t 46), guard := some (45, true), ix := 11 },
    { dst := some 48, op := .fieldAddr 0 (.t 47), guard := some (45, true), ix := 12 },
    { dst := some 49, op := .load 1 false (.t 48), guard := some (45, true), ix := 13 },
    { dst := some 50, op := .fieldAddr 3 (.t 3), guard := some (45, true), ix := 14 },
    { dst := some 51, op := .load 1 false (.t 50), guard := some (45, true), ix := 15 },
    { dst := some 52, op := .indexAddr 7 (.t 49) (.t 51), guard := some (45, true), ix := 16 },
    { dst := some 53, op := .fieldAddr 1 (.t 52), guard := some (45, true), ix := 17 },
    { dst := some 54, op := .load 1 false (.t 53), guard := some (45, true), ix := 18 },
    { dst := some 55, op := .move (.t 5), guard := some (45, true), ix := 19 },
    { dst := some 56, op := .eq .i true (.t 54) (.t 55), guard := some (45, true), ix := 20 },
    { dst := some 57, op := .pick (.t 45) (.t 56) (.c (.bool false)), guard := some (41, false), ix := 21 },
    { dst := some 58, op := .pick (.t 41) (.c (.bool true)) (.t 57), ix := 22 },
    { dst := some 35, op := .move (.t 58), ix := 23 }] true [0, 3, 5, 35] [3]) (.seq (.cond (.t 35) (.seq (.region [
    { dst := some 4, op := .move (.c (.int .i64 18)), ix := 0 }] false [4] []) (.keep [4] [] .ret)) (.keep [0, 3, 5] [3] .skip)) (.keep [0, 3, 5] [3] .skip)))) (.keep [0, 3, 5] [3] .skip)))) (.keep [0, 3, 5] [3] .skip)))) (.keep [0, 3, 5] [3] (.seq (.region [
    { dst := some 59, op := .move (.t 0), ix := 0 },
    { dst := some 60, op := .fieldAddr 1 (.t 3), ix := 1 },
    { dst := some 61, op := .load 1 false (.t 60), ix := 2 },
    { dst := some 62, op := .call 38 [(.t 59, .as), (.t 61, .as)], ix := 3 }] false [0, 3, 5] [3]) (.seq (.region [
    { dst := some 63, op := .move (.t 0), ix := 0 },
    { dst := some 64, op := .fieldAddr 1 (.t 3), ix := 1 },
    { dst := some 65, op := .load 1 false (.t 64), ix := 2 },
    { dst := some 66, op := .move (.t 5), ix := 3 },
    { dst := some 67, op := .fieldAddr 3 (.t 3), ix := 4 },
    { dst := some 68, op := .load 1 false (.t 67), ix := 5 },
    { dst := some 69, op := .call 58 [(.t 63, .as), (.t 65, .as), (.t 66, .as), (.t 68, .as)], ix := 6 }] false [] []) (.seq (.region [
    { dst := some 4, op := .move (.c (.int .i64 0)), ix := 0 }] false [4] []) (.keep [4] [] .ret))))))))))) }
theorem ok36 : fnSoundB Go.Proofs.Tryd.prog 36 F36 = true := by decide +kernel
def F37 : LFunc := { nparams := 2, results := [.tmp 4], pure := false, body :=
  (.seq (.region [
    { dst := some 4, op := .move (.c (.int .i64 0)), ix := 0 }] false [0, 1] []) (.seq (.block 0 (.seq (.region [
    { dst := some 6, op := .move (.t 1), ix := 0 },
    { dst := some 7, op := .eq .i false (.t 6) (.c (.int .i64 0)), ix := 1 },
    { dst := some 5, op := .move (.t 7), ix := 2 }] false [0, 1, 5] []) (.seq (.cond (.t 5) (.seq (.region [
    { dst := some 4, op := .move (.c (.int .i64 14)), ix := 0 }] false [4] []) (.keep [4] [] .ret)) (.seq (.region [
    { dst := some 9, op := .move (.t 0), ix := 0 },
    { dst := some 10, op := .move (.t 1), ix := 1 },
    { dst := some 11, op := .call 56 [(.t 9, .as), (.t 10, .as)], ix := 2 },
    { dst := some 12, op := .un .not (.t 11), ix := 3 },
    { dst := some 8, op := .move (.t 12), ix := 4 }] false [8] []) (.seq (.cond (.t 8) (.seq (.region [
    { dst := some 4, op := .move (.c (.int .i64 13)), ix := 0 }] false [4] []) (.keep [4] [] .ret)) (.keep [] [] .skip)) (.keep [] [] .skip)))) (.keep [] [] .skip)))) (.keep [] [] (.seq (.region [
    { dst := some 4, op := .move (.c (.int .i64 0)), ix := 0 }] false [4] []) (.keep [4] [] .ret))))) }
theorem ok37 : fnSoundB Go.Proofs.Tryd.prog 37 F37 = true := by decide +kernel
def F38 : LFunc := { nparams := 2, results := [], pure := false, body :=
  (.seq (.region [
    { dst := some 3, op := .box true 3 (.t 1), ix := 0 }] false [0, 3] []) (.seq (.region [
    { dst := some 5, op := .move (.t 0), ix := 0 },
    { dst := some 6, op := .nilCheck (.t 5), ix := 1 },
    { dst := some 7, op := .fieldAddr 0 (.t 6), ix := 2 },
    { dst := some 8, op := .load 1 false (.t 7), ix := 3 },
    { dst := some 9, op := .load 1 false (.t 3), ix := 4 },
    { dst := some 10, op := .indexAddr 7 (.t 8) (.t 9), ix := 5 },
    { dst := some 11, op := .fieldAddr 1 (.t 10), ix := 6 },
    { dst := some 12, op := .load 1 false (.t 11), ix := 7 },
    { dst := some 4, op := .move (.t 12), ix := 8 }] true [0, 3, 4] []) (.seq (.region [
    { dst := some 13, op := .move (.t 4), ix := 0 },
    { dst := some 14, op := .bin .lss (.t 13) (.c (.int .i64 0)), ix := 1 }] false [0, 3, 4, 14] []) (.seq (.cond (.t 14) (.keep [] [] .ret) (.keep [0, 3, 4] [] .skip)) (.keep [0, 3, 4] [] (.seq (.draw [
    { dst := some 15, op := .move (.t 0), ix := 0 },
    { dst := some 16, op := .nilCheck (.t 15), ix := 1 },
    { dst := some 17, op := .fieldAddr 0 (.t 16), ix := 2 },
    { dst := some 18, op := .load 1 false (.t 17), ix := 3 },
    { dst := some 19, op := .move (.t 4), ix := 4 },
    { dst := some 20, op := .move (.t 0), ix := 5 },
    { dst := some 21, op := .nilCheck (.t 20), ix := 6 },
    { dst := some 22, op := .fieldAddr 0 (.t 21), ix := 7 },
    { dst := some 23, op := .load 1 false (.t 22), ix := 8 },
    { dst := some 24, op := .move (.t 4), ix := 9 },
    { dst := some 25, op := .indexAddr 7 (.t 23) (.t 24), ix := 10 },
    { dst := some 26, op := .fieldAddr 2 (.t 25), ix := 11 },
    { dst := some 27, op := .load 1 false (.t 26), ix := 12 },
    { dst := some 29, op := .makeFunc 61 [.t 3], ix := 14 },
    { dst := some 28, op := .call 60 [(.t 27, .as)], ix := 13, again := [3] },
    { dst := some 30, op := .call 59 [(.t 28, .as), (.t 29, .as)], ix := 15, again := [3] },
    { dst := some 31, op := .indexAddr 7 (.t 18) (.t 19), ix := 16 },
    { dst := some 32, op := .fieldAddr 2 (.t 31), ix := 17 },
    { dst := none, op := .store 1 false (.t 32) (.t 30), ix := 18 }] [0, 3] []) (.seq (.draw [
    { dst := some 33, op := .move (.t 0), ix := 0 },
    { dst := some 34, op := .nilCheck (.t 33), ix := 1 },
    { dst := some 35, op := .fieldAddr 0 (.t 34), ix := 2 },
    { dst := some 36, op := .load 1 false (.t 35), ix := 3 },
    { dst := some 37, op := .load 1 false (.t 3), ix := 4 },
    { dst := some 38, op := .indexAddr 7 (.t 36) (.t 37), ix := 5 },
    { dst := some 39, op := .fieldAddr 1 (.t 38), ix := 6 },
    { dst := none, op := .store 1 false (.t 39) (.c (.int .i64 (-1))), ix := 7 }] [] []) (.keep [] [] .skip)))))))) }
theorem ok38 : fnSoundB Go.Proofs.Tryd.prog 38 F38 = true := by decide +kernel
def B39x0 : LCode :=
  (.seq (.region [
    { dst := some 16, op := .bin .lss (.t 15) (.t 14), ix := 0 }] false [0, 1, 13, 14, 15, 16] []) (.seq (.cond (.t 16) (.keep [0, 1, 13, 14, 15] [] .skip) (.keep [0, 1] [] (.exit 0))) (.keep [0, 1, 13, 14, 15] [] (.seq (.block 1 (.seq (.region [
    { dst := some 17, op := .indexAddr 1 (.t 13) (.t 15), ix := 0 },
    { dst := some 18, op := .load 1 false (.t 17), ix := 1 },
    { dst := some 5, op := .move (.t 18), ix := 2 }] false [0, 1, 5, 13, 14, 15] []) (.seq (.region [
    { dst := some 19, op := .move (.t 0), ix := 0 },
    { dst := some 20, op := .move (.t 5), ix := 1 },
    { dst := some 21, op := .call 39 [(.t 19, .as), (.t 20, .freeze)], ix := 2 }] false [0, 1, 13, 14, 15] []) (.keep [0, 1, 13, 14, 15] [] .skip)))) (.keep [0, 1, 13, 14, 15] [] (.seq (.region [
    { dst := some 22, op := .bin .add (.t 15) (.c (.int .i64 1)), ix := 0 },
    { dst := some 15, op := .move (.t 22), ix := 1 }] false [0, 1, 13, 14, 15] []) (.keep [0, 1, 13, 14, 15] [] .skip)))))))
def F39 : LFunc := { nparams := 2, results := [], pure := false, body :=
  (.seq (.region [
    { dst := some 6, op := .move (.t 0), ix := 0 },
    { dst := some 7, op := .nilCheck (.t 6), ix := 1 },
    { dst := some 8, op := .fieldAddr 0 (.t 7), ix := 2 },
    { dst := some 9, op := .load 1 false (.t 8), ix := 3 },
    { dst := some 10, op := .move (.t 1), ix := 4 },
    { dst := some 11, op := .indexAddr 7 (.t 9) (.t 10), ix := 5 },
    { dst := some 12, op := .fieldAddr 2 (.t 11), ix := 6 },
    { dst := some 13, op := .load 1 false (.t 12), ix := 7 },
    { dst := some 14, op := .len 1 (.t 13), ix := 8 },
    { dst := some 15, op := .move (.c (.int .i64 0)), ix := 9 }] false [0, 1, 13, 14, 15] []) (.seq (.block 0 (.seq (.keep [0, 1, 13, 14, 15] [] (.loop B39x0)) (.keep [0, 1] [] .skip))) (.keep [0, 1] [] (.seq (.region [
    { dst := some 23, op := .move (.t 0), ix := 0 },
    { dst := some 24, op := .nilCheck (.t 23), ix := 1 },
    { dst := some 25, op := .fieldAddr 0 (.t 24), ix := 2 },
    { dst := some 26, op := .load 1 false (.t 25), ix := 3 },
    { dst := some 27, op := .move (.t 1), ix := 4 },
    { dst := some 28, op := .build [.p (.bool false), .p (.int .i64 0), .nils, .p (.str []), .p (.str []), .p (.str []), .p (.list [])] [(1, 1, .c (.int .i64 (-1)))], ix := 5 },
    { dst := some 29, op := .indexAddr 7 (.t 26) (.t 27), ix := 6 },
    { dst := none, op := .store 7 true (.t 29) (.t 28), ix := 7 }] false [] []) (.keep [] [] .skip))))) }
theorem ok39 : fnSoundB Go.Proofs.Tryd.prog 39 F39 = true := by decide +kernel
def F40 : LFunc := { nparams := 3, results := [.tmp 6], pure := false, body :=
  (.seq (.region [
    { dst := some 5, op := .box false 5 (.t 2), ix := 0 },
    { dst := some 6, op := .move (.c (.int .i64 0)), ix := 1 }] false [1, 5] [5]) (.seq (.region [
    { dst := some 10, op := .fieldAddr 0 (.t 5), ix := 0 },
    { dst := some 11, op := .load 1 false (.t 10), ix := 1 }] false [1, 5, 11] [5]) (.seq (.block 0 (.seq (.region [
    { dst := some 13, op := .eq .i false (.t 11) (.c (.int .i64 5)), ix := 0 },
    { dst := some 12, op := .move (.t 13), ix := 1 }] false [1, 5, 11, 12] [5]) (.seq (.cond (.t 12) (.seq (.region [
    { dst := some 14, op := .move (.t 1), ix := 0 },
    { dst := some 15, op := .nilCheck (.t 14), ix := 1 },
    { dst := some 16, op := .fieldAddr 6 (.t 15), ix := 2 },
    { dst := some 17, op := .load 1 false (.t 16), ix := 3 },
    { dst := some 18, op := .fieldAddr 6 (.t 5), ix := 4 },
    { dst := some 19, op := .load 1 false (.t 18), ix := 5 },
    { dst := some 20, op := .fieldAddr 7 (.t 5), ix := 6 },
    { dst := some 21, op := .load 1 false (.t 20), ix := 7 },
    { dst := some 22, op := .pcall 62 [(.t 17, .as), (.t 19, .as), (.t 21, .as)], ix := 8 },
    { dst := some 7, op := .move (.t 22), ix := 9 }] true [1, 7] []) (.seq (.region [
    { dst := some 23, op := .move (.t 7), ix := 0 },
    { dst := some 24, op := .len 1 (.t 23), ix := 1 },
    { dst := some 25, op := .bin .gtr (.t 24) (.c (.int .i64 64)), ix := 2 }] false [1, 7, 25] []) (.seq (.cond (.t 25) (.seq (.region [
    { dst := some 6, op := .move (.c (.int .i64 12)), ix := 0 }] false [6] []) (.keep [6] [] .ret)) (.keep [1, 7] [] .skip)) (.keep [1, 7] [] (.seq (.region [
    { dst := some 26, op := .move (.t 1), ix := 0 },
    { dst := some 27, op := .move (.t 7), ix := 1 },
    { dst := some 28, op := .nilCheck (.t 26), ix := 2 },
    { dst := some 29, op := .fieldAddr 6 (.t 28), ix := 3 },
    { dst := none, op := .store 1 false (.t 29) (.t 27), ix := 4 }] false [] []) (.keep [] [] .skip)))))) (.seq (.region [
    { dst := some 31, op := .eq .i false (.t 11) (.c (.int .i64 6)), ix := 0 },
    { dst := some 30, op := .move (.t 31), ix := 1 }] false [1, 5, 11, 30] [5]) (.seq (.cond (.t 30) (.seq (.region [
    { dst := some 33, op := .move (.t 1), ix := 0 },
    { dst := some 34, op := .nilCheck (.t 33), ix := 1 },
    { dst := some 35, op := .fieldAddr 6 (.t 34), ix := 2 },
    { dst := some 36, op := .load 1 false (.t 35), ix := 3 },
    { dst := some 37, op := .fieldAddr 6 (.t 5), ix := 4 },
    { dst := some 38, op := .load 1 false (.t 37), ix := 5 },
    { dst := some 39, op := .pcall 63 [(.t 36, .as), (.t 38, .as)], ix := 6 },
    { dst := some 32, op := .move (.t 39), ix := 7 },
    { dst := some 40, op := .extract (.t 32) 0, ix := 8 },
    { dst := some 41, op := .extract (.t 32) 1, ix := 9 },
    { dst := some 8, op := .move (.t 40), ix := 10 },
    { dst := some 9, op := .move (.t 41), ix := 11 }] true [1, 8, 9] []) (.seq (.region [
    { dst := some 42, op := .move (.t 9), ix := 0 },
    { dst := some 43, op := .un .not (.t 42), ix := 1 }] false [1, 8, 43] []) (.seq (.cond (.t 43) (.seq (.region [
    { dst := some 6, op := .move (.c (.int .i64 8)), ix := 0 }] false [6] []) (.keep [6] [] .ret)) (.keep [1, 8] [] .skip)) (.keep [1, 8] [] (.seq (.region [
    { dst := some 44, op := .move (.t 1), ix := 0 },
    { dst := some 45, op := .move (.t 8), ix := 1 },
    { dst := some 46, op := .nilCheck (.t 44), ix := 2 },
    { dst := some 47, op := .fieldAddr 6 (.t 46), ix := 3 },
    { dst := none, op := .store 1 false (.t 47) (.t 45), ix := 4 }] false [] []) (.keep [] [] .skip)))))) (.seq (.region [
    { dst := some 49, op := .eq .i false (.t 11) (.c (.int .i64 7)), ix := 0 },
    { dst := some 48, op := .move (.t 49), ix := 1 }] false [1, 5, 48] [5]) (.seq (.cond (.t 48) (.seq (.region [
    { dst := some 50, op := .move (.t 1), ix := 0 },
    { dst := some 51, op := .fieldAddr 7 (.t 5), ix := 1 },
    { dst := some 52, op := .load 1 false (.t 51), ix := 2 },
    { dst := some 53, op := .nilCheck (.t 50), ix := 3 },
    { dst := some 54, op := .fieldAddr 5 (.t 53), ix := 4 },
    { dst := none, op := .store 1 false (.t 54) (.t 52), ix := 5 }] false [] []) (.keep [] [] .skip)) (.keep [] [] .skip)) (.keep [] [] .skip)))) (.keep [] [] .skip)))) (.keep [] [] .skip)))) (.keep [] [] (.seq (.region [
    { dst := some 6, op := .move (.c (.int .i64 0)), ix := 0 }] false [6] []) (.keep [6] [] .ret)))))) }
theorem ok40 : fnSoundB Go.Proofs.Tryd.prog 40 F40 = true := by decide +kernel
def B41x0 : LCode :=
  (.seq (.region [
    { dst := some 9, op := .bin .lss (.t 8) (.t 7), ix := 0 }] false [2, 3, 6, 7, 8, 9] [2, 3]) (.seq (.cond (.t 9) (.keep [2, 3, 6, 7, 8] [2, 3] .skip) (.keep [2, 3] [2, 3] (.exit 0))) (.keep [2, 3, 6, 7, 8] [2, 3] (.seq (.block 1 (.seq (.region [
    { dst := some 10, op := .indexAddr 9 (.t 6) (.t 8), ix := 0 },
    { dst := some 11, op := .load 9 true (.t 10), ix := 1 },
    { dst := some 5, op := .alloc false 5 [.p (.int .i64 0), .p (.int .i64 0), .p (.int .i64 0), .p (.int .i64 0), .p (.str []), .p (.str []), .p (.str []), .p (.str []), .p (.list [])] [], ix := 2 },
    { dst := none, op := .store 9 true (.t 5) (.t 11), ix := 3 }] false [2, 3, 5, 6, 7, 8] [2, 3, 5]) (.seq (.region [
    { dst := some 12, op := .fieldAddr 0 (.t 5), ix := 0 },
    { dst := some 13, op := .load 1 false (.t 12), ix := 1 },
    { dst := some 14, op := .bin .gtr (.t 13) (.c (.int .i64 0)), ix := 2 },
    { dst := some 15, op := .move (.t 14), ix := 3 },
    { dst := some 16, op := .fieldAddr 0 (.t 5), guard := some (15, true), ix := 4 },
    { dst := some 17, op := .load 1 false (.t 16), guard := some (15, true), ix := 5 },
    { dst := some 18, op := .bin .lss (.t 17) (.c (.int .i64 8)), guard := some (15, true), ix := 6 },
    { dst := some 19, op := .pick (.t 15) (.t 18) (.c (.bool false)), ix := 7 }] false [2, 3, 5, 6, 7, 8, 19] [2, 3, 5]) (.seq (.cond (.t 19) (.seq (.region [
    { dst := some 20, op := .fieldAddr 0 (.t 5), ix := 0 },
    { dst := some 21, op := .load 1 false (.t 20), ix := 1 },
    { dst := some 22, op := .indexArr 8 1 (.t 3) (.t 21), ix := 2 },
    { dst := some 23, op := .load 1 false (.t 22), ix := 3 },
    { dst := some 24, op := .bin .add (.t 23) (.c (.int .i64 1)), ix := 4 },
    { dst := some 25, op := .indexArr 8 1 (.t 3) (.t 21), ix := 5 },
    { dst := none, op := .store 1 false (.t 25) (.t 24), ix := 6 }] false [2, 3, 6, 7, 8] [2, 3]) (.keep [2, 3, 6, 7, 8] [2, 3] .skip)) (.keep [2, 3, 6, 7, 8] [2, 3] .skip)) (.keep [2, 3, 6, 7, 8] [2, 3] .skip))))) (.keep [2, 3, 6, 7, 8] [2, 3] (.seq (.region [
    { dst := some 26, op := .bin .add (.t 8) (.c (.int .i64 1)), ix := 0 },
    { dst := some 8, op := .move (.t 26), ix := 1 }] false [2, 3, 6, 7, 8] [2, 3]) (.keep [2, 3, 6, 7, 8] [2, 3] .skip)))))))
def F41 : LFunc := { nparams := 1, results := [.cell 2 7 true], pure := true, body :=
  (.seq (.region [
    { dst := some 2, op := .alloc false 2 [.p (.int .i64 0), .p (.int .i64 0), .p (.int .i64 0), .p (.int .i64 0), .p (.int .i64 0), .p (.int .i64 0), .p (.int .i64 0)] [], ix := 0 }] false [0, 2] [2]) (.seq (.region [
    { dst := some 3, op := .alloc false 3 [.p (.int .i64 0), .p (.int .i64 0), .p (.int .i64 0), .p (.int .i64 0), .p (.int .i64 0), .p (.int .i64 0), .p (.int .i64 0), .p (.int .i64 0)] [], ix := 0 }] false [0, 2, 3] [2, 3]) (.seq (.region [
    { dst := some 6, op := .move (.t 0), ix := 0 },
    { dst := some 7, op := .len 1 (.t 6), ix := 1 },
    { dst := some 8, op := .move (.c (.int .i64 0)), ix := 2 }] false [2, 3, 6, 7, 8] [2, 3]) (.seq (.block 0 (.seq (.keep [2, 3, 6, 7, 8] [2, 3] (.loop B41x0)) (.keep [2, 3] [2, 3] .skip))) (.keep [2, 3] [2, 3] (.seq (.region [
    { dst := some 27, op := .indexArr 8 1 (.t 3) (.c (.int .i64 1)), ix := 0 },
    { dst := some 28, op := .load 1 false (.t 27), ix := 1 },
    { dst := some 29, op := .indexArr 8 1 (.t 3) (.c (.int .i64 2)), ix := 2 },
    { dst := some 30, op := .load 1 false (.t 29), ix := 3 },
    { dst := some 31, op := .indexArr 8 1 (.t 3) (.c (.int .i64 3)), ix := 4 },
    { dst := some 32, op := .load 1 false (.t 31), ix := 5 },
    { dst := some 33, op := .indexArr 8 1 (.t 3) (.c (.int .i64 4)), ix := 6 },
    { dst := some 34, op := .load 1 false (.t 33), ix := 7 },
    { dst := some 35, op := .indexArr 8 1 (.t 3) (.c (.int .i64 5)), ix := 8 },
    { dst := some 36, op := .load 1 false (.t 35), ix := 9 },
    { dst := some 37, op := .indexArr 8 1 (.t 3) (.c (.int .i64 6)), ix := 10 },
    { dst := some 38, op := .load 1 false (.t 37), ix := 11 },
    { dst := some 39, op := .indexArr 8 1 (.t 3) (.c (.int .i64 7)), ix := 12 },
    { dst := some 40, op := .load 1 false (.t 39), ix := 13 },
    { dst := some 41, op := .build [.p (.int .i64 0), .p (.int .i64 0), .p (.int .i64 0), .p (.int .i64 0), .p (.int .i64 0), .p (.int .i64 0), .p (.int .i64 0)] [(0, 1, .t 28), (1, 1, .t 30), (2, 1, .t 32), (3, 1, .t 34), (4, 1, .t 36), (5, 1, .t 38), (6, 1, .t 40)], ix := 14 },
    { dst := none, op := .store 7 true (.t 2) (.t 41), ix := 15 }] false [2] [2]) (.keep [2] [2] .ret))))))) }
theorem ok41 : fnSoundB Go.Proofs.Tryd.prog 41 F41 = true := by decide +kernel
def F42 : LFunc := { nparams := 2, results := [.tmp 4], pure := true, body :=
  (.seq (.region [
    { dst := some 4, op := .move (.c (.bool false)), ix := 0 }] false [0, 1] []) (.seq (.region [
    { dst := some 5, op := .move (.t 0), ix := 0 },
    { dst := some 6, op := .bin .geq (.t 5) (.c (.int .u8 97)), ix := 1 },
    { dst := some 7, op := .move (.t 6), ix := 2 },
    { dst := some 8, op := .move (.t 0), guard := some (7, true), ix := 3 },
    { dst := some 9, op := .bin .leq (.t 8) (.c (.int .u8 122)), guard := some (7, true), ix := 4 },
    { dst := some 10, op := .pick (.t 7) (.t 9) (.c (.bool false)), ix := 5 },
    { dst := some 11, op := .move (.t 10), ix := 6 },
    { dst := some 12, op := .move (.t 0), guard := some (11, false), ix := 7 },
    { dst := some 13, op := .bin .geq (.t 12) (.c (.int .u8 48)), guard := some (11, false), ix := 8 },
    { dst := some 14, op := .move (.t 13), guard := some (11, false), ix := 9 },
    { dst := some 15, op := .move (.t 0), guard := some (14, true), ix := 10 },
    { dst := some 16, op := .bin .leq (.t 15) (.c (.int .u8 57)), guard := some (14, true), ix := 11 },
    { dst := some 17, op := .pick (.t 14) (.t 16) (.c (.bool false)), guard := some (11, false), ix := 12 },
    { dst := some 18, op := .pick (.t 11) (.c (.bool true)) (.t 17), ix := 13 },
    { dst := some 19, op := .move (.t 18), ix := 14 },
    { dst := some 20, op := .move (.t 0), guard := some (19, false), ix := 15 },
    { dst := some 21, op := .eq .i false (.t 20) (.c (.int .u8 45)), guard := some (19, false), ix := 16 },
    { dst := some 22, op := .pick (.t 19) (.c (.bool true)) (.t 21), ix := 17 },
    { dst := some 23, op := .move (.t 22), ix := 18 },
    { dst := some 24, op := .move (.t 1), guard := some (23, false), ix := 19 },
    { dst := some 25, op := .move (.t 24), guard := some (23, false), ix := 20 },
    { dst := some 26, op := .move (.t 0), guard := some (25, true), ix := 21 },
    { dst := some 27, op := .eq .i false (.t 26) (.c (.int .u8 58)), guard := some (25, true), ix := 22 },
    { dst := some 28, op := .move (.t 27), guard := some (25, true), ix := 23 },
    { dst := some 29, op := .move (.t 0), guard := some (28, false), ix := 24 },
    { dst := some 30, op := .eq .i false (.t 29) (.c (.int .u8 46)), guard := some (28, false), ix := 25 },
    { dst := some 31, op := .pick (.t 28) (.c (.bool true)) (.t 30), guard := some (25, true), ix := 26 },
    { dst := some 32, op := .pick (.t 25) (.t 31) (.c (.bool false)), guard := some (23, false), ix := 27 },
    { dst := some 33, op := .pick (.t 23) (.c (.bool true)) (.t 32), ix := 28 },
    { dst := some 4, op := .move (.t 33), ix := 29 }] false [4] []) (.keep [4] [] .ret))) }
theorem ok42 : fnSoundB Go.Proofs.Tryd.prog 42 F42 = true := by decide +kernel
def B43x0 : LCode :=
  (.seq (.region [
    { dst := some 6, op := .move (.t 5), ix := 0 },
    { dst := some 7, op := .move (.t 0), ix := 1 },
    { dst := some 8, op := .len 0 (.t 7), ix := 2 },
    { dst := some 9, op := .bin .lss (.t 6) (.t 8), ix := 3 },
    { dst := some 10, op := .move (.t 9), ix := 4 },
    { dst := some 11, op := .move (.t 5), guard := some (10, true), ix := 5 },
    { dst := some 12, op := .move (.t 1), guard := some (10, true), ix := 6 },
    { dst := some 13, op := .len 0 (.t 12), guard := some (10, true), ix := 7 },
    { dst := some 14, op := .bin .lss (.t 11) (.t 13), guard := some (10, true), ix := 8 },
    { dst := some 15, op := .pick (.t 10) (.t 14) (.c (.bool false)), ix := 9 }] false [0, 1, 5, 15] []) (.seq (.cond (.t 15) (.keep [0, 1, 5] [] .skip) (.keep [0, 1] [] (.exit 0))) (.keep [0, 1, 5] [] (.seq (.block 1 (.seq (.region [
    { dst := some 18, op := .move (.t 0), ix := 0 },
    { dst := some 19, op := .move (.t 5), ix := 1 },
    { dst := some 20, op := .index (.t 18) (.t 19), ix := 2 },
    { dst := some 21, op := .move (.t 1), ix := 3 },
    { dst := some 22, op := .move (.t 5), ix := 4 },
    { dst := some 23, op := .index (.t 21) (.t 22), ix := 5 },
    { dst := some 24, op := .bin .lss (.t 20) (.t 23), ix := 6 }] true [0, 1, 5, 24] []) (.seq (.cond (.t 24) (.seq (.region [
    { dst := some 4, op := .move (.c (.int .i64 (-1))), ix := 0 }] false [4] []) (.keep [4] [] .ret)) (.keep [0, 1, 5] [] .skip)) (.keep [0, 1, 5] [] (.seq (.region [
    { dst := some 25, op := .move (.t 0), ix := 0 },
    { dst := some 26, op := .move (.t 5), ix := 1 },
    { dst := some 27, op := .index (.t 25) (.t 26), ix := 2 },
    { dst := some 28, op := .move (.t 1), ix := 3 },
    { dst := some 29, op := .move (.t 5), ix := 4 },
    { dst := some 30, op := .index (.t 28) (.t 29), ix := 5 },
    { dst := some 31, op := .bin .gtr (.t 27) (.t 30), ix := 6 }] true [0, 1, 5, 31] []) (.seq (.cond (.t 31) (.seq (.region [
    { dst := some 4, op := .move (.c (.int .i64 1)), ix := 0 }] false [4] []) (.keep [4] [] .ret)) (.keep [0, 1, 5] [] .skip)) (.keep [0, 1, 5] [] .skip))))))) (.keep [0, 1, 5] [] (.seq (.region [
    { dst := some 16, op := .move (.t 5), ix := 0 },
    { dst := some 17, op := .bin .add (.t 16) (.c (.int .i64 1)), ix := 1 },
    { dst := some 5, op := .move (.t 17), ix := 2 }] false [0, 1, 5] []) (.keep [0, 1, 5] [] .skip)))))))
def F43 : LFunc := { nparams := 2, results := [.tmp 4], pure := true, body :=
  (.seq (.region [
    { dst := some 4, op := .move (.c (.int .i64 0)), ix := 0 }] false [0, 1] []) (.seq (.region [
    { dst := some 5, op := .move (.c (.int .i64 0)), ix := 0 }] false [0, 1, 5] []) (.seq (.block 0 (.seq (.keep [0, 1, 5] [] (.loop B43x0)) (.keep [0, 1] [] .skip))) (.keep [0, 1] [] (.seq (.region [
    { dst := some 32, op := .move (.t 0), ix := 0 },
    { dst := some 33, op := .len 0 (.t 32), ix := 1 },
    { dst := some 34, op := .move (.t 1), ix := 2 },
    { dst := some 35, op := .len 0 (.t 34), ix := 3 },
    { dst := some 36, op := .bin .lss (.t 33) (.t 35), ix := 4 }] false [0, 1, 36] []) (.seq (.cond (.t 36) (.seq (.region [
    { dst := some 4, op := .move (.c (.int .i64 (-1))), ix := 0 }] false [4] []) (.keep [4] [] .ret)) (.keep [0, 1] [] .skip)) (.keep [0, 1] [] (.seq (.region [
    { dst := some 37, op := .move (.t 0), ix := 0 },
    { dst := some 38, op := .len 0 (.t 37), ix := 1 },
    { dst := some 39, op := .move (.t 1), ix := 2 },
    { dst := some 40, op := .len 0 (.t 39), ix := 3 },
    { dst := some 41, op := .bin .gtr (.t 38) (.t 40), ix := 4 }] false [41] []) (.seq (.cond (.t 41) (.seq (.region [
    { dst := some 4, op := .move (.c (.int .i64 1)), ix := 0 }] false [4] []) (.keep [4] [] .ret)) (.keep [] [] .skip)) (.keep [] [] (.seq (.region [
    { dst := some 4, op := .move (.c (.int .i64 0)), ix := 0 }] false [4] []) (.keep [4] [] .ret)))))))))))) }
theorem ok43 : fnSoundB Go.Proofs.Tryd.prog 43 F43 = true := by decide +kernel
def B44x1 : LCode :=
  (.seq (.region [
    { dst := some 14, op := .move (.t 5), ix := 0 },
    { dst := some 15, op := .eq .i true (.t 14) (.c (.int .i64 0)), ix := 1 },
    { dst := some 16, op := .move (.t 15), ix := 2 },
    { dst := some 17, op := .move (.t 5), guard := some (16, true), ix := 3 },
    { dst := some 18, op := .fieldAddr 1 (.t 4), guard := some (16, true), ix := 4 },
    { dst := some 19, op := .load 1 false (.t 18), guard := some (16, true), ix := 5 },
    { dst := some 20, op := .eq .i true (.t 17) (.t 19), guard := some (16, true), ix := 6 },
    { dst := some 21, op := .pick (.t 16) (.t 20) (.c (.bool false)), ix := 7 }] false [0, 3, 4, 5, 6, 7, 8, 21] [4]) (.seq (.cond (.t 21) (.keep [0, 3, 4, 5, 6, 7, 8] [4] .skip) (.keep [0, 3, 4, 5, 6, 7, 8] [4] (.exit 2))) (.keep [0, 3, 4, 5, 6, 7, 8] [4] (.seq (.block 3 (.seq (.region [
    { dst := some 22, op := .move (.t 0), ix := 0 },
    { dst := some 23, op := .move (.t 5), ix := 1 },
    { dst := some 24, op := .bin .sub (.t 23) (.c (.int .i64 1)), ix := 2 },
    { dst := some 25, op := .indexAddr 6 (.t 22) (.t 24), ix := 3 },
    { dst := some 26, op := .fieldAddr 1 (.t 25), ix := 4 },
    { dst := some 27, op := .load 1 false (.t 26), ix := 5 },
    { dst := some 5, op := .move (.t 27), ix := 6 }] false [0, 3, 4, 5, 6, 7, 8] [4]) (.keep [0, 3, 4, 5, 6, 7, 8] [4] .skip))) (.keep [0, 3, 4, 5, 6, 7, 8] [4] .skip)))))
def B44x0 : LCode :=
  (.seq (.region [
    { dst := some 9, op := .bin .lss (.t 8) (.t 7), ix := 0 }] false [0, 6, 7, 8, 9] []) (.seq (.cond (.t 9) (.keep [0, 6, 7, 8] [] .skip) (.keep [] [] (.exit 0))) (.keep [0, 6, 7, 8] [] (.seq (.block 1 (.seq (.region [
    { dst := some 10, op := .move (.t 8), ix := 0 },
    { dst := some 11, op := .indexAddr 6 (.t 6) (.t 8), ix := 1 },
    { dst := some 12, op := .load 6 true (.t 11), ix := 2 },
    { dst := some 4, op := .alloc false 4 [.p (.int .i64 0), .p (.int .i64 0), .p (.str []), .p (.str []), .p (.str []), .p (.list [])] [], ix := 3 },
    { dst := some 3, op := .move (.t 10), ix := 4 },
    { dst := none, op := .store 6 true (.t 4) (.t 12), ix := 5 }] false [0, 3, 4, 6, 7, 8] [4]) (.seq (.region [
    { dst := some 13, op := .move (.t 3), ix := 0 },
    { dst := some 5, op := .move (.t 13), ix := 1 }] false [0, 3, 4, 5, 6, 7, 8] [4]) (.seq (.block 2 (.seq (.keep [0, 3, 4, 5, 6, 7, 8] [4] (.loop B44x1)) (.keep [0, 3, 4, 5, 6, 7, 8] [4] .skip))) (.keep [0, 3, 4, 5, 6, 7, 8] [4] (.seq (.region [
    { dst := some 28, op := .move (.t 5), ix := 0 },
    { dst := some 29, op := .fieldAddr 1 (.t 4), ix := 1 },
    { dst := some 30, op := .load 1 false (.t 29), ix := 2 },
    { dst := some 31, op := .eq .i true (.t 28) (.t 30), ix := 3 },
    { dst := some 32, op := .move (.t 31), ix := 4 },
    { dst := some 33, op := .move (.t 5), guard := some (32, false), ix := 5 },
    { dst := some 34, op := .eq .i false (.t 33) (.c (.int .i64 0)), guard := some (32, false), ix := 6 },
    { dst := some 35, op := .move (.t 3), guard := some (32, false), ix := 7 },
    { dst := some 36, op := .eq .i false (.t 35) (.c (.int .i64 0)), guard := some (32, false), ix := 8 },
    { dst := some 37, op := .eq .b true (.t 34) (.t 36), guard := some (32, false), ix := 9 },
    { dst := some 38, op := .pick (.t 32) (.c (.bool true)) (.t 37), ix := 10 }] false [0, 6, 7, 8, 38] []) (.seq (.cond (.t 38) (.seq (.region [
    { dst := some 2, op := .move (.c (.bool false)), ix := 0 }] false [2] []) (.keep [2] [] .ret)) (.keep [0, 6, 7, 8] [] .skip)) (.keep [0, 6, 7, 8] [] .skip)))))))) (.keep [0, 6, 7, 8] [] (.seq (.region [
    { dst := some 39, op := .bin .add (.t 8) (.c (.int .i64 1)), ix := 0 },
    { dst := some 8, op := .move (.t 39), ix := 1 }] false [0, 6, 7, 8] []) (.keep [0, 6, 7, 8] [] .skip)))))))
def F44 : LFunc := { nparams := 1, results := [.tmp 2], pure := true, body :=
  (.seq (.region [
    { dst := some 2, op := .move (.c (.bool false)), ix := 0 }] false [0] []) (.seq (.region [
    { dst := some 6, op := .move (.t 0), ix := 0 },
    { dst := some 7, op := .len 1 (.t 6), ix := 1 },
    { dst := some 8, op := .move (.c (.int .i64 0)), ix := 2 }] false [0, 6, 7, 8] []) (.seq (.block 0 (.seq (.keep [0, 6, 7, 8] [] (.loop B44x0)) (.keep [] [] .skip))) (.keep [] [] (.seq (.region [
    { dst := some 2, op := .move (.c (.bool true)), ix := 0 }] false [2] []) (.keep [2] [] .ret)))))) }
theorem ok44 : fnSoundB Go.Proofs.Tryd.prog 44 F44 = true := by decide +kernel
def B45x0 : LCode :=
  (.seq (.region [
    { dst := some 13, op := .bin .lss (.t 12) (.t 11), ix := 0 }] false [0, 3, 10, 11, 12, 13] [9]) (.seq (.cond (.t 13) (.keep [0, 3, 10, 11, 12] [9] .skip) (.keep [0] [] (.exit 0))) (.keep [0, 3, 10, 11, 12] [9] (.seq (.block 1 (.seq (.region [
    { dst := some 14, op := .move (.t 12), ix := 0 },
    { dst := some 15, op := .indexAddr 6 (.t 10) (.t 12), ix := 1 },
    { dst := some 16, op := .load 6 true (.t 15), ix := 2 },
    { dst := some 5, op := .alloc false 5 [.p (.int .i64 0), .p (.int .i64 0), .p (.str []), .p (.str []), .p (.str []), .p (.list [])] [], ix := 3 },
    { dst := some 4, op := .move (.t 14), ix := 4 },
    { dst := none, op := .store 6 true (.t 5) (.t 16), ix := 5 }] false [0, 3, 4, 5, 10, 11, 12] [5, 9]) (.seq (.region [
    { dst := some 17, op := .move (.t 3), ix := 0 },
    { dst := some 18, op := .move (.t 4), ix := 1 },
    { dst := some 19, op := .bin .add (.t 18) (.c (.int .i64 1)), ix := 2 },
    { dst := some 20, op := .move (.t 3), ix := 3 },
    { dst := some 21, op := .fieldAddr 1 (.t 5), ix := 4 },
    { dst := some 22, op := .load 1 false (.t 21), ix := 5 },
    { dst := some 23, op := .indexAddr 1 (.t 20) (.t 22), ix := 6 },
    { dst := some 24, op := .load 1 false (.t 23), ix := 7 },
    { dst := some 25, op := .bin .add (.t 24) (.c (.int .i64 1)), ix := 8 },
    { dst := some 26, op := .indexAddr 1 (.t 17) (.t 19), ix := 9 },
    { dst := none, op := .store 1 false (.t 26) (.t 25), ix := 10 }] false [0, 3, 4, 10, 11, 12] [9]) (.seq (.region [
    { dst := some 27, op := .move (.t 3), ix := 0 },
    { dst := some 28, op := .move (.t 4), ix := 1 },
    { dst := some 29, op := .bin .add (.t 28) (.c (.int .i64 1)), ix := 2 },
    { dst := some 30, op := .indexAddr 1 (.t 27) (.t 29), ix := 3 },
    { dst := some 31, op := .load 1 false (.t 30), ix := 4 },
    { dst := some 32, op := .bin .gtr (.t 31) (.c (.int .i64 64)), ix := 5 }] false [0, 3, 10, 11, 12, 32] [9]) (.seq (.cond (.t 32) (.seq (.region [
    { dst := some 2, op := .move (.c (.bool true)), ix := 0 }] false [2] []) (.keep [2] [] .ret)) (.keep [0, 3, 10, 11, 12] [9] .skip)) (.keep [0, 3, 10, 11, 12] [9] .skip)))))) (.keep [0, 3, 10, 11, 12] [9] (.seq (.region [
    { dst := some 33, op := .bin .add (.t 12) (.c (.int .i64 1)), ix := 0 },
    { dst := some 12, op := .move (.t 33), ix := 1 }] false [0, 3, 10, 11, 12] [9]) (.keep [0, 3, 10, 11, 12] [9] .skip)))))))
def F45 : LFunc := { nparams := 1, results := [.tmp 2], pure := true, body :=
  (.seq (.region [
    { dst := some 2, op := .move (.c (.bool false)), ix := 0 }] false [0] []) (.seq (.region [
    { dst := some 6, op := .move (.t 0), ix := 0 },
    { dst := some 7, op := .len 1 (.t 6), ix := 1 },
    { dst := some 8, op := .bin .add (.t 7) (.c (.int .i64 1)), ix := 2 },
    { dst := some 9, op := .makeRow false 9 1 8 [.int .i64 0] (.t 8) (.t 8), ix := 3 },
    { dst := some 3, op := .move (.t 9), ix := 4 }] false [0, 3] [9]) (.seq (.region [
    { dst := some 10, op := .move (.t 0), ix := 0 },
    { dst := some 11, op := .len 1 (.t 10), ix := 1 },
    { dst := some 12, op := .move (.c (.int .i64 0)), ix := 2 }] false [0, 3, 10, 11, 12] [9]) (.seq (.block 0 (.seq (.keep [0, 3, 10, 11, 12] [9] (.loop B45x0)) (.keep [0] [] .skip))) (.keep [0] [] (.seq (.region [
    { dst := some 34, op := .move (.t 0), ix := 0 },
    { dst := some 35, op := .len 1 (.t 34), ix := 1 },
    { dst := some 36, op := .bin .gtr (.t 35) (.c (.int .i64 4096)), ix := 2 },
    { dst := some 2, op := .move (.t 36), ix := 3 }] false [2] []) (.keep [2] [] .ret))))))) }
theorem ok45 : fnSoundB Go.Proofs.Tryd.prog 45 F45 = true := by decide +kernel
def B46x0 : LCode :=
  (.seq (.region [
    { dst := some 13, op := .bin .lss (.t 12) (.t 11), ix := 0 }] false [0, 3, 10, 11, 12, 13] [9]) (.seq (.cond (.t 13) (.keep [0, 3, 10, 11, 12] [9] .skip) (.keep [0] [] (.exit 0))) (.keep [0, 3, 10, 11, 12] [9] (.seq (.block 1 (.seq (.region [
    { dst := some 14, op := .move (.t 12), ix := 0 },
    { dst := some 15, op := .indexAddr 6 (.t 10) (.t 12), ix := 1 },
    { dst := some 16, op := .load 6 true (.t 15), ix := 2 },
    { dst := some 5, op := .alloc false 5 [.p (.int .i64 0), .p (.int .i64 0), .p (.str []), .p (.str []), .p (.str []), .p (.list [])] [], ix := 3 },
    { dst := some 4, op := .move (.t 14), ix := 4 },
    { dst := none, op := .store 6 true (.t 5) (.t 16), ix := 5 }] false [0, 3, 4, 5, 10, 11, 12] [5, 9]) (.seq (.region [
    { dst := some 17, op := .move (.t 3), ix := 0 },
    { dst := some 18, op := .move (.t 4), ix := 1 },
    { dst := some 19, op := .bin .add (.t 18) (.c (.int .i64 1)), ix := 2 },
    { dst := some 20, op := .move (.t 3), ix := 3 },
    { dst := some 21, op := .fieldAddr 1 (.t 5), ix := 4 },
    { dst := some 22, op := .load 1 false (.t 21), ix := 5 },
    { dst := some 23, op := .indexAddr 1 (.t 20) (.t 22), ix := 6 },
    { dst := some 24, op := .load 1 false (.t 23), ix := 7 },
    { dst := some 25, op := .bin .add (.t 24) (.c (.int .i64 1)), ix := 8 },
    { dst := some 26, op := .indexAddr 1 (.t 17) (.t 19), ix := 9 },
    { dst := none, op := .store 1 false (.t 26) (.t 25), ix := 10 }] false [0, 3, 4, 10, 11, 12] [9]) (.seq (.region [
    { dst := some 27, op := .move (.t 3), ix := 0 },
    { dst := some 28, op := .move (.t 4), ix := 1 },
    { dst := some 29, op := .bin .add (.t 28) (.c (.int .i64 1)), ix := 2 },
    { dst := some 30, op := .indexAddr 1 (.t 27) (.t 29), ix := 3 },
    { dst := some 31, op := .load 1 false (.t 30), ix := 4 },
    { dst := some 32, op := .bin .gtr (.t 31) (.c (.int .i64 64)), ix := 5 },
    { dst := some 33, op := .move (.t 32), ix := 6 },
    { dst := some 34, op := .move (.t 4), guard := some (33, false), ix := 7 },
    { dst := some 35, op := .eq .i false (.t 34) (.c (.int .i64 4096)), guard := some (33, false), ix := 8 },
    { dst := some 36, op := .pick (.t 33) (.c (.bool true)) (.t 35), ix := 9 }] false [0, 3, 4, 10, 11, 12, 36] [9]) (.seq (.cond (.t 36) (.seq (.region [
    { dst := some 37, op := .move (.t 0), ix := 0 },
    { dst := some 38, op := .move (.t 4), ix := 1 },
    { dst := some 39, op := .bin .add (.t 38) (.c (.int .i64 1)), ix := 2 },
    { dst := some 40, op := .slice false 6 (.t 37) none (some (.t 39)), ix := 3 },
    { dst := some 2, op := .move (.t 40), ix := 4 }] false [2] []) (.keep [2] [] .ret)) (.keep [0, 3, 10, 11, 12] [9] .skip)) (.keep [0, 3, 10, 11, 12] [9] .skip)))))) (.keep [0, 3, 10, 11, 12] [9] (.seq (.region [
    { dst := some 41, op := .bin .add (.t 12) (.c (.int .i64 1)), ix := 0 },
    { dst := some 12, op := .move (.t 41), ix := 1 }] false [0, 3, 10, 11, 12] [9]) (.keep [0, 3, 10, 11, 12] [9] .skip)))))))
def F46 : LFunc := { nparams := 1, results := [.tmp 2], pure := true, body :=
  (.seq (.region [
    { dst := some 2, op := .move (.c (.list [])), ix := 0 }] false [0] []) (.seq (.region [
    { dst := some 6, op := .move (.t 0), ix := 0 },
    { dst := some 7, op := .len 1 (.t 6), ix := 1 },
    { dst := some 8, op := .bin .add (.t 7) (.c (.int .i64 1)), ix := 2 },
    { dst := some 9, op := .makeRow false 9 1 8 [.int .i64 0] (.t 8) (.t 8), ix := 3 },
    { dst := some 3, op := .move (.t 9), ix := 4 }] false [0, 3] [9]) (.seq (.region [
    { dst := some 10, op := .move (.t 0), ix := 0 },
    { dst := some 11, op := .len 1 (.t 10), ix := 1 },
    { dst := some 12, op := .move (.c (.int .i64 0)), ix := 2 }] false [0, 3, 10, 11, 12] [9]) (.seq (.block 0 (.seq (.keep [0, 3, 10, 11, 12] [9] (.loop B46x0)) (.keep [0] [] .skip))) (.keep [0] [] (.seq (.region [
    { dst := some 42, op := .move (.t 0), ix := 0 },
    { dst := some 2, op := .move (.t 42), ix := 1 }] false [2] []) (.keep [2] [] .ret))))))) }
theorem ok46 : fnSoundB Go.Proofs.Tryd.prog 46 F46 = true := by decide +kernel
def B47x0 : LCode :=
  (.seq (.region [
    { dst := some 26, op := .move (.t 8), ix := 0 },
    { dst := some 27, op := .move (.t 0), ix := 1 },
    { dst := some 28, op := .len 1 (.t 27), ix := 2 },
    { dst := some 29, op := .bin .lss (.t 26) (.t 28), ix := 3 },
    { dst := some 30, op := .move (.t 29), ix := 4 },
    { dst := some 31, op := .move (.t 0), guard := some (30, true), ix := 5 },
    { dst := some 32, op := .move (.t 8), guard := some (30, true), ix := 6 },
    { dst := some 33, op := .indexAddr 6 (.t 31) (.t 32), guard := some (30, true), ix := 7 },
    { dst := some 34, op := .fieldAddr 1 (.t 33), guard := some (30, true), ix := 8 },
    { dst := some 35, op := .load 1 false (.t 34), guard := some (30, true), ix := 9 },
    { dst := some 36, op := .move (.t 1), guard := some (30, true), ix := 10 },
    { dst := some 37, op := .bin .add (.t 36) (.c (.int .i64 1)), guard := some (30, true), ix := 11 },
    { dst := some 38, op := .eq .i false (.t 35) (.t 37), guard := some (30, true), ix := 12 },
    { dst := some 39, op := .pick (.t 30) (.t 38) (.c (.bool false)), ix := 13 }] false [0, 1, 4, 7, 8, 39] [4, 7, 1000, 1001]) (.seq (.cond (.t 39) (.keep [0, 1, 4, 7, 8] [4, 7, 1000, 1001] .skip) (.keep [4, 7, 8] [4, 7, 1000, 1001] (.exit 0))) (.keep [0, 1, 4, 7, 8] [4, 7, 1000, 1001] (.seq (.block 1 (.seq (.region [
    { dst := some 9, op := .alloc false 9 [.p (.str []), .p (.str []), .p (.str []), .p (.list []), .p (.list [])] [], ix := 0 }] false [0, 1, 4, 7, 8, 9] [4, 7, 9, 1000, 1001]) (.seq (.region [
    { dst := some 41, op := .move (.t 0), ix := 0 },
    { dst := some 42, op := .move (.t 8), ix := 1 },
    { dst := some 43, op := .pcall 47 [(.t 41, .as), (.t 42, .as)], ix := 2 },
    { dst := some 40, op := .move (.t 43), ix := 3 },
    { dst := some 44, op := .extract (.t 40) 0, ix := 4 },
    { dst := some 45, op := .extract (.t 40) 1, ix := 5 },
    { dst := none, op := .store 5 true (.t 9) (.t 44), ix := 6 },
    { dst := some 8, op := .move (.t 45), ix := 7 }] false [0, 1, 4, 7, 8, 9] [4, 7, 9, 1000, 1001]) (.seq (.region [
    { dst := some 46, op := .fieldAddr 4 (.t 7), ix := 0 },
    { dst := some 47, op := .load 1 false (.t 46), ix := 1 },
    { dst := some 48, op := .load 5 true (.t 9), ix := 2 },
    { dst := some 49, op := .row 5 [.t 48], ix := 3 },
    { dst := some 50, op := .append true 1002 5 96 (.t 47) (.t 49), ix := 4 },
    { dst := some 51, op := .fieldAddr 4 (.t 7), ix := 5 },
    { dst := none, op := .store 1 false (.t 51) (.t 50), ix := 6 }] false [0, 1, 4, 7, 8] [4, 7, 1000, 1001]) (.keep [0, 1, 4, 7, 8] [4, 7, 1000, 1001] .skip))))) (.keep [0, 1, 4, 7, 8] [4, 7, 1000, 1001] .skip)))))
def F47 : LFunc := { nparams := 2, results := [.cell 4 5 true, .tmp 5], pure := true, body :=
  (.seq (.region [
    { dst := some 4, op := .alloc false 4 [.p (.str []), .p (.str []), .p (.str []), .p (.list []), .p (.list [])] [], ix := 0 },
    { dst := some 5, op := .move (.c (.int .i64 0)), ix := 1 }] false [0, 1, 4] [4, 1000, 1001]) (.seq (.region [
    { dst := some 10, op := .move (.t 0), ix := 0 },
    { dst := some 11, op := .move (.t 1), ix := 1 },
    { dst := some 12, op := .indexAddr 6 (.t 10) (.t 11), ix := 2 },
    { dst := some 13, op := .load 6 true (.t 12), ix := 3 },
    { dst := some 6, op := .alloc false 6 [.p (.int .i64 0), .p (.int .i64 0), .p (.str []), .p (.str []), .p (.str []), .p (.list [])] [], ix := 4 },
    { dst := none, op := .store 6 true (.t 6) (.t 13), ix := 5 }] false [0, 1, 4, 6] [4, 6, 1000, 1001]) (.seq (.draw [
    { dst := some 14, op := .fieldAddr 2 (.t 6), ix := 0 },
    { dst := some 15, op := .load 1 false (.t 14), ix := 1 },
    { dst := some 16, op := .fieldAddr 3 (.t 6), ix := 2 },
    { dst := some 17, op := .load 1 false (.t 16), ix := 3 },
    { dst := some 18, op := .fieldAddr 4 (.t 6), ix := 4 },
    { dst := some 19, op := .load 1 false (.t 18), ix := 5 },
    { dst := some 20, op := .fieldAddr 5 (.t 6), ix := 6 },
    { dst := some 21, op := .load 1 false (.t 20), ix := 7 },
    { dst := some 22, op := .pcall 22 [(.t 21, .as)], ix := 8 },
    { dst := some 23, op := .build [.p (.str []), .p (.str []), .p (.str []), .p (.list []), .nils] [(0, 1, .t 15), (1, 1, .t 17), (2, 1, .t 19), (3, 1, .t 22)], ix := 9 },
    { dst := some 7, op := .alloc false 7 [.p (.str []), .p (.str []), .p (.str []), .p (.list []), .p (.list [])] [(4, 1000, 5)], ix := 10, again := [1, 3, 5, 7, 8] },
    { dst := none, op := .store 5 true (.t 7) (.t 23), ix := 11 }] [0, 1, 4, 7] [4, 7, 1000, 1001]) (.seq (.region [
    { dst := some 24, op := .move (.t 1), ix := 0 },
    { dst := some 25, op := .bin .add (.t 24) (.c (.int .i64 1)), ix := 1 },
    { dst := some 8, op := .move (.t 25), ix := 2 }] false [0, 1, 4, 7, 8] [4, 7, 1000, 1001]) (.seq (.block 0 (.seq (.keep [0, 1, 4, 7, 8] [4, 7, 1000, 1001] (.loop B47x0)) (.keep [4, 7, 8] [4, 7, 1000, 1001] .skip))) (.keep [4, 7, 8] [4, 7, 1000, 1001] (.seq (.region [
    { dst := some 52, op := .load 5 true (.t 7), ix := 0 },
    { dst := some 53, op := .move (.t 8), ix := 1 },
    { dst := none, op := .store 5 true (.t 4) (.t 52), ix := 2 },
    { dst := some 5, op := .move (.t 53), ix := 3 }] false [4, 5] [4, 1000, 1001]) (.keep [4, 5] [4, 1000, 1001] .ret)))))))) }
theorem ok47 : fnSoundB Go.Proofs.Tryd.prog 47 F47 = true := by decide +kernel
def F48 : LFunc := { nparams := 1, results := [.tmp 2, .tmp 3], pure := true, body :=
  (.seq (.region [
    { dst := some 1, op := .box false 1 (.t 0), ix := 0 },
    { dst := some 2, op := .move (.c (.int .i64 0)), ix := 1 },
    { dst := some 3, op := .move (.c (.int .i64 0)), ix := 2 }] false [1] [1]) (.seq (.region [
    { dst := some 5, op := .load 5 true (.t 1), ix := 0 },
    { dst := some 6, op := .pcall 64 [(.t 5, .as)], ix := 1 },
    { dst := some 4, op := .alloc false 4 [.p (.int .i64 0), .p (.int .i64 0), .p (.int .i64 0)] [], ix := 2 },
    { dst := none, op := .store 3 true (.t 4) (.t 6), ix := 3 }] false [4] [4]) (.seq (.region [
    { dst := some 7, op := .fieldAddr 2 (.t 4), ix := 0 },
    { dst := some 8, op := .load 1 false (.t 7), ix := 1 },
    { dst := some 9, op := .eq .i false (.t 8) (.c (.int .i64 0)), ix := 2 }] false [4, 9] [4]) (.seq (.cond (.t 9) (.seq (.region [
    { dst := some 2, op := .move (.c (.int .i64 0)), ix := 0 },
    { dst := some 3, op := .move (.c (.int .i64 0)), ix := 1 }] false [2, 3] []) (.keep [2, 3] [] .ret)) (.keep [4] [4] .skip)) (.keep [4] [4] (.seq (.region [
    { dst := some 10, op := .fieldAddr 0 (.t 4), ix := 0 },
    { dst := some 11, op := .load 1 false (.t 10), ix := 1 },
    { dst := some 12, op := .fieldAddr 2 (.t 4), ix := 2 },
    { dst := some 13, op := .load 1 false (.t 12), ix := 3 },
    { dst := some 2, op := .move (.t 11), ix := 4 },
    { dst := some 3, op := .move (.t 13), ix := 5 }] true [2, 3] []) (.keep [2, 3] [] .ret))))))) }
theorem ok48 : fnSoundB Go.Proofs.Tryd.prog 48 F48 = true := by decide +kernel
def F49 : LFunc := { nparams := 1, results := [.tmp 2], pure := true, body :=
  (.seq (.region [
    { dst := some 2, op := .move (.c (.bool false)), ix := 0 }] false [0] []) (.seq (.region [
    { dst := some 3, op := .move (.t 0), ix := 0 },
    { dst := some 4, op := .bin .geq (.t 3) (.c (.int .i64 0)), ix := 1 },
    { dst := some 5, op := .move (.t 4), ix := 2 },
    { dst := some 6, op := .move (.t 0), guard := some (5, true), ix := 3 },
    { dst := some 7, op := .bin .leq (.t 6) (.c (.int .i64 4294967295)), guard := some (5, true), ix := 4 },
    { dst := some 8, op := .pick (.t 5) (.t 7) (.c (.bool false)), ix := 5 },
    { dst := some 2, op := .move (.t 8), ix := 6 }] false [2] []) (.keep [2] [] .ret))) }
theorem ok49 : fnSoundB Go.Proofs.Tryd.prog 49 F49 = true := by decide +kernel
def F50 : LFunc := { nparams := 2, results := [.tmp 4], pure := true, body :=
  (.seq (.region [
    { dst := some 2, op := .box false 2 (.t 0), ix := 0 },
    { dst := some 3, op := .box false 3 (.t 1), ix := 1 },
    { dst := some 4, op := .move (.c (.bool false)), ix := 2 }] false [2, 3] [2, 3]) (.seq (.region [
    { dst := some 6, op := .fieldAddr 8 (.t 2), ix := 0 },
    { dst := some 7, op := .load 1 false (.t 6), ix := 1 },
    { dst := some 8, op := .fieldAddr 8 (.t 3), ix := 2 },
    { dst := some 9, op := .load 1 false (.t 8), ix := 3 },
    { dst := some 10, op := .pcall 65 [(.t 7, .as), (.t 9, .as)], ix := 4 },
    { dst := some 11, op := .un .not (.t 10), ix := 5 }] false [2, 3, 11] [2, 3]) (.seq (.cond (.t 11) (.seq (.region [
    { dst := some 4, op := .move (.c (.bool false)), ix := 0 }] false [4] []) (.keep [4] [] .ret)) (.keep [2, 3] [2, 3] .skip)) (.keep [2, 3] [2, 3] (.seq (.region [
    { dst := some 5, op := .move (.f 66), ix := 0 }] false [2, 3, 5] [2, 3]) (.seq (.draw [
    { dst := some 12, op := .move (.t 5), ix := 0 },
    { dst := some 13, op := .load 9 true (.t 2), ix := 1 },
    { dst := some 15, op := .move (.t 5), ix := 3 },
    { dst := some 16, op := .load 9 true (.t 3), ix := 4 },
    { dst := some 14, op := .callv (.t 12) [(.t 13, .as)], ix := 2, again := [4] },
    { dst := some 17, op := .callv (.t 15) [(.t 16, .as)], ix := 5 },
    { dst := some 18, op := .eq (.st [2, 2, 2, 2, 2, 2, 2, 2, 2]) false (.t 14) (.t 17), ix := 6 },
    { dst := some 4, op := .move (.t 18), ix := 7 }] [4] []) (.keep [4] [] .ret))))))) }
theorem ok50 : fnSoundB Go.Proofs.Tryd.prog 50 F50 = true := by decide +kernel
def F51 : LFunc := { nparams := 1, results := [.cell 2 9 true], pure := true, body :=
  (.seq (.region [
    { dst := some 1, op := .box false 1 (.t 0), ix := 0 },
    { dst := some 2, op := .alloc false 2 [.p (.int .i64 0), .p (.int .i64 0), .p (.int .i64 0), .p (.int .i64 0), .p (.str []), .p (.str []), .p (.str []), .p (.str []), .p (.list [])] [], ix := 1 }] false [1, 2] [1, 2]) (.seq (.region [
    { dst := some 4, op := .fieldAddr 0 (.t 1), ix := 0 },
    { dst := some 5, op := .load 1 false (.t 4), ix := 1 },
    { dst := some 6, op := .build [.p (.int .i64 0), .p (.int .i64 0), .p (.int .i64 0), .p (.int .i64 0), .p (.str []), .p (.str []), .p (.str []), .p (.str []), .p (.list [])] [(0, 1, .t 5)], ix := 2 },
    { dst := some 3, op := .alloc false 3 [.p (.int .i64 0), .p (.int .i64 0), .p (.int .i64 0), .p (.int .i64 0), .p (.str []), .p (.str []), .p (.str []), .p (.str []), .p (.list [])] [], ix := 3 },
    { dst := none, op := .store 9 true (.t 3) (.t 6), ix := 4 }] false [1, 2, 3] [1, 2, 3]) (.seq (.region [
    { dst := some 7, op := .fieldAddr 0 (.t 1), ix := 0 },
    { dst := some 8, op := .load 1 false (.t 7), ix := 1 }] false [1, 2, 3, 8] [1, 2, 3]) (.seq (.block 0 (.seq (.block 6 (.seq (.block 5 (.seq (.block 4 (.seq (.block 3 (.seq (.block 2 (.seq (.block 1 (.seq (.region [
    { dst := some 10, op := .eq .i false (.t 8) (.c (.int .i64 1)), ix := 0 },
    { dst := some 9, op := .move (.t 10), ix := 1 }] false [1, 2, 3, 8, 9] [1, 2, 3]) (.seq (.cond (.t 9) (.keep [1, 2, 3] [1, 2, 3] (.exit 1)) (.keep [1, 2, 3, 8] [1, 2, 3] .skip)) (.keep [1, 2, 3, 8] [1, 2, 3] (.seq (.region [
    { dst := some 12, op := .eq .i false (.t 8) (.c (.int .i64 2)), ix := 0 },
    { dst := some 11, op := .move (.t 12), ix := 1 }] false [1, 2, 3, 8, 11] [1, 2, 3]) (.seq (.cond (.t 11) (.keep [1, 2, 3] [1, 2, 3] (.exit 2)) (.keep [1, 2, 3, 8] [1, 2, 3] .skip)) (.keep [1, 2, 3, 8] [1, 2, 3] (.seq (.region [
    { dst := some 14, op := .eq .i false (.t 8) (.c (.int .i64 3)), ix := 0 },
    { dst := some 13, op := .move (.t 14), ix := 1 }] false [1, 2, 3, 8, 13] [1, 2, 3]) (.seq (.cond (.t 13) (.keep [1, 2, 3] [1, 2, 3] (.exit 3)) (.keep [1, 2, 3, 8] [1, 2, 3] .skip)) (.keep [1, 2, 3, 8] [1, 2, 3] (.seq (.region [
    { dst := some 16, op := .eq .i false (.t 8) (.c (.int .i64 5)), ix := 0 },
    { dst := some 15, op := .move (.t 16), ix := 1 }] false [1, 2, 3, 8, 15] [1, 2, 3]) (.seq (.cond (.t 15) (.keep [1, 2, 3] [1, 2, 3] (.exit 4)) (.keep [1, 2, 3, 8] [1, 2, 3] .skip)) (.keep [1, 2, 3, 8] [1, 2, 3] (.seq (.region [
    { dst := some 18, op := .eq .i false (.t 8) (.c (.int .i64 7)), ix := 0 },
    { dst := some 17, op := .move (.t 18), ix := 1 }] false [1, 2, 3, 8, 17] [1, 2, 3]) (.seq (.cond (.t 17) (.keep [1, 2, 3] [1, 2, 3] (.exit 5)) (.keep [1, 2, 3, 8] [1, 2, 3] .skip)) (.keep [1, 2, 3, 8] [1, 2, 3] (.seq (.region [
    { dst := some 20, op := .eq .i false (.t 8) (.c (.int .i64 6)), ix := 0 },
    { dst := some 19, op := .move (.t 20), ix := 1 }] false [1, 2, 3, 19] [1, 2, 3]) (.seq (.cond (.t 19) (.keep [1, 2, 3] [1, 2, 3] (.exit 6)) (.keep [1, 2, 3] [1, 2, 3] .skip)) (.keep [1, 2, 3] [1, 2, 3] (.exit 0)))))))))))))))))))) (.keep [1, 2, 3] [1, 2, 3] (.seq (.draw [
    { dst := some 21, op := .fieldAddr 4 (.t 1), ix := 0 },
    { dst := some 22, op := .load 1 false (.t 21), ix := 1 },
    { dst := some 23, op := .fieldAddr 5 (.t 1), ix := 2 },
    { dst := some 24, op := .load 1 false (.t 23), ix := 3 },
    { dst := some 25, op := .fieldAddr 7 (.t 1), ix := 4 },
    { dst := some 26, op := .load 1 false (.t 25), ix := 5 },
    { dst := some 27, op := .fieldAddr 8 (.t 1), ix := 6 },
    { dst := some 28, op := .load 1 false (.t 27), ix := 7 },
    { dst := some 29, op := .fieldAddr 4 (.t 3), ix := 8 },
    { dst := none, op := .store 1 false (.t 29) (.t 22), ix := 9, again := [3, 5, 7] },
    { dst := some 30, op := .fieldAddr 5 (.t 3), ix := 10 },
    { dst := none, op := .store 1 false (.t 30) (.t 24), ix := 11, again := [5, 7] },
    { dst := some 31, op := .fieldAddr 7 (.t 3), ix := 12 },
    { dst := none, op := .store 1 false (.t 31) (.t 26), ix := 13, again := [7] },
    { dst := some 32, op := .fieldAddr 8 (.t 3), ix := 14 },
    { dst := none, op := .store 1 false (.t 32) (.t 28), ix := 15 }] [2, 3] [2, 3]) (.seq (.region [
    { dst := some 33, op := .load 9 true (.t 3), ix := 0 },
    { dst := none, op := .store 9 true (.t 2) (.t 33), ix := 1 }] false [2] [2]) (.seq (.keep [2] [2] .ret) (.keep [1, 2, 3] [1, 2, 3] (.exit 0)))))))) (.keep [1, 2, 3] [1, 2, 3] (.seq (.region [
    { dst := some 34, op := .fieldAddr 2 (.t 1), ix := 0 },
    { dst := some 35, op := .load 1 false (.t 34), ix := 1 },
    { dst := some 36, op := .fieldAddr 2 (.t 3), ix := 2 },
    { dst := none, op := .store 1 false (.t 36) (.t 35), ix := 3 }] false [1, 2, 3] [1, 2, 3]) (.keep [1, 2, 3] [1, 2, 3] .skip))))) (.keep [1, 2, 3] [1, 2, 3] (.seq (.region [
    { dst := some 37, op := .fieldAddr 3 (.t 1), ix := 0 },
    { dst := some 38, op := .load 1 false (.t 37), ix := 1 },
    { dst := some 39, op := .fieldAddr 3 (.t 3), ix := 2 },
    { dst := none, op := .store 1 false (.t 39) (.t 38), ix := 3 }] false [1, 2, 3] [1, 2, 3]) (.keep [1, 2, 3] [1, 2, 3] (.exit 0)))))) (.keep [1, 2, 3] [1, 2, 3] (.seq (.region [
    { dst := some 40, op := .fieldAddr 6 (.t 1), ix := 0 },
    { dst := some 41, op := .load 1 false (.t 40), ix := 1 },
    { dst := some 42, op := .fieldAddr 6 (.t 3), ix := 2 },
    { dst := none, op := .store 1 false (.t 42) (.t 41), ix := 3 }] false [1, 2, 3] [1, 2, 3]) (.keep [1, 2, 3] [1, 2, 3] .skip))))) (.keep [1, 2, 3] [1, 2, 3] (.seq (.region [
    { dst := some 43, op := .fieldAddr 7 (.t 1), ix := 0 },
    { dst := some 44, op := .load 1 false (.t 43), ix := 1 },
    { dst := some 45, op := .fieldAddr 7 (.t 3), ix := 2 },
    { dst := none, op := .store 1 false (.t 45) (.t 44), ix := 3 }] false [1, 2, 3] [1, 2, 3]) (.keep [1, 2, 3] [1, 2, 3] (.exit 0)))))) (.keep [1, 2, 3] [1, 2, 3] (.seq (.region [
    { dst := some 46, op := .fieldAddr 6 (.t 1), ix := 0 },
    { dst := some 47, op := .load 1 false (.t 46), ix := 1 },
    { dst := some 48, op := .fieldAddr 6 (.t 3), ix := 2 },
    { dst := none, op := .store 1 false (.t 48) (.t 47), ix := 3 }] false [1, 2, 3] [1, 2, 3]) (.keep [1, 2, 3] [1, 2, 3] (.exit 0)))))) (.keep [1, 2, 3] [1, 2, 3] (.seq (.region [
    { dst := some 49, op := .fieldAddr 1 (.t 1), ix := 0 },
    { dst := some 50, op := .load 1 false (.t 49), ix := 1 },
    { dst := some 51, op := .fieldAddr 1 (.t 3), ix := 2 },
    { dst := none, op := .store 1 false (.t 51) (.t 50), ix := 3 }] false [2, 3] [2, 3]) (.seq (.region [
    { dst := some 52, op := .load 9 true (.t 3), ix := 0 },
    { dst := none, op := .store 9 true (.t 2) (.t 52), ix := 1 }] false [2] [2]) (.keep [2] [2] .ret)))))))) }
theorem ok51 : fnSoundB Go.Proofs.Tryd.prog 51 F51 = true := by decide +kernel
def F52 : LFunc := { nparams := 1, results := [.tmp 2], pure := true, body :=
  (.seq (.region [
    { dst := some 2, op := .move (.c (.bool false)), ix := 0 }] false [0] []) (.seq (.region [
    { dst := some 3, op := .move (.t 0), ix := 0 },
    { dst := some 4, op := .pcall 68 [(.t 3, .as), (.c (.str [45]), .as)], ix := 1 },
    { dst := some 2, op := .move (.t 4), ix := 2 }] false [2] []) (.keep [2] [] .ret))) }
theorem ok52 : fnSoundB Go.Proofs.Tryd.prog 52 F52 = true := by decide +kernel
def F53 : LFunc := { nparams := 1, results := [.tmp 2], pure := true, body :=
  (.seq (.region [
    { dst := some 2, op := .move (.c (.bool false)), ix := 0 }] false [0] []) (.seq (.region [
    { dst := some 3, op := .move (.t 0), ix := 0 },
    { dst := some 4, op := .pcall 68 [(.t 3, .as), (.c (.str [45, 58, 46]), .as)], ix := 1 },
    { dst := some 2, op := .move (.t 4), ix := 2 }] false [2] []) (.keep [2] [] .ret))) }
theorem ok53 : fnSoundB Go.Proofs.Tryd.prog 53 F53 = true := by decide +kernel
def F54 : LFunc := { nparams := 1, results := [.tmp 2], pure := true, body :=
  (.seq (.region [
    { dst := some 2, op := .move (.c (.bool false)), ix := 0 }] false [0] []) (.seq (.region [
    { dst := some 3, op := .move (.t 0), ix := 0 },
    { dst := some 4, op := .len 0 (.t 3), ix := 1 },
    { dst := some 5, op := .bin .leq (.t 4) (.c (.int .i64 65536)), ix := 2 },
    { dst := some 2, op := .move (.t 5), ix := 3 }] false [2] []) (.keep [2] [] .ret))) }
theorem ok54 : fnSoundB Go.Proofs.Tryd.prog 54 F54 = true := by decide +kernel
def B55x0 : LCode :=
  (.seq (.region [
    { dst := some 10, op := .bin .lss (.t 9) (.t 8), ix := 0 }] false [0, 7, 8, 9, 10] []) (.seq (.cond (.t 10) (.keep [0, 7, 8, 9] [] .skip) (.keep [] [] (.exit 0))) (.keep [0, 7, 8, 9] [] (.seq (.block 1 (.seq (.region [
    { dst := some 11, op := .move (.t 9), ix := 0 },
    { dst := some 12, op := .indexAddr 2 (.t 7) (.t 9), ix := 1 },
    { dst := some 13, op := .load 2 true (.t 12), ix := 2 },
    { dst := some 5, op := .alloc false 5 [.p (.str []), .p (.str [])] [], ix := 3 },
    { dst := some 4, op := .move (.t 11), ix := 4 },
    { dst := none, op := .store 2 true (.t 5) (.t 13), ix := 5 }] false [0, 4, 5, 7, 8, 9] [5]) (.seq (.region [
    { dst := some 6, op := .move (.c (.int .i64 0)), ix := 0 }] false [0, 4, 5, 6, 7, 8, 9] [5]) (.seq (.block 2 (.seq (.region [
    { dst := some 15, op := .move (.t 4), ix := 0 },
    { dst := some 16, op := .eq .i false (.t 15) (.c (.int .i64 64)), ix := 1 },
    { dst := some 14, op := .move (.t 16), ix := 2 }] false [0, 4, 5, 6, 7, 8, 9, 14] [5]) (.seq (.cond (.t 14) (.seq (.region [
    { dst := some 6, op := .move (.c (.int .i64 12)), ix := 0 }] false [0, 4, 6, 7, 8, 9] []) (.keep [0, 4, 6, 7, 8, 9] [] .skip)) (.seq (.region [
    { dst := some 18, op := .fieldAddr 0 (.t 5), ix := 0 },
    { dst := some 19, op := .load 1 false (.t 18), ix := 1 },
    { dst := some 20, op := .pcall 53 [(.t 19, .as)], ix := 2 },
    { dst := some 21, op := .un .not (.t 20), ix := 3 },
    { dst := some 17, op := .move (.t 21), ix := 4 }] false [0, 4, 5, 6, 7, 8, 9, 17] [5]) (.seq (.cond (.t 17) (.seq (.region [
    { dst := some 6, op := .move (.c (.int .i64 8)), ix := 0 }] false [0, 4, 6, 7, 8, 9] []) (.keep [0, 4, 6, 7, 8, 9] [] .skip)) (.seq (.region [
    { dst := some 23, op := .fieldAddr 1 (.t 5), ix := 0 },
    { dst := some 24, op := .load 1 false (.t 23), ix := 1 },
    { dst := some 25, op := .pcall 54 [(.t 24, .as)], ix := 2 },
    { dst := some 26, op := .un .not (.t 25), ix := 3 },
    { dst := some 22, op := .move (.t 26), ix := 4 }] false [0, 4, 5, 6, 7, 8, 9, 22] [5]) (.seq (.cond (.t 22) (.seq (.region [
    { dst := some 6, op := .move (.c (.int .i64 3)), ix := 0 }] false [0, 4, 6, 7, 8, 9] []) (.keep [0, 4, 6, 7, 8, 9] [] .skip)) (.seq (.region [
    { dst := some 28, op := .move (.t 4), ix := 0 },
    { dst := some 29, op := .bin .gtr (.t 28) (.c (.int .i64 0)), ix := 1 },
    { dst := some 30, op := .move (.t 29), ix := 2 },
    { dst := some 31, op := .move (.t 0), guard := some (30, true), ix := 3 },
    { dst := some 32, op := .move (.t 4), guard := some (30, true), ix := 4 },
    { dst := some 33, op := .bin .sub (.t 32) (.c (.int .i64 1)), guard := some (30, true), ix := 5 },
    { dst := some 34, op := .indexAddr 2 (.t 31) (.t 33), guard := some (30, true), ix := 6 },
    { dst := some 35, op := .fieldAddr 0 (.t 34), guard := some (30, true), ix := 7 },
    { dst := some 36, op := .load 1 false (.t 35), guard := some (30, true), ix := 8 },
    { dst := some 37, op := .fieldAddr 0 (.t 5), guard := some (30, true), ix := 9 },
    { dst := some 38, op := .load 1 false (.t 37), guard := some (30, true), ix := 10 },
    { dst := some 39, op := .eq .s false (.t 36) (.t 38), guard := some (30, true), ix := 11 },
    { dst := some 40, op := .pick (.t 30) (.t 39) (.c (.bool false)), ix := 12 },
    { dst := some 27, op := .move (.t 40), ix := 13 }] true [0, 4, 5, 6, 7, 8, 9, 27] [5]) (.seq (.cond (.t 27) (.seq (.region [
    { dst := some 6, op := .move (.c (.int .i64 10)), ix := 0 }] false [0, 4, 6, 7, 8, 9] []) (.keep [0, 4, 6, 7, 8, 9] [] .skip)) (.seq (.region [
    { dst := some 42, op := .move (.t 4), ix := 0 },
    { dst := some 43, op := .bin .gtr (.t 42) (.c (.int .i64 0)), ix := 1 },
    { dst := some 44, op := .move (.t 43), ix := 2 },
    { dst := some 45, op := .move (.t 0), guard := some (44, true), ix := 3 },
    { dst := some 46, op := .move (.t 4), guard := some (44, true), ix := 4 },
    { dst := some 47, op := .bin .sub (.t 46) (.c (.int .i64 1)), guard := some (44, true), ix := 5 },
    { dst := some 48, op := .indexAddr 2 (.t 45) (.t 47), guard := some (44, true), ix := 6 },
    { dst := some 49, op := .fieldAddr 0 (.t 48), guard := some (44, true), ix := 7 },
    { dst := some 50, op := .load 1 false (.t 49), guard := some (44, true), ix := 8 },
    { dst := some 51, op := .fieldAddr 0 (.t 5), guard := some (44, true), ix := 9 },
    { dst := some 52, op := .load 1 false (.t 51), guard := some (44, true), ix := 10 },
    { dst := some 53, op := .bin .gtr (.t 50) (.t 52), guard := some (44, true), ix := 11 },
    { dst := some 54, op := .pick (.t 44) (.t 53) (.c (.bool false)), ix := 12 },
    { dst := some 41, op := .move (.t 54), ix := 13 }] true [0, 4, 6, 7, 8, 9, 41] []) (.seq (.cond (.t 41) (.seq (.region [
    { dst := some 6, op := .move (.c (.int .i64 9)), ix := 0 }] false [0, 4, 6, 7, 8, 9] []) (.keep [0, 4, 6, 7, 8, 9] [] .skip)) (.keep [0, 4, 6, 7, 8, 9] [] .skip)) (.keep [0, 4, 6, 7, 8, 9] [] .skip)))) (.keep [0, 4, 6, 7, 8, 9] [] .skip)))) (.keep [0, 4, 6, 7, 8, 9] [] .skip)))) (.keep [0, 4, 6, 7, 8, 9] [] .skip)))) (.keep [0, 4, 6, 7, 8, 9] [] .skip)))) (.keep [0, 4, 6, 7, 8, 9] [] (.seq (.region [
    { dst := some 55, op := .move (.t 6), ix := 0 },
    { dst := some 56, op := .eq .i true (.t 55) (.c (.int .i64 0)), ix := 1 }] false [0, 4, 6, 7, 8, 9, 56] []) (.seq (.cond (.t 56) (.seq (.region [
    { dst := some 57, op := .move (.t 4), ix := 0 },
    { dst := some 58, op := .move (.t 6), ix := 1 },
    { dst := some 2, op := .move (.t 57), ix := 2 },
    { dst := some 3, op := .move (.t 58), ix := 3 }] false [2, 3] []) (.keep [2, 3] [] .ret)) (.keep [0, 7, 8, 9] [] .skip)) (.keep [0, 7, 8, 9] [] .skip)))))))) (.keep [0, 7, 8, 9] [] (.seq (.region [
    { dst := some 59, op := .bin .add (.t 9) (.c (.int .i64 1)), ix := 0 },
    { dst := some 9, op := .move (.t 59), ix := 1 }] false [0, 7, 8, 9] []) (.keep [0, 7, 8, 9] [] .skip)))))))
def F55 : LFunc := { nparams := 1, results := [.tmp 2, .tmp 3], pure := true, body :=
  (.seq (.region [
    { dst := some 2, op := .move (.c (.int .i64 0)), ix := 0 },
    { dst := some 3, op := .move (.c (.int .i64 0)), ix := 1 }] false [0] []) (.seq (.region [
    { dst := some 7, op := .move (.t 0), ix := 0 },
    { dst := some 8, op := .len 1 (.t 7), ix := 1 },
    { dst := some 9, op := .move (.c (.int .i64 0)), ix := 2 }] false [0, 7, 8, 9] []) (.seq (.block 0 (.seq (.keep [0, 7, 8, 9] [] (.loop B55x0)) (.keep [] [] .skip))) (.keep [] [] (.seq (.region [
    { dst := some 2, op := .move (.c (.int .i64 0)), ix := 0 },
    { dst := some 3, op := .move (.c (.int .i64 0)), ix := 1 }] false [2, 3] []) (.keep [2, 3] [] .ret)))))) }
theorem ok55 : fnSoundB Go.Proofs.Tryd.prog 55 F55 = true := by decide +kernel
def F56 : LFunc := { nparams := 2, results := [.tmp 4], pure := false, body :=
  (.seq (.region [
    { dst := some 4, op := .move (.c (.bool false)), ix := 0 }] false [0, 1] []) (.seq (.region [
    { dst := some 5, op := .move (.t 1), ix := 0 },
    { dst := some 6, op := .bin .geq (.t 5) (.c (.int .i64 0)), ix := 1 },
    { dst := some 7, op := .move (.t 6), ix := 2 },
    { dst := some 8, op := .move (.t 1), guard := some (7, true), ix := 3 },
    { dst := some 9, op := .move (.t 0), guard := some (7, true), ix := 4 },
    { dst := some 10, op := .nilCheck (.t 9), guard := some (7, true), ix := 5 },
    { dst := some 11, op := .fieldAddr 0 (.t 10), guard := some (7, true), ix := 6 },
    { dst := some 12, op := .load 1 false (.t 11), guard := some (7, true), ix := 7 },
    { dst := some 13, op := .len 1 (.t 12), guard := some (7, true), ix := 8 },
    { dst := some 14, op := .bin .lss (.t 8) (.t 13), guard := some (7, true), ix := 9 },
    { dst := some 15, op := .pick (.t 7) (.t 14) (.c (.bool false)), ix := 10 },
    { dst := some 16, op := .move (.t 15), ix := 11 },
    { dst := some 17, op := .move (.t 0), guard := some (16, true), ix := 12 },
    { dst := some 18, op := .nilCheck (.t 17), guard := some (16, true), ix := 13 },
    { dst := some 19, op := .fieldAddr 0 (.t 18), guard := some (16, true), ix := 14 },
    { dst := some 20, op := .load 1 false (.t 19), guard := some (16, true), ix := 15 },
    { dst := some 21, op := .move (.t 1), guard := some (16, true), ix := 16 },
    { dst := some 22, op := .indexAddr 7 (.t 20) (.t 21), guard := some (16, true), ix := 17 },
    { dst := some 23, op := .fieldAddr 0 (.t 22), guard := some (16, true), ix := 18 },
    { dst := some 24, op := .load 1 false (.t 23), guard := some (16, true), ix := 19 },
    { dst := some 25, op := .pick (.t 16) (.t 24) (.c (.bool false)), ix := 20 },
    { dst := some 4, op := .move (.t 25), ix := 21 }] false [4] []) (.keep [4] [] .ret))) }
theorem ok56 : fnSoundB Go.Proofs.Tryd.prog 56 F56 = true := by decide +kernel
def B57x0 : LCode :=
  (.seq (.region [
    { dst := some 7, op := .move (.t 1), ix := 0 },
    { dst := some 8, op := .bin .geq (.t 7) (.c (.int .i64 0)), ix := 1 }] false [0, 1, 2, 8] []) (.seq (.cond (.t 8) (.keep [0, 1, 2] [] .skip) (.keep [] [] (.exit 0))) (.keep [0, 1, 2] [] (.seq (.block 1 (.seq (.region [
    { dst := some 17, op := .move (.t 1), ix := 0 },
    { dst := some 18, op := .move (.t 2), ix := 1 },
    { dst := some 19, op := .eq .i false (.t 17) (.t 18), ix := 2 }] false [0, 1, 2, 19] []) (.seq (.cond (.t 19) (.seq (.region [
    { dst := some 6, op := .move (.c (.bool true)), ix := 0 }] false [6] []) (.keep [6] [] .ret)) (.keep [0, 1, 2] [] .skip)) (.keep [0, 1, 2] [] .skip)))) (.keep [0, 1, 2] [] (.seq (.region [
    { dst := some 9, op := .move (.t 0), ix := 0 },
    { dst := some 10, op := .nilCheck (.t 9), ix := 1 },
    { dst := some 11, op := .fieldAddr 0 (.t 10), ix := 2 },
    { dst := some 12, op := .load 1 false (.t 11), ix := 3 },
    { dst := some 13, op := .move (.t 1), ix := 4 },
    { dst := some 14, op := .indexAddr 7 (.t 12) (.t 13), ix := 5 },
    { dst := some 15, op := .fieldAddr 1 (.t 14), ix := 6 },
    { dst := some 16, op := .load 1 false (.t 15), ix := 7 },
    { dst := some 1, op := .move (.t 16), ix := 8 }] false [0, 1, 2] []) (.keep [0, 1, 2] [] .skip)))))))
def F57 : LFunc := { nparams := 3, results := [.tmp 6], pure := false, body :=
  (.seq (.region [
    { dst := some 6, op := .move (.c (.bool false)), ix := 0 }] false [0, 1, 2] []) (.seq (.block 0 (.seq (.keep [0, 1, 2] [] (.loop B57x0)) (.keep [] [] .skip))) (.keep [] [] (.seq (.region [
    { dst := some 6, op := .move (.c (.bool false)), ix := 0 }] false [6] []) (.keep [6] [] .ret))))) }
theorem ok57 : fnSoundB Go.Proofs.Tryd.prog 57 F57 = true := by decide +kernel
def F58 : LFunc := { nparams := 4, results := [], pure := false, body :=
  (.seq (.region [
    { dst := some 10, op := .move (.t 0), ix := 0 },
    { dst := some 11, op := .nilCheck (.t 10), ix := 1 },
    { dst := some 12, op := .fieldAddr 0 (.t 11), ix := 2 },
    { dst := some 13, op := .load 1 false (.t 12), ix := 3 },
    { dst := some 14, op := .move (.t 2), ix := 4 },
    { dst := some 15, op := .indexAddr 7 (.t 13) (.t 14), ix := 5 },
    { dst := some 16, op := .fieldAddr 2 (.t 15), ix := 6 },
    { dst := some 17, op := .load 1 false (.t 16), ix := 7 },
    { dst := some 8, op := .move (.t 17), ix := 8 }] false [0, 1, 2, 3, 8] []) (.seq (.region [
    { dst := some 18, op := .move (.t 8), ix := 0 },
    { dst := some 19, op := .len 1 (.t 18), ix := 1 },
    { dst := some 9, op := .move (.t 19), ix := 2 }] false [0, 1, 2, 3, 8, 9] []) (.seq (.region [
    { dst := some 20, op := .move (.t 3), ix := 0 },
    { dst := some 21, op := .eq .i true (.t 20) (.c (.int .i64 0)), ix := 1 }] false [0, 1, 2, 3, 8, 9, 21] []) (.seq (.cond (.t 21) (.seq (.region [
    { dst := some 22, op := .move (.t 8), ix := 0 },
    { dst := some 23, op := .move (.t 3), ix := 1 },
    { dst := some 24, op := .pcall 69 [(.t 22, .look), (.t 23, .as)], ix := 2 },
    { dst := some 9, op := .move (.t 24), ix := 3 }] false [0, 1, 2, 8, 9] []) (.keep [0, 1, 2, 8, 9] [] .skip)) (.keep [0, 1, 2, 8, 9] [] .skip)) (.keep [0, 1, 2, 8, 9] [] (.seq (.draw [
    { dst := some 25, op := .move (.t 0), ix := 0 },
    { dst := some 26, op := .nilCheck (.t 25), ix := 1 },
    { dst := some 27, op := .fieldAddr 0 (.t 26), ix := 2 },
    { dst := some 28, op := .load 1 false (.t 27), ix := 3 },
    { dst := some 29, op := .move (.t 2), ix := 4 },
    { dst := some 30, op := .move (.t 8), ix := 5 },
    { dst := some 32, op := .move (.t 9), ix := 7 },
    { dst := some 33, op := .move (.t 1), ix := 8 },
    { dst := some 34, op := .row 1 [.t 33], ix := 9 },
    { dst := some 31, op := .call 60 [(.t 30, .as)], ix := 6, again := [3] },
    { dst := some 35, op := .call 70 [(.t 31, .as), (.t 32, .as), (.t 34, .freeze)], ix := 10, again := [3] },
    { dst := some 36, op := .indexAddr 7 (.t 28) (.t 29), ix := 11 },
    { dst := some 37, op := .fieldAddr 2 (.t 36), ix := 12 },
    { dst := none, op := .store 1 false (.t 37) (.t 35), ix := 13 }] [0, 1, 2] []) (.seq (.region [
    { dst := some 38, op := .move (.t 0), ix := 0 },
    { dst := some 39, op := .nilCheck (.t 38), ix := 1 },
    { dst := some 40, op := .fieldAddr 0 (.t 39), ix := 2 },
    { dst := some 41, op := .load 1 false (.t 40), ix := 3 },
    { dst := some 42, op := .move (.t 1), ix := 4 },
    { dst := some 43, op := .move (.t 2), ix := 5 },
    { dst := some 44, op := .indexAddr 7 (.t 41) (.t 42), ix := 6 },
    { dst := some 45, op := .fieldAddr 1 (.t 44), ix := 7 },
    { dst := none, op := .store 1 false (.t 45) (.t 43), ix := 8 }] false [] []) (.keep [] [] .skip)))))))) }
theorem ok58 : fnSoundB Go.Proofs.Tryd.prog 58 F58 = true := by decide +kernel
def F61 : LFunc := { nparams := 2, results := [.tmp 3], pure := false, body :=
  (.seq (.region [
    { dst := some 3, op := .move (.c (.bool false)), ix := 0 }] false [0, 1] []) (.seq (.region [
    { dst := some 4, op := .move (.t 0), ix := 0 },
    { dst := some 5, op := .load 1 false (.t 1), ix := 1 },
    { dst := some 6, op := .eq .i false (.t 4) (.t 5), ix := 2 },
    { dst := some 3, op := .move (.t 6), ix := 3 }] false [3] []) (.keep [3] [] .ret))) }
theorem ok61 : fnSoundB Go.Proofs.Tryd.prog 61 F61 = true := by decide +kernel
def F62 : LFunc := { nparams := 3, results := [.tmp 6], pure := true, body :=
  (.seq (.region [
    { dst := some 6, op := .move (.c (.list [])), ix := 0 }] false [0, 1, 2] []) (.seq (.region [
    { dst := some 11, op := .move (.t 0), ix := 0 },
    { dst := some 12, op := .move (.t 1), ix := 1 },
    { dst := some 13, op := .pcall 72 [(.t 11, .as), (.t 12, .as)], ix := 2 },
    { dst := some 10, op := .move (.t 13), ix := 3 },
    { dst := some 14, op := .extract (.t 10) 0, ix := 4 },
    { dst := some 15, op := .extract (.t 10) 1, ix := 5 },
    { dst := some 7, op := .move (.t 14), ix := 6 },
    { dst := some 8, op := .move (.t 15), ix := 7 }] false [0, 1, 2, 7, 8] []) (.seq (.region [
    { dst := some 16, op := .move (.t 0), ix := 0 },
    { dst := some 17, op := .call 22 [(.t 16, .as)], ix := 1 },
    { dst := some 9, op := .move (.t 17), ix := 2 }] false [1, 2, 7, 8, 9] []) (.seq (.region [
    { dst := some 18, op := .move (.t 8), ix := 0 }] false [1, 2, 7, 9, 18] []) (.seq (.cond (.t 18) (.seq (.region [
    { dst := some 19, op := .move (.t 9), ix := 0 },
    { dst := some 20, op := .move (.t 7), ix := 1 },
    { dst := some 21, op := .move (.t 2), ix := 2 },
    { dst := some 22, op := .indexAddr 2 (.t 19) (.t 20), ix := 3 },
    { dst := some 23, op := .fieldAddr 1 (.t 22), ix := 4 },
    { dst := none, op := .store 1 false (.t 23) (.t 21), ix := 5 }] false [9] []) (.seq (.region [
    { dst := some 24, op := .move (.t 9), ix := 0 },
    { dst := some 6, op := .move (.t 24), ix := 1 }] false [6] []) (.keep [6] [] .ret))) (.keep [1, 2, 7, 9] [] .skip)) (.keep [1, 2, 7, 9] [] (.seq (.region [
    { dst := some 25, op := .move (.t 9), ix := 0 },
    { dst := some 26, op := .move (.t 7), ix := 1 },
    { dst := some 27, op := .move (.t 1), ix := 2 },
    { dst := some 28, op := .move (.t 2), ix := 3 },
    { dst := some 29, op := .build [.p (.str []), .p (.str [])] [(0, 1, .t 27), (1, 1, .t 28)], ix := 4 },
    { dst := some 30, op := .row 2 [.t 29], ix := 5 },
    { dst := some 31, op := .call 73 [(.t 25, .as), (.t 26, .as), (.t 30, .freeze)], ix := 6 },
    { dst := some 6, op := .move (.t 31), ix := 7 }] false [6] []) (.keep [6] [] .ret)))))))) }
theorem ok62 : fnSoundB Go.Proofs.Tryd.prog 62 F62 = true := by decide +kernel
def F63 : LFunc := { nparams := 2, results := [.tmp 4, .tmp 5], pure := true, body :=
  (.seq (.region [
    { dst := some 3, op := .box true 3 (.t 1), ix := 0 },
    { dst := some 4, op := .move (.c (.list [])), ix := 1 },
    { dst := some 5, op := .move (.c (.bool false)), ix := 2 }] false [0, 3] []) (.seq (.region [
    { dst := some 7, op := .move (.t 0), ix := 0 },
    { dst := some 8, op := .call 22 [(.t 7, .as)], ix := 1 },
    { dst := some 9, op := .makeFunc 75 [.t 3], ix := 2 },
    { dst := some 10, op := .call 74 [(.t 8, .as), (.t 9, .as)], ix := 3 },
    { dst := some 6, op := .move (.t 10), ix := 4 }] false [0, 6] []) (.seq (.region [
    { dst := some 11, op := .move (.t 6), ix := 0 },
    { dst := some 12, op := .move (.t 6), ix := 1 },
    { dst := some 13, op := .len 1 (.t 12), ix := 2 },
    { dst := some 14, op := .move (.t 0), ix := 3 },
    { dst := some 15, op := .len 1 (.t 14), ix := 4 },
    { dst := some 16, op := .bin .lss (.t 13) (.t 15), ix := 5 },
    { dst := some 4, op := .move (.t 11), ix := 6 },
    { dst := some 5, op := .move (.t 16), ix := 7 }] false [4, 5] []) (.keep [4, 5] [] .ret)))) }
theorem ok63 : fnSoundB Go.Proofs.Tryd.prog 63 F63 = true := by decide +kernel
def F64 : LFunc := { nparams := 1, results := [.cell 2 3 true], pure := true, body :=
  (.seq (.region [
    { dst := some 1, op := .box false 1 (.t 0), ix := 0 },
    { dst := some 2, op := .alloc false 2 [.p (.int .i64 0), .p (.int .i64 0), .p (.int .i64 0)] [], ix := 1 }] false [1, 2] [1, 2]) (.seq (.region [
    { dst := some 3, op := .alloc true 3 [.p (.int .i64 0), .p (.int .i64 0), .p (.int .i64 0)] [], ix := 0 }] false [1, 2, 3] [1, 2]) (.seq (.region [
    { dst := some 4, op := .alloc true 4 [.p (.nilf)] [], ix := 0 }] false [1, 2, 3, 4] [1, 2]) (.seq (.region [
    { dst := some 5, op := .makeFunc 76 [.t 3, .t 4], ix := 0 },
    { dst := none, op := .store 1 false (.t 4) (.t 5), ix := 1 }] false [1, 2, 3, 4] [1, 2]) (.seq (.region [
    { dst := some 6, op := .load 1 false (.t 4), ix := 0 },
    { dst := some 7, op := .load 5 true (.t 1), ix := 1 },
    { dst := some 8, op := .makeMap true 8, ix := 2 },
    { dst := some 9, op := .callv (.t 6) [(.t 7, .as), (.c (.int .i64 1), .as), (.t 8, .as)], ix := 3 }] false [2, 3] [2]) (.seq (.region [
    { dst := some 10, op := .load 3 true (.t 3), ix := 0 },
    { dst := none, op := .store 3 true (.t 2) (.t 10), ix := 1 }] false [2] [2]) (.keep [2] [2] .ret))))))) }
theorem ok64 : fnSoundB Go.Proofs.Tryd.prog 64 F64 = true := by decide +kernel
def B65x0 : LCode :=
  (.seq (.region [
    { dst := some 14, op := .bin .lss (.t 13) (.t 12), ix := 0 }] false [0, 1, 12, 13, 14] []) (.seq (.cond (.t 14) (.keep [0, 1, 12, 13] [] .skip) (.keep [] [] (.exit 0))) (.keep [0, 1, 12, 13] [] (.seq (.block 1 (.seq (.region [
    { dst := some 15, op := .move (.t 13), ix := 0 },
    { dst := some 5, op := .move (.t 15), ix := 1 }] false [0, 1, 5, 12, 13] []) (.seq (.region [
    { dst := some 16, op := .move (.t 0), ix := 0 },
    { dst := some 17, op := .move (.t 5), ix := 1 },
    { dst := some 18, op := .indexAddr 2 (.t 16) (.t 17), ix := 2 },
    { dst := some 19, op := .load 2 true (.t 18), ix := 3 },
    { dst := some 20, op := .move (.t 1), ix := 4 },
    { dst := some 21, op := .move (.t 5), ix := 5 },
    { dst := some 22, op := .indexAddr 2 (.t 20) (.t 21), ix := 6 },
    { dst := some 23, op := .load 2 true (.t 22), ix := 7 },
    { dst := some 24, op := .eq (.st [2, 2]) true (.t 19) (.t 23), ix := 8 }] true [0, 1, 12, 13, 24] []) (.seq (.cond (.t 24) (.seq (.region [
    { dst := some 4, op := .move (.c (.bool false)), ix := 0 }] false [4] []) (.keep [4] [] .ret)) (.keep [0, 1, 12, 13] [] .skip)) (.keep [0, 1, 12, 13] [] .skip))))) (.keep [0, 1, 12, 13] [] (.seq (.region [
    { dst := some 25, op := .bin .add (.t 13) (.c (.int .i64 1)), ix := 0 },
    { dst := some 13, op := .move (.t 25), ix := 1 }] false [0, 1, 12, 13] []) (.keep [0, 1, 12, 13] [] .skip)))))))
def F65 : LFunc := { nparams := 2, results := [.tmp 4], pure := true, body :=
  (.seq (.region [
    { dst := some 4, op := .move (.c (.bool false)), ix := 0 }] false [0, 1] []) (.seq (.region [
    { dst := some 6, op := .move (.t 0), ix := 0 },
    { dst := some 7, op := .len 1 (.t 6), ix := 1 },
    { dst := some 8, op := .move (.t 1), ix := 2 },
    { dst := some 9, op := .len 1 (.t 8), ix := 3 },
    { dst := some 10, op := .eq .i true (.t 7) (.t 9), ix := 4 }] false [0, 1, 10] []) (.seq (.cond (.t 10) (.seq (.region [
    { dst := some 4, op := .move (.c (.bool false)), ix := 0 }] false [4] []) (.keep [4] [] .ret)) (.keep [0, 1] [] .skip)) (.keep [0, 1] [] (.seq (.region [
    { dst := some 11, op := .move (.t 0), ix := 0 },
    { dst := some 12, op := .len 1 (.t 11), ix := 1 },
    { dst := some 13, op := .move (.c (.int .i64 0)), ix := 2 }] false [0, 1, 12, 13] []) (.seq (.block 0 (.seq (.keep [0, 1, 12, 13] [] (.loop B65x0)) (.keep [] [] .skip))) (.keep [] [] (.seq (.region [
    { dst := some 4, op := .move (.c (.bool true)), ix := 0 }] false [4] []) (.keep [4] [] .ret))))))))) }
theorem ok65 : fnSoundB Go.Proofs.Tryd.prog 65 F65 = true := by decide +kernel
def F66 : LFunc := { nparams := 1, results := [.cell 2 9 true], pure := true, body :=
  (.seq (.region [
    { dst := some 1, op := .box false 1 (.t 0), ix := 0 },
    { dst := some 2, op := .alloc false 2 [.p (.str []), .p (.str []), .p (.str []), .p (.str []), .p (.str []), .p (.str []), .p (.str []), .p (.str []), .p (.str [])] [], ix := 1 }] false [1, 2] [1, 2]) (.seq (.draw [
    { dst := some 3, op := .fieldAddr 0 (.t 1), ix := 0 },
    { dst := some 4, op := .load 1 false (.t 3), ix := 1 },
    { dst := some 5, op := .pcall 67 [(.t 4, .as)], ix := 2 },
    { dst := some 6, op := .fieldAddr 1 (.t 1), ix := 3 },
    { dst := some 7, op := .load 1 false (.t 6), ix := 4 },
    { dst := some 8, op := .pcall 67 [(.t 7, .as)], ix := 5 },
    { dst := some 9, op := .fieldAddr 2 (.t 1), ix := 6 },
    { dst := some 10, op := .load 1 false (.t 9), ix := 7 },
    { dst := some 11, op := .pcall 67 [(.t 10, .as)], ix := 8 },
    { dst := some 12, op := .fieldAddr 3 (.t 1), ix := 9 },
    { dst := some 13, op := .load 1 false (.t 12), ix := 10 },
    { dst := some 14, op := .pcall 67 [(.t 13, .as)], ix := 11 },
    { dst := some 15, op := .fieldAddr 4 (.t 1), ix := 12 },
    { dst := some 16, op := .load 1 false (.t 15), ix := 13 },
    { dst := some 17, op := .fieldAddr 5 (.t 1), ix := 14 },
    { dst := some 18, op := .load 1 false (.t 17), ix := 15 },
    { dst := some 19, op := .fieldAddr 6 (.t 1), ix := 16 },
    { dst := some 20, op := .load 1 false (.t 19), ix := 17 },
    { dst := some 21, op := .fieldAddr 7 (.t 1), ix := 18 },
    { dst := some 22, op := .load 1 false (.t 21), ix := 19 },
    { dst := some 23, op := .build [.p (.str []), .p (.str []), .p (.str []), .p (.str []), .p (.str []), .p (.str []), .p (.str []), .p (.str []), .p (.str [])] [(0, 1, .t 5), (1, 1, .t 8), (2, 1, .t 11), (3, 1, .t 14), (4, 1, .t 16), (5, 1, .t 18), (6, 1, .t 20), (7, 1, .t 22)], ix := 20 },
    { dst := none, op := .store 9 true (.t 2) (.t 23), ix := 21 }] [2] [2]) (.keep [2] [2] .ret))) }
theorem ok66 : fnSoundB Go.Proofs.Tryd.prog 66 F66 = true := by decide +kernel
def B68x0 : LCode :=
  (.seq (.region [
    { dst := some 23, op := .bin .lss (.t 22) (.t 21), ix := 0 }] false [0, 1, 21, 22, 23] []) (.seq (.cond (.t 23) (.keep [0, 1, 21, 22] [] .skip) (.keep [] [] (.exit 0))) (.keep [0, 1, 21, 22] [] (.seq (.block 1 (.seq (.region [
    { dst := some 24, op := .move (.t 22), ix := 0 },
    { dst := some 5, op := .move (.t 24), ix := 1 }] false [0, 1, 5, 21, 22] []) (.seq (.region [
    { dst := some 25, op := .move (.t 0), ix := 0 },
    { dst := some 26, op := .move (.t 5), ix := 1 },
    { dst := some 27, op := .index (.t 25) (.t 26), ix := 2 },
    { dst := some 6, op := .move (.t 27), ix := 3 }] false [0, 1, 6, 21, 22] []) (.seq (.region [
    { dst := some 28, op := .move (.t 6), ix := 0 },
    { dst := some 29, op := .pcall 79 [(.t 28, .as)], ix := 1 },
    { dst := some 30, op := .un .not (.t 29), ix := 2 },
    { dst := some 31, op := .move (.t 30), ix := 3 },
    { dst := some 32, op := .move (.t 6), guard := some (31, true), ix := 4 },
    { dst := some 33, op := .bin .lss (.t 32) (.c (.int .u8 48)), guard := some (31, true), ix := 5 },
    { dst := some 34, op := .move (.t 33), guard := some (31, true), ix := 6 },
    { dst := some 35, op := .move (.t 6), guard := some (34, false), ix := 7 },
    { dst := some 36, op := .bin .gtr (.t 35) (.c (.int .u8 57)), guard := some (34, false), ix := 8 },
    { dst := some 37, op := .pick (.t 34) (.c (.bool true)) (.t 36), guard := some (31, true), ix := 9 },
    { dst := some 38, op := .pick (.t 31) (.t 37) (.c (.bool false)), ix := 10 },
    { dst := some 39, op := .move (.t 38), ix := 11 },
    { dst := some 40, op := .move (.t 1), guard := some (39, true), ix := 12 },
    { dst := some 41, op := .move (.t 6), guard := some (39, true), ix := 13 },
    { dst := some 42, op := .pcall 80 [(.t 40, .as), (.t 41, .as)], guard := some (39, true), ix := 14 },
    { dst := some 43, op := .bin .lss (.t 42) (.c (.int .i64 0)), guard := some (39, true), ix := 15 },
    { dst := some 44, op := .pick (.t 39) (.t 43) (.c (.bool false)), ix := 16 }] false [0, 1, 21, 22, 44] []) (.seq (.cond (.t 44) (.seq (.region [
    { dst := some 4, op := .move (.c (.bool false)), ix := 0 }] false [4] []) (.keep [4] [] .ret)) (.keep [0, 1, 21, 22] [] .skip)) (.keep [0, 1, 21, 22] [] .skip)))))) (.keep [0, 1, 21, 22] [] (.seq (.region [
    { dst := some 45, op := .bin .add (.t 22) (.c (.int .i64 1)), ix := 0 },
    { dst := some 22, op := .move (.t 45), ix := 1 }] false [0, 1, 21, 22] []) (.keep [0, 1, 21, 22] [] .skip)))))))
def F68 : LFunc := { nparams := 2, results := [.tmp 4], pure := true, body :=
  (.seq (.region [
    { dst := some 4, op := .move (.c (.bool false)), ix := 0 }] false [0, 1] []) (.seq (.region [
    { dst := some 7, op := .move (.t 0), ix := 0 },
    { dst := some 8, op := .eq .s false (.t 7) (.c (.str [])), ix := 1 },
    { dst := some 9, op := .move (.t 8), ix := 2 },
    { dst := some 10, op := .move (.t 0), guard := some (9, false), ix := 3 },
    { dst := some 11, op := .len 0 (.t 10), guard := some (9, false), ix := 4 },
    { dst := some 12, op := .bin .gtr (.t 11) (.c (.int .i64 32)), guard := some (9, false), ix := 5 },
    { dst := some 13, op := .pick (.t 9) (.c (.bool true)) (.t 12), ix := 6 },
    { dst := some 14, op := .move (.t 13), ix := 7 },
    { dst := some 15, op := .move (.t 0), guard := some (14, false), ix := 8 },
    { dst := some 16, op := .index (.t 15) (.c (.int .i64 0)), guard := some (14, false), ix := 9 },
    { dst := some 17, op := .pcall 79 [(.t 16, .as)], guard := some (14, false), ix := 10 },
    { dst := some 18, op := .un .not (.t 17), guard := some (14, false), ix := 11 },
    { dst := some 19, op := .pick (.t 14) (.c (.bool true)) (.t 18), ix := 12 }] false [0, 1, 19] []) (.seq (.cond (.t 19) (.seq (.region [
    { dst := some 4, op := .move (.c (.bool false)), ix := 0 }] false [4] []) (.keep [4] [] .ret)) (.keep [0, 1] [] .skip)) (.keep [0, 1] [] (.seq (.region [
    { dst := some 20, op := .move (.t 0), ix := 0 },
    { dst := some 21, op := .len 0 (.t 20), ix := 1 },
    { dst := some 22, op := .move (.c (.int .i64 0)), ix := 2 }] false [0, 1, 21, 22] []) (.seq (.block 0 (.seq (.keep [0, 1, 21, 22] [] (.loop B68x0)) (.keep [] [] .skip))) (.keep [] [] (.seq (.region [
    { dst := some 4, op := .move (.c (.bool true)), ix := 0 }] false [4] []) (.keep [4] [] .ret))))))))) }
theorem ok68 : fnSoundB Go.Proofs.Tryd.prog 68 F68 = true := by decide +kernel
def B69x0 : LCode :=
  (.seq (.region [
    { dst := some 9, op := .bin .lss (.t 8) (.t 7), ix := 0 }] false [0, 1, 7, 8, 9] []) (.seq (.cond (.t 9) (.keep [0, 1, 7, 8] [] .skip) (.keep [] [] (.exit 0))) (.keep [0, 1, 7, 8] [] (.seq (.block 1 (.seq (.region [
    { dst := some 10, op := .move (.t 8), ix := 0 },
    { dst := some 5, op := .move (.t 10), ix := 1 }] false [0, 1, 5, 7, 8] []) (.seq (.region [
    { dst := some 11, op := .move (.t 1), ix := 0 },
    { dst := some 12, op := .move (.t 0), ix := 1 },
    { dst := some 13, op := .move (.t 5), ix := 2 },
    { dst := some 14, op := .indexAddr 1 (.t 12) (.t 13), ix := 3 },
    { dst := some 15, op := .load 1 false (.t 14), ix := 4 },
    { dst := some 16, op := .eq .i false (.t 11) (.t 15), ix := 5 }] false [0, 1, 5, 7, 8, 16] []) (.seq (.cond (.t 16) (.seq (.region [
    { dst := some 17, op := .move (.t 5), ix := 0 },
    { dst := some 4, op := .move (.t 17), ix := 1 }] false [4] []) (.keep [4] [] .ret)) (.keep [0, 1, 7, 8] [] .skip)) (.keep [0, 1, 7, 8] [] .skip))))) (.keep [0, 1, 7, 8] [] (.seq (.region [
    { dst := some 18, op := .bin .add (.t 8) (.c (.int .i64 1)), ix := 0 },
    { dst := some 8, op := .move (.t 18), ix := 1 }] false [0, 1, 7, 8] []) (.keep [0, 1, 7, 8] [] .skip)))))))
def F69 : LFunc := { nparams := 2, results := [.tmp 4], pure := true, body :=
  (.seq (.region [
    { dst := some 4, op := .move (.c (.int .i64 0)), ix := 0 }] false [0, 1] []) (.seq (.region [
    { dst := some 6, op := .move (.t 0), ix := 0 },
    { dst := some 7, op := .len 1 (.t 6), ix := 1 },
    { dst := some 8, op := .move (.c (.int .i64 0)), ix := 2 }] false [0, 1, 7, 8] []) (.seq (.block 0 (.seq (.keep [0, 1, 7, 8] [] (.loop B69x0)) (.keep [] [] .skip))) (.keep [] [] (.seq (.region [
    { dst := some 4, op := .move (.c (.int .i64 (-1))), ix := 0 }] false [4] []) (.keep [4] [] .ret)))))) }
theorem ok69 : fnSoundB Go.Proofs.Tryd.prog 69 F69 = true := by decide +kernel
def B72x0 : LCode :=
  (.seq (.region [
    { dst := some 14, op := .bin .lss (.t 13) (.t 12), ix := 0 }] false [0, 1, 6, 11, 12, 13, 14] []) (.seq (.cond (.t 14) (.keep [0, 1, 6, 11, 12, 13] [] .skip) (.keep [6] [] (.exit 0))) (.keep [0, 1, 6, 11, 12, 13] [] (.seq (.block 1 (.seq (.region [
    { dst := some 15, op := .move (.t 13), ix := 0 },
    { dst := some 16, op := .indexAddr 2 (.t 11) (.t 13), ix := 1 },
    { dst := some 17, op := .load 2 true (.t 16), ix := 2 },
    { dst := some 8, op := .alloc false 8 [.p (.str []), .p (.str [])] [], ix := 3 },
    { dst := some 7, op := .move (.t 15), ix := 4 },
    { dst := none, op := .store 2 true (.t 8) (.t 17), ix := 5 }] false [0, 1, 6, 7, 8, 11, 12, 13] [8]) (.seq (.block 2 (.seq (.block 5 (.seq (.block 4 (.seq (.block 3 (.seq (.region [
    { dst := some 19, op := .fieldAddr 0 (.t 8), ix := 0 },
    { dst := some 20, op := .load 1 false (.t 19), ix := 1 },
    { dst := some 21, op := .move (.t 1), ix := 2 },
    { dst := some 22, op := .eq .s false (.t 20) (.t 21), ix := 3 },
    { dst := some 18, op := .move (.t 22), ix := 4 }] false [0, 1, 6, 7, 8, 11, 12, 13, 18] [8]) (.seq (.cond (.t 18) (.keep [7] [] (.exit 3)) (.keep [0, 1, 6, 7, 8, 11, 12, 13] [8] .skip)) (.keep [0, 1, 6, 7, 8, 11, 12, 13] [8] (.seq (.region [
    { dst := some 24, op := .move (.t 6), ix := 0 },
    { dst := some 25, op := .move (.t 0), ix := 1 },
    { dst := some 26, op := .len 1 (.t 25), ix := 2 },
    { dst := some 27, op := .bin .lss (.t 24) (.t 26), ix := 3 },
    { dst := some 23, op := .move (.t 27), ix := 4 }] false [0, 1, 6, 7, 8, 11, 12, 13, 23] [8]) (.seq (.cond (.t 23) (.keep [0, 1, 6, 11, 12, 13] [] (.exit 4)) (.keep [0, 1, 6, 7, 8, 11, 12, 13] [8] .skip)) (.keep [0, 1, 6, 7, 8, 11, 12, 13] [8] (.seq (.region [
    { dst := some 29, op := .fieldAddr 0 (.t 8), ix := 0 },
    { dst := some 30, op := .load 1 false (.t 29), ix := 1 },
    { dst := some 31, op := .move (.t 1), ix := 2 },
    { dst := some 32, op := .bin .lss (.t 30) (.t 31), ix := 3 },
    { dst := some 28, op := .move (.t 32), ix := 4 }] false [0, 1, 6, 7, 11, 12, 13, 28] []) (.seq (.cond (.t 28) (.keep [0, 1, 6, 11, 12, 13] [] (.exit 5)) (.keep [0, 1, 7, 11, 12, 13] [] .skip)) (.keep [0, 1, 7, 11, 12, 13] [] (.exit 2))))))))))) (.keep [7] [] (.seq (.region [
    { dst := some 33, op := .move (.t 7), ix := 0 },
    { dst := some 4, op := .move (.t 33), ix := 1 },
    { dst := some 5, op := .move (.c (.bool true)), ix := 2 }] false [4, 5] []) (.seq (.keep [4, 5] [] .ret) (.keep [0, 1, 7, 11, 12, 13] [] (.exit 2))))))) (.keep [0, 1, 6, 11, 12, 13] [] .skip))) (.seq (.keep [0, 1, 6, 11, 12, 13] [] (.exit 1)) (.keep [0, 1, 7, 11, 12, 13] [] (.exit 2))))) (.keep [0, 1, 7, 11, 12, 13] [] (.seq (.region [
    { dst := some 34, op := .move (.t 7), ix := 0 },
    { dst := some 6, op := .move (.t 34), ix := 1 }] false [0, 1, 6, 11, 12, 13] []) (.keep [0, 1, 6, 11, 12, 13] [] .skip)))))) (.keep [0, 1, 6, 11, 12, 13] [] (.seq (.region [
    { dst := some 35, op := .bin .add (.t 13) (.c (.int .i64 1)), ix := 0 },
    { dst := some 13, op := .move (.t 35), ix := 1 }] false [0, 1, 6, 11, 12, 13] []) (.keep [0, 1, 6, 11, 12, 13] [] .skip)))))))
def F72 : LFunc := { nparams := 2, results := [.tmp 4, .tmp 5], pure := true, body :=
  (.seq (.region [
    { dst := some 4, op := .move (.c (.int .i64 0)), ix := 0 },
    { dst := some 5, op := .move (.c (.bool false)), ix := 1 }] false [0, 1] []) (.seq (.region [
    { dst := some 9, op := .move (.t 0), ix := 0 },
    { dst := some 10, op := .len 1 (.t 9), ix := 1 },
    { dst := some 6, op := .move (.t 10), ix := 2 }] false [0, 1, 6] []) (.seq (.region [
    { dst := some 11, op := .move (.t 0), ix := 0 },
    { dst := some 12, op := .len 1 (.t 11), ix := 1 },
    { dst := some 13, op := .move (.c (.int .i64 0)), ix := 2 }] false [0, 1, 6, 11, 12, 13] []) (.seq (.block 0 (.seq (.keep [0, 1, 6, 11, 12, 13] [] (.loop B72x0)) (.keep [6] [] .skip))) (.keep [6] [] (.seq (.region [
    { dst := some 36, op := .move (.t 6), ix := 0 },
    { dst := some 4, op := .move (.t 36), ix := 1 },
    { dst := some 5, op := .move (.c (.bool false)), ix := 2 }] false [4, 5] []) (.keep [4, 5] [] .ret))))))) }
theorem ok72 : fnSoundB Go.Proofs.Tryd.prog 72 F72 = true := by decide +kernel
def F75 : LFunc := { nparams := 2, results := [.tmp 3], pure := false, body :=
  (.seq (.region [
    { dst := some 2, op := .box false 2 (.t 0), ix := 0 },
    { dst := some 3, op := .move (.c (.bool false)), ix := 1 }] false [1, 2] [2]) (.seq (.region [
    { dst := some 4, op := .fieldAddr 0 (.t 2), ix := 0 },
    { dst := some 5, op := .load 1 false (.t 4), ix := 1 },
    { dst := some 6, op := .load 1 false (.t 1), ix := 2 },
    { dst := some 7, op := .eq .s false (.t 5) (.t 6), ix := 3 },
    { dst := some 3, op := .move (.t 7), ix := 4 }] false [3] []) (.keep [3] [] .ret))) }
theorem ok75 : fnSoundB Go.Proofs.Tryd.prog 75 F75 = true := by decide +kernel
def B76x0 : LCode :=
  (.seq (.region [
    { dst := some 64, op := .bin .lss (.t 63) (.t 62), ix := 0 }] false [1, 4, 11, 61, 62, 63, 64] []) (.seq (.cond (.t 64) (.keep [1, 4, 11, 61, 62, 63] [] .skip) (.keep [] [] (.exit 1))) (.keep [1, 4, 11, 61, 62, 63] [] (.seq (.block 2 (.seq (.region [
    { dst := some 65, op := .indexAddr 5 (.t 61) (.t 63), ix := 0 },
    { dst := some 66, op := .load 5 true (.t 65), ix := 1 },
    { dst := some 13, op := .alloc false 13 [.p (.str []), .p (.str []), .p (.str []), .p (.list []), .p (.list [])] [], ix := 2 },
    { dst := none, op := .store 5 true (.t 13) (.t 66), ix := 3 }] false [1, 4, 11, 13, 61, 62, 63] [13]) (.seq (.region [
    { dst := some 67, op := .load 1 false (.t 4), ix := 0 },
    { dst := some 68, op := .load 5 true (.t 13), ix := 1 },
    { dst := some 69, op := .move (.t 1), ix := 2 },
    { dst := some 70, op := .bin .add (.t 69) (.c (.int .i64 1)), ix := 3 },
    { dst := some 71, op := .move (.t 11), ix := 4 },
    { dst := some 72, op := .callv (.t 67) [(.t 68, .as), (.t 70, .as), (.t 71, .as)], ix := 5 },
    { dst := some 73, op := .un .not (.t 72), ix := 6 }] false [1, 4, 11, 61, 62, 63, 73] []) (.seq (.cond (.t 73) (.seq (.region [
    { dst := some 8, op := .move (.c (.bool false)), ix := 0 }] false [8] []) (.keep [8] [] .ret)) (.keep [1, 4, 11, 61, 62, 63] [] .skip)) (.keep [1, 4, 11, 61, 62, 63] [] .skip))))) (.keep [1, 4, 11, 61, 62, 63] [] (.seq (.region [
    { dst := some 74, op := .bin .add (.t 63) (.c (.int .i64 1)), ix := 0 },
    { dst := some 63, op := .move (.t 74), ix := 1 }] false [1, 4, 11, 61, 62, 63] []) (.keep [1, 4, 11, 61, 62, 63] [] .skip)))))))
def F76 : LFunc := { nparams := 5, results := [.tmp 8], pure := false, body :=
  (.seq (.region [
    { dst := some 5, op := .box false 5 (.t 0), ix := 0 },
    { dst := some 8, op := .move (.c (.bool false)), ix := 1 }] false [1, 2, 3, 4, 5] [5]) (.seq (.region [
    { dst := some 14, op := .fieldAddr 1 (.t 3), ix := 0 },
    { dst := some 15, op := .load 1 false (.t 14), ix := 1 },
    { dst := some 16, op := .move (.t 1), ix := 2 },
    { dst := some 17, op := .maxI (.t 15) (.t 16), ix := 3 },
    { dst := some 18, op := .fieldAddr 1 (.t 3), ix := 4 },
    { dst := none, op := .store 1 false (.t 18) (.t 17), ix := 5 }] false [1, 2, 3, 4, 5] [5]) (.seq (.block 0 (.seq (.region [
    { dst := some 23, op := .fieldAddr 0 (.t 3), ix := 0 },
    { dst := some 24, op := .load 1 false (.t 23), ix := 1 },
    { dst := some 25, op := .eq .i false (.t 24) (.c (.int .i64 4096)), ix := 2 },
    { dst := some 22, op := .move (.t 25), ix := 3 }] false [1, 2, 3, 4, 5, 22] [5]) (.seq (.cond (.t 22) (.seq (.region [
    { dst := some 26, op := .fieldAddr 2 (.t 3), ix := 0 },
    { dst := none, op := .store 1 false (.t 26) (.c (.int .i64 12)), ix := 1 }] false [1, 2, 3, 4, 5] [5]) (.keep [1, 2, 3, 4, 5] [5] .skip)) (.seq (.region [
    { dst := some 28, op := .move (.t 1), ix := 0 },
    { dst := some 29, op := .bin .gtr (.t 28) (.c (.int .i64 64)), ix := 1 },
    { dst := some 27, op := .move (.t 29), ix := 2 }] false [1, 2, 3, 4, 5, 27] [5]) (.seq (.cond (.t 27) (.seq (.region [
    { dst := some 30, op := .fieldAddr 2 (.t 3), ix := 0 },
    { dst := none, op := .store 1 false (.t 30) (.c (.int .i64 11)), ix := 1 }] false [1, 2, 3, 4, 5] [5]) (.keep [1, 2, 3, 4, 5] [5] .skip)) (.seq (.region [
    { dst := some 19, op := .load 5 true (.t 5), ix := 0 },
    { dst := some 20, op := .pcall 77 [(.t 19, .as)], ix := 1 },
    { dst := some 21, op := .fieldAddr 2 (.t 3), ix := 2 },
    { dst := none, op := .store 1 false (.t 21) (.t 20), ix := 3 }] false [1, 2, 3, 4, 5] [5]) (.keep [1, 2, 3, 4, 5] [5] .skip))) (.keep [1, 2, 3, 4, 5] [5] .skip)))) (.keep [1, 2, 3, 4, 5] [5] .skip)))) (.keep [1, 2, 3, 4, 5] [5] (.seq (.region [
    { dst := some 32, op := .move (.t 2), ix := 0 },
    { dst := some 33, op := .fieldAddr 1 (.t 5), ix := 1 },
    { dst := some 34, op := .load 1 false (.t 33), ix := 2 },
    { dst := some 35, op := .lookup 2 (.agg []) true (.t 32) (.t 34), ix := 3 },
    { dst := some 31, op := .move (.t 35), ix := 4 },
    { dst := some 36, op := .extract (.t 31) 0, ix := 5 },
    { dst := some 37, op := .extract (.t 31) 1, ix := 6 },
    { dst := some 9, op := .alloc false 9 [] [], ix := 7 },
    { dst := none, op := .store 0 true (.t 9) (.t 36), ix := 8 },
    { dst := some 10, op := .move (.t 37), ix := 9 }] false [1, 2, 3, 4, 5, 10] [5]) (.seq (.region [
    { dst := some 38, op := .fieldAddr 2 (.t 3), ix := 0 },
    { dst := some 39, op := .load 1 false (.t 38), ix := 1 },
    { dst := some 40, op := .eq .i false (.t 39) (.c (.int .i64 0)), ix := 2 },
    { dst := some 41, op := .move (.t 40), ix := 3 },
    { dst := some 42, op := .move (.t 10), guard := some (41, true), ix := 4 },
    { dst := some 43, op := .pick (.t 41) (.t 42) (.c (.bool false)), ix := 5 }] false [1, 2, 3, 4, 5, 43] [5]) (.seq (.cond (.t 43) (.seq (.region [
    { dst := some 44, op := .fieldAddr 2 (.t 3), ix := 0 },
    { dst := none, op := .store 1 false (.t 44) (.c (.int .i64 10)), ix := 1 }] false [1, 2, 3, 4, 5] [5]) (.keep [1, 2, 3, 4, 5] [5] .skip)) (.keep [1, 2, 3, 4, 5] [5] .skip)) (.keep [1, 2, 3, 4, 5] [5] (.seq (.region [
    { dst := some 45, op := .fieldAddr 2 (.t 3), ix := 0 },
    { dst := some 46, op := .load 1 false (.t 45), ix := 1 },
    { dst := some 47, op := .eq .i true (.t 46) (.c (.int .i64 0)), ix := 2 }] false [1, 2, 3, 4, 5, 47] [5]) (.seq (.cond (.t 47) (.seq (.region [
    { dst := some 8, op := .move (.c (.bool false)), ix := 0 }] false [8] []) (.keep [8] [] .ret)) (.keep [1, 2, 3, 4, 5] [5] .skip)) (.keep [1, 2, 3, 4, 5] [5] (.seq (.region [
    { dst := some 48, op := .fieldAddr 1 (.t 5), ix := 0 },
    { dst := some 49, op := .load 1 false (.t 48), ix := 1 },
    { dst := some 50, op := .eq .s true (.t 49) (.c (.str [])), ix := 2 }] false [1, 2, 3, 4, 5, 50] [5]) (.seq (.cond (.t 50) (.seq (.region [
    { dst := some 51, op := .move (.t 2), ix := 0 },
    { dst := some 52, op := .fieldAddr 1 (.t 5), ix := 1 },
    { dst := some 53, op := .load 1 false (.t 52), ix := 2 },
    { dst := some 54, op := .build [] [], ix := 3 },
    { dst := none, op := .mapUpdate 2 (.t 51) (.t 53) (.t 54), ix := 4 }] false [1, 3, 4, 5] [5]) (.keep [1, 3, 4, 5] [5] .skip)) (.keep [1, 3, 4, 5] [5] .skip)) (.keep [1, 3, 4, 5] [5] (.seq (.region [
    { dst := some 55, op := .fieldAddr 0 (.t 3), ix := 0 },
    { dst := some 56, op := .load 1 false (.t 55), ix := 1 },
    { dst := some 57, op := .bin .add (.t 56) (.c (.int .i64 1)), ix := 2 },
    { dst := some 58, op := .fieldAddr 0 (.t 3), ix := 3 },
    { dst := none, op := .store 1 false (.t 58) (.t 57), ix := 4 }] false [1, 4, 5] [5]) (.seq (.region [
    { dst := some 59, op := .makeMap true 59, ix := 0 },
    { dst := some 11, op := .move (.t 59), ix := 1 }] false [1, 4, 5, 11] [5]) (.seq (.region [
    { dst := some 60, op := .fieldAddr 4 (.t 5), ix := 0 },
    { dst := some 61, op := .load 1 false (.t 60), ix := 1 },
    { dst := some 62, op := .len 1 (.t 61), ix := 2 },
    { dst := some 63, op := .move (.c (.int .i64 0)), ix := 3 }] false [1, 4, 11, 61, 62, 63] []) (.seq (.block 1 (.seq (.keep [1, 4, 11, 61, 62, 63] [] (.loop B76x0)) (.keep [] [] .skip))) (.keep [] [] (.seq (.region [
    { dst := some 8, op := .move (.c (.bool true)), ix := 0 }] false [8] []) (.keep [8] [] .ret))))))))))))))))))))) }
theorem ok76 : fnSoundB Go.Proofs.Tryd.prog 76 F76 = true := by decide +kernel
def F77 : LFunc := { nparams := 1, results := [.tmp 2], pure := true, body :=
  (.seq (.region [
    { dst := some 1, op := .box false 1 (.t 0), ix := 0 },
    { dst := some 2, op := .move (.c (.int .i64 0)), ix := 1 }] false [1] [1]) (.seq (.block 0 (.seq (.region [
    { dst := some 6, op := .fieldAddr 0 (.t 1), ix := 0 },
    { dst := some 7, op := .load 1 false (.t 6), ix := 1 },
    { dst := some 8, op := .pcall 52 [(.t 7, .as)], ix := 2 },
    { dst := some 9, op := .un .not (.t 8), ix := 3 },
    { dst := some 5, op := .move (.t 9), ix := 4 }] false [1, 5] [1]) (.seq (.cond (.t 5) (.seq (.region [
    { dst := some 2, op := .move (.c (.int .i64 7)), ix := 0 }] false [2] []) (.keep [2] [] .ret)) (.seq (.region [
    { dst := some 11, op := .fieldAddr 1 (.t 1), ix := 0 },
    { dst := some 12, op := .load 1 false (.t 11), ix := 1 },
    { dst := some 13, op := .pcall 54 [(.t 12, .as)], ix := 2 },
    { dst := some 14, op := .un .not (.t 13), ix := 3 },
    { dst := some 15, op := .move (.t 14), ix := 4 },
    { dst := some 16, op := .fieldAddr 2 (.t 1), guard := some (15, false), ix := 5 },
    { dst := some 17, op := .load 1 false (.t 16), guard := some (15, false), ix := 6 },
    { dst := some 18, op := .pcall 54 [(.t 17, .as)], guard := some (15, false), ix := 7 },
    { dst := some 19, op := .un .not (.t 18), guard := some (15, false), ix := 8 },
    { dst := some 20, op := .pick (.t 15) (.c (.bool true)) (.t 19), ix := 9 },
    { dst := some 10, op := .move (.t 20), ix := 10 }] false [1, 10] [1]) (.seq (.cond (.t 10) (.seq (.region [
    { dst := some 2, op := .move (.c (.int .i64 3)), ix := 0 }] false [2] []) (.keep [2] [] .ret)) (.keep [1] [1] .skip)) (.keep [1] [1] .skip)))) (.keep [1] [1] .skip)))) (.keep [1] [1] (.seq (.region [
    { dst := some 22, op := .fieldAddr 3 (.t 1), ix := 0 },
    { dst := some 23, op := .load 1 false (.t 22), ix := 1 },
    { dst := some 24, op := .pcall 55 [(.t 23, .as)], ix := 2 },
    { dst := some 21, op := .move (.t 24), ix := 3 },
    { dst := some 25, op := .extract (.t 21) 0, ix := 4 },
    { dst := some 26, op := .extract (.t 21) 1, ix := 5 },
    { dst := some 3, op := .move (.t 25), ix := 6 },
    { dst := some 4, op := .move (.t 26), ix := 7 }] false [4] []) (.seq (.region [
    { dst := some 27, op := .move (.t 4), ix := 0 },
    { dst := some 2, op := .move (.t 27), ix := 1 }] false [2] []) (.keep [2] [] .ret)))))) }
theorem ok77 : fnSoundB Go.Proofs.Tryd.prog 77 F77 = true := by decide +kernel
def F79 : LFunc := { nparams := 1, results := [.tmp 2], pure := true, body :=
  (.seq (.region [
    { dst := some 2, op := .move (.c (.bool false)), ix := 0 }] false [0] []) (.seq (.region [
    { dst := some 3, op := .move (.t 0), ix := 0 },
    { dst := some 4, op := .bin .geq (.t 3) (.c (.int .u8 97)), ix := 1 },
    { dst := some 5, op := .move (.t 4), ix := 2 },
    { dst := some 6, op := .move (.t 0), guard := some (5, true), ix := 3 },
    { dst := some 7, op := .bin .leq (.t 6) (.c (.int .u8 122)), guard := some (5, true), ix := 4 },
    { dst := some 8, op := .pick (.t 5) (.t 7) (.c (.bool false)), ix := 5 },
    { dst := some 2, op := .move (.t 8), ix := 6 }] false [2] []) (.keep [2] [] .ret))) }
theorem ok79 : fnSoundB Go.Proofs.Tryd.prog 79 F79 = true := by decide +kernel
def B71x0 : LCode :=
  (.seq (.region [
    { dst := some 9, op := .bin .lss (.t 8) (.t 7), ix := 0 }] false [0, 1, 7, 8, 9] []) (.seq (.cond (.t 9) (.keep [0, 1, 7, 8] [] .skip) (.keep [] [] (.exit 0))) (.keep [0, 1, 7, 8] [] (.seq (.block 1 (.seq (.region [
    { dst := some 10, op := .move (.t 8), ix := 0 },
    { dst := some 5, op := .move (.t 10), ix := 1 }] false [0, 1, 5, 7, 8] []) (.seq (.region [
    { dst := some 11, op := .move (.t 1), ix := 0 },
    { dst := some 12, op := .move (.t 0), ix := 1 },
    { dst := some 13, op := .move (.t 5), ix := 2 },
    { dst := some 14, op := .indexAddr 1 (.t 12) (.t 13), ix := 3 },
    { dst := some 15, op := .load 1 false (.t 14), ix := 4 },
    { dst := some 16, op := .callv (.t 11) [(.t 15, .as)], ix := 5 }] false [0, 1, 5, 7, 8, 16] []) (.seq (.cond (.t 16) (.seq (.region [
    { dst := some 17, op := .move (.t 5), ix := 0 },
    { dst := some 4, op := .move (.t 17), ix := 1 }] false [4] []) (.keep [4] [] .ret)) (.keep [0, 1, 7, 8] [] .skip)) (.keep [0, 1, 7, 8] [] .skip))))) (.keep [0, 1, 7, 8] [] (.seq (.region [
    { dst := some 18, op := .bin .add (.t 8) (.c (.int .i64 1)), ix := 0 },
    { dst := some 8, op := .move (.t 18), ix := 1 }] false [0, 1, 7, 8] []) (.keep [0, 1, 7, 8] [] .skip)))))))
def F71 : LFunc := { nparams := 2, results := [.tmp 4], pure := false, body :=
  (.seq (.region [
    { dst := some 4, op := .move (.c (.int .i64 0)), ix := 0 }] false [0, 1] []) (.seq (.region [
    { dst := some 6, op := .move (.t 0), ix := 0 },
    { dst := some 7, op := .len 1 (.t 6), ix := 1 },
    { dst := some 8, op := .move (.c (.int .i64 0)), ix := 2 }] false [0, 1, 7, 8] []) (.seq (.block 0 (.seq (.keep [0, 1, 7, 8] [] (.loop B71x0)) (.keep [] [] .skip))) (.keep [] [] (.seq (.region [
    { dst := some 4, op := .move (.c (.int .i64 (-1))), ix := 0 }] false [4] []) (.keep [4] [] .ret)))))) }
theorem ok71 : fnSoundB Go.Proofs.Tryd.prog 71 F71 = true := by decide +kernel
def B85x0 : LCode :=
  (.seq (.region [
    { dst := some 9, op := .bin .lss (.t 8) (.t 7), ix := 0 }] false [0, 1, 7, 8, 9] []) (.seq (.cond (.t 9) (.keep [0, 1, 7, 8] [] .skip) (.keep [] [] (.exit 0))) (.keep [0, 1, 7, 8] [] (.seq (.block 1 (.seq (.region [
    { dst := some 10, op := .move (.t 8), ix := 0 },
    { dst := some 5, op := .move (.t 10), ix := 1 }] false [0, 1, 5, 7, 8] []) (.seq (.region [
    { dst := some 11, op := .move (.t 1), ix := 0 },
    { dst := some 12, op := .move (.t 0), ix := 1 },
    { dst := some 13, op := .move (.t 5), ix := 2 },
    { dst := some 14, op := .indexAddr 2 (.t 12) (.t 13), ix := 3 },
    { dst := some 15, op := .load 2 true (.t 14), ix := 4 },
    { dst := some 16, op := .callv (.t 11) [(.t 15, .as)], ix := 5 }] false [0, 1, 5, 7, 8, 16] []) (.seq (.cond (.t 16) (.seq (.region [
    { dst := some 17, op := .move (.t 5), ix := 0 },
    { dst := some 4, op := .move (.t 17), ix := 1 }] false [4] []) (.keep [4] [] .ret)) (.keep [0, 1, 7, 8] [] .skip)) (.keep [0, 1, 7, 8] [] .skip))))) (.keep [0, 1, 7, 8] [] (.seq (.region [
    { dst := some 18, op := .bin .add (.t 8) (.c (.int .i64 1)), ix := 0 },
    { dst := some 8, op := .move (.t 18), ix := 1 }] false [0, 1, 7, 8] []) (.keep [0, 1, 7, 8] [] .skip)))))))
def F85 : LFunc := { nparams := 2, results := [.tmp 4], pure := false, body :=
  (.seq (.region [
    { dst := some 4, op := .move (.c (.int .i64 0)), ix := 0 }] false [0, 1] []) (.seq (.region [
    { dst := some 6, op := .move (.t 0), ix := 0 },
    { dst := some 7, op := .len 1 (.t 6), ix := 1 },
    { dst := some 8, op := .move (.c (.int .i64 0)), ix := 2 }] false [0, 1, 7, 8] []) (.seq (.block 0 (.seq (.keep [0, 1, 7, 8] [] (.loop B85x0)) (.keep [] [] .skip))) (.keep [] [] (.seq (.region [
    { dst := some 4, op := .move (.c (.int .i64 (-1))), ix := 0 }] false [4] []) (.keep [4] [] .ret)))))) }
theorem ok85 : fnSoundB Go.Proofs.Tryd.prog 85 F85 = true := by decide +kernel
end Go.TA.Tryd


end
