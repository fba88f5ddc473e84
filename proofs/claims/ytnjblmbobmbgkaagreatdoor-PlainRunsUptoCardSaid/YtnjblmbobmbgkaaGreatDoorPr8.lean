/- Part 8 of 15 of a proof; joined from PrsLow0. Functions of the program, lowered: each is held against the program's own text by the kernel. -/
import Derived.Test.YtnjblmbobmbgkaaGreatDoorPr6
import Derived.Test.YtnjblmbobmbgkaaGreatDoorProg
set_option linter.unusedSimpArgs false
set_option linter.unusedVariables false
section
/- Functions of the program, lowered: each is held against the program's own text by the kernel. -/
set_option maxRecDepth 100000
namespace Go.TA.Tryz
def F3:LFunc:={ nparams:=2,results:=[.tmp 4],pure:=true,body :=
 (.seq (.region [
⟨some 4,.move (.c (.bool false)),none,0,[]⟩] false [0,1] []) (.seq (.region [
⟨some 15,.move (.t 0),none,0,[]⟩,
⟨some 16,.pcall 9 [(.t 15,.as),(.c (.int .i64 120),.as)],none,1,[]⟩,
⟨some 17,.un .not (.t 16),none,2,[]⟩,
⟨some 18,.move (.t 17),none,3,[]⟩,
⟨some 19,.move (.t 1),some (18,false),4,[]⟩,
⟨some 20,.pcall 10 [(.t 19,.as),(.c (.int .i64 150),.as)],some (18,false),5,[]⟩,
⟨some 21,.un .not (.t 20),some (18,false),6,[]⟩,
⟨some 22,.pick (.t 18) (.c (.bool true)) (.t 21),none,7,[]⟩] false [0,1,22] []) (.seq (.cond (.t 22) (.seq (.region [
⟨some 23,.pcall 11 [],none,0,[]⟩,
⟨some 4,.move (.t 23),none,1,[]⟩] false [4] []) (.keep [4] [] .ret)) (.keep [0,1] [] .skip)) (.keep [0,1] [] (.seq (.region [
⟨some 25,.move (.t 0),none,0,[]⟩,
⟨some 26,.call 12 [(.t 25,.as)],none,1,[]⟩,
⟨some 24,.move (.t 26),none,2,[]⟩,
⟨some 27,.extract (.t 24) 0,none,3,[]⟩,
⟨some 28,.extract (.t 24) 1,none,4,[]⟩,
⟨some 5,.move (.t 27),none,5,[]⟩,
⟨some 6,.move (.t 28),none,6,[]⟩] false [0,1,5,6] []) (.seq (.region [
⟨some 29,.move (.t 0),none,0,[]⟩,
⟨some 30,.pcall 13 [(.t 29,.as)],none,1,[]⟩,
⟨some 7,.move (.t 30),none,2,[]⟩] false [0,1,5,6,7] []) (.seq (.region [
⟨some 31,.move (.t 6),none,0,[]⟩,
⟨some 32,.move (.t 7),none,1,[]⟩,
⟨some 33,.eq .i true (.t 31) (.t 32),none,2,[]⟩] false [0,1,5,7,33] []) (.seq (.cond (.t 33) (.seq (.region [
⟨some 4,.move (.c (.bool false)),none,0,[]⟩] false [4] []) (.keep [4] [] .ret)) (.keep [0,1,5,7] [] .skip)) (.keep [0,1,5,7] [] (.seq (.region [
⟨some 34,.move (.t 7),none,0,[]⟩,
⟨some 35,.eq .i true (.t 34) (.c (.int .i64 0)),none,1,[]⟩] false [0,1,5,35] []) (.seq (.cond (.t 35) (.seq (.region [
⟨some 37,.move (.t 5),none,0,[]⟩,
⟨some 38,.move (.t 1),none,1,[]⟩,
⟨some 39,.call 14 [(.t 37,.as),(.t 38,.as)],none,2,[]⟩,
⟨some 36,.move (.t 39),none,3,[]⟩,
⟨some 40,.extract (.t 36) 0,none,4,[]⟩,
⟨some 41,.extract (.t 36) 1,none,5,[]⟩,
⟨some 8,.move (.t 40),none,6,[]⟩,
⟨some 9,.move (.t 41),none,7,[]⟩] false [5,8,9] []) (.seq (.region [
⟨some 42,.move (.t 5),none,0,[]⟩,
⟨some 43,.eq .ptr false (.t 42) (.c (.nilp)),none,1,[]⟩,
⟨some 44,.move (.t 43),none,2,[]⟩,
⟨some 45,.move (.t 8),some (44,true),3,[]⟩,
⟨some 46,.eq .i false (.t 45) (.c (.int .i64 0)),some (44,true),4,[]⟩,
⟨some 47,.pick (.t 44) (.t 46) (.c (.bool false)),none,5,[]⟩,
⟨some 48,.move (.t 47),none,6,[]⟩,
⟨some 49,.move (.t 9),some (48,true),7,[]⟩,
⟨some 50,.eq .i false (.t 49) (.c (.int .i64 1)),some (48,true),8,[]⟩,
⟨some 51,.pick (.t 48) (.t 50) (.c (.bool false)),none,9,[]⟩,
⟨some 52,.move (.t 51),none,10,[]⟩,
⟨some 53,.move (.t 5),some (52,true),11,[]⟩,
⟨some 54,.build [.p (.int .i64 0),.p (.int .i64 0),.p (.int .i64 0),.p (.int .i64 0),.p (.str []),.p (.str []),.p (.str []),.p (.str []),.p (.list [])] [],some (52,true),12,[]⟩,
⟨some 55,.call 15 [(.t 53,.as),(.t 54,.as)],some (52,true),13,[]⟩,
⟨some 56,.eq .i false (.t 55) (.c (.int .i64 1)),some (52,true),14,[]⟩,
⟨some 57,.pick (.t 52) (.t 56) (.c (.bool false)),none,15,[]⟩,
⟨some 58,.move (.t 57),none,16,[]⟩,
⟨some 59,.move (.t 5),some (58,true),17,[]⟩,
⟨some 60,.call 16 [(.t 59,.as)],some (58,true),18,[]⟩,
⟨some 61,.len 1 (.t 60),some (58,true),19,[]⟩,
⟨some 62,.move (.t 5),some (58,true),20,[]⟩,
⟨some 63,.call 17 [(.t 62,.as)],some (58,true),21,[]⟩,
⟨some 64,.len 1 (.t 63),some (58,true),22,[]⟩,
⟨some 65,.bin .add (.t 61) (.t 64),some (58,true),23,[]⟩,
⟨some 66,.move (.t 5),some (58,true),24,[]⟩,
⟨some 67,.call 18 [(.t 66,.as)],some (58,true),25,[]⟩,
⟨some 68,.bin .add (.t 65) (.t 67),some (58,true),26,[]⟩,
⟨some 69,.eq .i false (.t 68) (.c (.int .i64 0)),some (58,true),27,[]⟩,
⟨some 70,.pick (.t 58) (.t 69) (.c (.bool false)),none,28,[]⟩,
⟨some 71,.move (.t 70),none,29,[]⟩,
⟨some 72,.pcall 11 [],some (71,true),30,[]⟩,
⟨some 73,.pick (.t 71) (.t 72) (.c (.bool false)),none,31,[]⟩,
⟨some 4,.move (.t 73),none,32,[]⟩] false [4] []) (.keep [4] [] .ret))) (.keep [0,1,5] [] .skip)) (.keep [0,1,5] [] (.seq (.region [
⟨some 74,.move (.t 0),none,0,[]⟩,
⟨some 75,.call 19 [(.t 74,.as)],none,1,[]⟩,
⟨some 10,.move (.t 75),none,2,[]⟩] false [1,5,10] []) (.seq (.region [
⟨some 77,.move (.t 5),none,0,[]⟩,
⟨some 78,.move (.t 1),none,1,[]⟩,
⟨some 79,.call 14 [(.t 77,.as),(.t 78,.as)],none,2,[]⟩,
⟨some 76,.move (.t 79),none,3,[]⟩,
⟨some 80,.extract (.t 76) 0,none,4,[]⟩,
⟨some 81,.extract (.t 76) 1,none,5,[]⟩,
⟨some 11,.move (.t 80),none,6,[]⟩,
⟨some 12,.move (.t 81),none,7,[]⟩] false [1,5,10,11,12] []) (.seq (.region [
⟨some 83,.move (.t 10),none,0,[]⟩,
⟨some 84,.move (.t 1),none,1,[]⟩,
⟨some 85,.call 20 [(.t 83,.as),(.t 84,.as)],none,2,[]⟩,
⟨some 82,.move (.t 85),none,3,[]⟩,
⟨some 86,.extract (.t 82) 0,none,4,[]⟩,
⟨some 87,.extract (.t 82) 1,none,5,[]⟩,
⟨some 13,.move (.t 86),none,6,[]⟩,
⟨some 14,.move (.t 87),none,7,[]⟩] false [5,10,11,12,13,14] []) (.seq (.draw [
⟨some 88,.move (.t 11),none,0,[]⟩,
⟨some 89,.move (.t 13),none,1,[]⟩,
⟨some 90,.eq .i false (.t 88) (.t 89),none,2,[]⟩,
⟨some 91,.move (.t 90),none,3,[]⟩,
⟨some 92,.move (.t 12),some (91,true),4,[]⟩,
⟨some 93,.move (.t 14),some (91,true),5,[]⟩,
⟨some 94,.eq .i false (.t 92) (.t 93),some (91,true),6,[]⟩,
⟨some 95,.pick (.t 91) (.t 94) (.c (.bool false)),none,7,[]⟩,
⟨some 96,.move (.t 95),none,8,[]⟩,
⟨some 97,.move (.t 5),some (96,true),9,[]⟩,
⟨some 99,.move (.t 10),some (96,true),11,[]⟩,
⟨some 98,.call 16 [(.t 97,.as)],some (96,true),10,[]⟩,
⟨some 100,.call 22 [(.t 99,.as)],some (96,true),12,[]⟩,
⟨some 101,.pcall 21 [(.t 98,.look),(.t 100,.look)],some (96,true),13,[]⟩,
⟨some 102,.pick (.t 96) (.t 101) (.c (.bool false)),none,14,[]⟩,
⟨some 103,.move (.t 102),none,15,[]⟩,
⟨some 104,.move (.t 5),some (103,true),16,[]⟩,
⟨some 106,.move (.t 10),some (103,true),18,[]⟩,
⟨some 105,.call 17 [(.t 104,.as)],some (103,true),17,[]⟩,
⟨some 107,.call 24 [(.t 106,.as)],some (103,true),19,[]⟩,
⟨some 108,.pcall 23 [(.t 105,.look),(.t 107,.look)],some (103,true),20,[]⟩,
⟨some 109,.pick (.t 103) (.t 108) (.c (.bool false)),none,21,[]⟩,
⟨some 110,.move (.t 109),none,22,[]⟩,
⟨some 111,.move (.t 5),some (110,true),23,[]⟩,
⟨some 113,.move (.t 10),some (110,true),25,[]⟩,
⟨some 114,.nilCheck (.t 113),some (110,true),26,[]⟩,
⟨some 115,.fieldAddr 1 (.t 114),some (110,true),27,[]⟩,
⟨some 116,.load 1 false (.t 115),some (110,true),28,[]⟩,
⟨some 112,.call 18 [(.t 111,.as)],some (110,true),24,[28]⟩,
⟨some 117,.eq .i false (.t 112) (.t 116),some (110,true),29,[]⟩,
⟨some 118,.pick (.t 110) (.t 117) (.c (.bool false)),none,30,[]⟩,
⟨some 119,.move (.t 118),none,31,[]⟩,
⟨some 120,.pcall 11 [],some (119,true),32,[]⟩,
⟨some 121,.pick (.t 119) (.t 120) (.c (.bool false)),none,33,[]⟩,
⟨some 4,.move (.t 121),none,34,[]⟩] [4] []) (.keep [4] [] .ret))))))))))))))))) }
theorem ok3:fnSoundB Go.Proofs.Tryz.prog 3 F3=true:=by decide +kernel
def B9x1:LCode :=
 (.seq (.region [
⟨some 54,.bin .lss (.t 53) (.t 52),none,0,[]⟩] false [0,5,6,10,11,52,53,54] []) (.seq (.cond (.t 54) (.keep [0,5,6,10,11,52,53] [] .skip) (.keep [0,5,10,11] [] (.exit 2))) (.keep [0,5,6,10,11,52,53] [] (.seq (.block 3 (.seq (.region [
⟨some 55,.move (.t 53),none,0,[]⟩,
⟨some 7,.move (.t 55),none,1,[]⟩] false [0,5,6,7,10,11,52,53] []) (.seq (.region [
⟨some 56,.move (.t 5),none,0,[]⟩,
⟨some 57,.move (.t 0),none,1,[]⟩,
⟨some 58,.move (.t 6),none,2,[]⟩,
⟨some 59,.indexAddr 6 (.t 57) (.t 58),none,3,[]⟩,
⟨some 60,.fieldAddr 5 (.t 59),none,4,[]⟩,
⟨some 61,.load 1 false (.t 60),none,5,[]⟩,
⟨some 62,.move (.t 7),none,6,[]⟩,
⟨some 63,.indexAddr 2 (.t 61) (.t 62),none,7,[]⟩,
⟨some 64,.fieldAddr 1 (.t 63),none,8,[]⟩,
⟨some 65,.load 1 false (.t 64),none,9,[]⟩,
⟨some 66,.len 0 (.t 65),none,10,[]⟩,
⟨some 67,.move (.t 0),none,11,[]⟩,
⟨some 68,.move (.t 6),none,12,[]⟩,
⟨some 69,.indexAddr 6 (.t 67) (.t 68),none,13,[]⟩,
⟨some 70,.fieldAddr 5 (.t 69),none,14,[]⟩,
⟨some 71,.load 1 false (.t 70),none,15,[]⟩,
⟨some 72,.move (.t 7),none,16,[]⟩,
⟨some 73,.indexAddr 2 (.t 71) (.t 72),none,17,[]⟩,
⟨some 74,.fieldAddr 0 (.t 73),none,18,[]⟩,
⟨some 75,.load 1 false (.t 74),none,19,[]⟩,
⟨some 76,.len 0 (.t 75),none,20,[]⟩,
⟨some 77,.bin .add (.t 66) (.t 76),none,21,[]⟩,
⟨some 78,.bin .quo (.t 77) (.c (.int .i64 4096)),none,22,[]⟩,
⟨some 79,.bin .sub (.t 56) (.t 78),none,23,[]⟩,
⟨some 5,.move (.t 79),none,24,[]⟩] true [0,5,6,10,11,52,53] []) (.keep [0,5,6,10,11,52,53] [] .skip)))) (.keep [0,5,6,10,11,52,53] [] (.seq (.region [
⟨some 80,.bin .add (.t 53) (.c (.int .i64 1)),none,0,[]⟩,
⟨some 53,.move (.t 80),none,1,[]⟩] false [0,5,6,10,11,52,53] []) (.keep [0,5,6,10,11,52,53] [] .skip)))))))
def B9x0:LCode :=
 (.seq (.region [
⟨some 12,.bin .lss (.t 11) (.t 10),none,0,[]⟩] false [0,5,10,11,12] []) (.seq (.cond (.t 12) (.keep [0,5,10,11] [] .skip) (.keep [5] [] (.exit 0))) (.keep [0,5,10,11] [] (.seq (.block 1 (.seq (.region [
⟨some 13,.move (.t 11),none,0,[]⟩,
⟨some 6,.move (.t 13),none,1,[]⟩] false [0,5,6,10,11] []) (.seq (.region [
⟨some 14,.move (.t 5),none,0,[]⟩,
⟨some 15,.bin .sub (.t 14) (.c (.int .i64 1)),none,1,[]⟩,
⟨some 16,.move (.t 0),none,2,[]⟩,
⟨some 17,.move (.t 6),none,3,[]⟩,
⟨some 18,.indexAddr 6 (.t 16) (.t 17),none,4,[]⟩,
⟨some 19,.fieldAddr 5 (.t 18),none,5,[]⟩,
⟨some 20,.load 1 false (.t 19),none,6,[]⟩,
⟨some 21,.len 1 (.t 20),none,7,[]⟩,
⟨some 22,.bin .sub (.t 15) (.t 21),none,8,[]⟩,
⟨some 23,.move (.t 0),none,9,[]⟩,
⟨some 24,.move (.t 6),none,10,[]⟩,
⟨some 25,.indexAddr 6 (.t 23) (.t 24),none,11,[]⟩,
⟨some 26,.fieldAddr 4 (.t 25),none,12,[]⟩,
⟨some 27,.load 1 false (.t 26),none,13,[]⟩,
⟨some 28,.len 0 (.t 27),none,14,[]⟩,
⟨some 29,.move (.t 0),none,15,[]⟩,
⟨some 30,.move (.t 6),none,16,[]⟩,
⟨some 31,.indexAddr 6 (.t 29) (.t 30),none,17,[]⟩,
⟨some 32,.fieldAddr 3 (.t 31),none,18,[]⟩,
⟨some 33,.load 1 false (.t 32),none,19,[]⟩,
⟨some 34,.len 0 (.t 33),none,20,[]⟩,
⟨some 35,.bin .add (.t 28) (.t 34),none,21,[]⟩,
⟨some 36,.move (.t 0),none,22,[]⟩,
⟨some 37,.move (.t 6),none,23,[]⟩,
⟨some 38,.indexAddr 6 (.t 36) (.t 37),none,24,[]⟩,
⟨some 39,.fieldAddr 2 (.t 38),none,25,[]⟩,
⟨some 40,.load 1 false (.t 39),none,26,[]⟩,
⟨some 41,.len 0 (.t 40),none,27,[]⟩,
⟨some 42,.bin .add (.t 35) (.t 41),none,28,[]⟩,
⟨some 43,.bin .quo (.t 42) (.c (.int .i64 4096)),none,29,[]⟩,
⟨some 44,.bin .sub (.t 22) (.t 43),none,30,[]⟩,
⟨some 5,.move (.t 44),none,31,[]⟩] true [0,5,6,10,11] []) (.seq (.region [
⟨some 45,.move (.t 5),none,0,[]⟩,
⟨some 46,.bin .lss (.t 45) (.c (.int .i64 0)),none,1,[]⟩] false [0,5,6,10,11,46] []) (.seq (.cond (.t 46) (.seq (.region [
⟨some 4,.move (.c (.bool false)),none,0,[]⟩] false [4] []) (.keep [4] [] .ret)) (.keep [0,5,6,10,11] [] .skip)) (.keep [0,5,6,10,11] [] (.seq (.region [
⟨some 47,.move (.t 0),none,0,[]⟩,
⟨some 48,.move (.t 6),none,1,[]⟩,
⟨some 49,.indexAddr 6 (.t 47) (.t 48),none,2,[]⟩,
⟨some 50,.fieldAddr 5 (.t 49),none,3,[]⟩,
⟨some 51,.load 1 false (.t 50),none,4,[]⟩,
⟨some 52,.len 1 (.t 51),none,5,[]⟩,
⟨some 53,.move (.c (.int .i64 0)),none,6,[]⟩] false [0,5,6,10,11,52,53] []) (.seq (.block 2 (.seq (.keep [0,5,6,10,11,52,53] [] (.loop B9x1)) (.keep [0,5,10,11] [] .skip))) (.keep [0,5,10,11] [] .skip))))))))) (.keep [0,5,10,11] [] (.seq (.region [
⟨some 81,.bin .add (.t 11) (.c (.int .i64 1)),none,0,[]⟩,
⟨some 11,.move (.t 81),none,1,[]⟩] false [0,5,10,11] []) (.keep [0,5,10,11] [] .skip)))))))
def F9:LFunc:={ nparams:=2,results:=[.tmp 4],pure:=true,body :=
 (.seq (.region [
⟨some 4,.move (.c (.bool false)),none,0,[]⟩] false [0,1] []) (.seq (.region [
⟨some 8,.move (.t 1),none,0,[]⟩,
⟨some 5,.move (.t 8),none,1,[]⟩] false [0,5] []) (.seq (.region [
⟨some 9,.move (.t 0),none,0,[]⟩,
⟨some 10,.len 1 (.t 9),none,1,[]⟩,
⟨some 11,.move (.c (.int .i64 0)),none,2,[]⟩] false [0,5,10,11] []) (.seq (.block 0 (.seq (.keep [0,5,10,11] [] (.loop B9x0)) (.keep [5] [] .skip))) (.keep [5] [] (.seq (.region [
⟨some 82,.move (.t 5),none,0,[]⟩,
⟨some 83,.bin .geq (.t 82) (.c (.int .i64 0)),none,1,[]⟩,
⟨some 4,.move (.t 83),none,2,[]⟩] false [4] []) (.keep [4] [] .ret))))))) }
theorem ok9:fnSoundB Go.Proofs.Tryz.prog 9 F9=true:=by decide +kernel
def B10x1:LCode :=
 (.seq (.region [
⟨some 48,.bin .lss (.t 47) (.t 46),none,0,[]⟩] false [0,5,7,11,12,46,47,48] [7]) (.seq (.cond (.t 48) (.keep [0,5,7,11,12,46,47] [7] .skip) (.keep [0,5,11,12] [] (.exit 2))) (.keep [0,5,7,11,12,46,47] [7] (.seq (.block 3 (.seq (.region [
⟨some 49,.move (.t 47),none,0,[]⟩,
⟨some 8,.move (.t 49),none,1,[]⟩] false [0,5,7,8,11,12,46,47] [7]) (.seq (.region [
⟨some 50,.move (.t 5),none,0,[]⟩,
⟨some 51,.fieldAddr 8 (.t 7),none,1,[]⟩,
⟨some 52,.load 1 false (.t 51),none,2,[]⟩,
⟨some 53,.move (.t 8),none,3,[]⟩,
⟨some 54,.indexAddr 2 (.t 52) (.t 53),none,4,[]⟩,
⟨some 55,.fieldAddr 1 (.t 54),none,5,[]⟩,
⟨some 56,.load 1 false (.t 55),none,6,[]⟩,
⟨some 57,.len 0 (.t 56),none,7,[]⟩,
⟨some 58,.fieldAddr 8 (.t 7),none,8,[]⟩,
⟨some 59,.load 1 false (.t 58),none,9,[]⟩,
⟨some 60,.move (.t 8),none,10,[]⟩,
⟨some 61,.indexAddr 2 (.t 59) (.t 60),none,11,[]⟩,
⟨some 62,.fieldAddr 0 (.t 61),none,12,[]⟩,
⟨some 63,.load 1 false (.t 62),none,13,[]⟩,
⟨some 64,.len 0 (.t 63),none,14,[]⟩,
⟨some 65,.bin .add (.t 57) (.t 64),none,15,[]⟩,
⟨some 66,.bin .quo (.t 65) (.c (.int .i64 4096)),none,16,[]⟩,
⟨some 67,.bin .sub (.t 50) (.t 66),none,17,[]⟩,
⟨some 5,.move (.t 67),none,18,[]⟩] true [0,5,7,11,12,46,47] [7]) (.keep [0,5,7,11,12,46,47] [7] .skip)))) (.keep [0,5,7,11,12,46,47] [7] (.seq (.region [
⟨some 68,.bin .add (.t 47) (.c (.int .i64 1)),none,0,[]⟩,
⟨some 47,.move (.t 68),none,1,[]⟩] false [0,5,7,11,12,46,47] [7]) (.keep [0,5,7,11,12,46,47] [7] .skip)))))))
def B10x0:LCode :=
 (.seq (.region [
⟨some 13,.bin .lss (.t 12) (.t 11),none,0,[]⟩] false [0,5,11,12,13] []) (.seq (.cond (.t 13) (.keep [0,5,11,12] [] .skip) (.keep [5] [] (.exit 0))) (.keep [0,5,11,12] [] (.seq (.block 1 (.seq (.region [
⟨some 14,.move (.t 12),none,0,[]⟩,
⟨some 6,.move (.t 14),none,1,[]⟩] false [0,5,6,11,12] []) (.seq (.region [
⟨some 15,.move (.t 0),none,0,[]⟩,
⟨some 16,.move (.t 6),none,1,[]⟩,
⟨some 17,.indexAddr 9 (.t 15) (.t 16),none,2,[]⟩,
⟨some 18,.load 9 true (.t 17),none,3,[]⟩,
⟨some 7,.alloc false 7 [.p (.int .i64 0),.p (.int .i64 0),.p (.int .i64 0),.p (.int .i64 0),.p (.str []),.p (.str []),.p (.str []),.p (.str []),.p (.list [])] [],none,4,[]⟩,
⟨none,.store 9 true (.t 7) (.t 18),none,5,[]⟩] false [0,5,7,11,12] [7]) (.seq (.region [
⟨some 19,.move (.t 5),none,0,[]⟩,
⟨some 20,.bin .sub (.t 19) (.c (.int .i64 1)),none,1,[]⟩,
⟨some 21,.fieldAddr 8 (.t 7),none,2,[]⟩,
⟨some 22,.load 1 false (.t 21),none,3,[]⟩,
⟨some 23,.len 1 (.t 22),none,4,[]⟩,
⟨some 24,.bin .sub (.t 20) (.t 23),none,5,[]⟩,
⟨some 25,.fieldAddr 7 (.t 7),none,6,[]⟩,
⟨some 26,.load 1 false (.t 25),none,7,[]⟩,
⟨some 27,.len 0 (.t 26),none,8,[]⟩,
⟨some 28,.fieldAddr 5 (.t 7),none,9,[]⟩,
⟨some 29,.load 1 false (.t 28),none,10,[]⟩,
⟨some 30,.len 0 (.t 29),none,11,[]⟩,
⟨some 31,.bin .add (.t 27) (.t 30),none,12,[]⟩,
⟨some 32,.fieldAddr 4 (.t 7),none,13,[]⟩,
⟨some 33,.load 1 false (.t 32),none,14,[]⟩,
⟨some 34,.len 0 (.t 33),none,15,[]⟩,
⟨some 35,.bin .add (.t 31) (.t 34),none,16,[]⟩,
⟨some 36,.fieldAddr 6 (.t 7),none,17,[]⟩,
⟨some 37,.load 1 false (.t 36),none,18,[]⟩,
⟨some 38,.len 0 (.t 37),none,19,[]⟩,
⟨some 39,.bin .add (.t 35) (.t 38),none,20,[]⟩,
⟨some 40,.bin .quo (.t 39) (.c (.int .i64 4096)),none,21,[]⟩,
⟨some 41,.bin .sub (.t 24) (.t 40),none,22,[]⟩,
⟨some 5,.move (.t 41),none,23,[]⟩] false [0,5,7,11,12] [7]) (.seq (.region [
⟨some 42,.move (.t 5),none,0,[]⟩,
⟨some 43,.bin .lss (.t 42) (.c (.int .i64 0)),none,1,[]⟩] false [0,5,7,11,12,43] [7]) (.seq (.cond (.t 43) (.seq (.region [
⟨some 4,.move (.c (.bool false)),none,0,[]⟩] false [4] []) (.keep [4] [] .ret)) (.keep [0,5,7,11,12] [7] .skip)) (.keep [0,5,7,11,12] [7] (.seq (.region [
⟨some 44,.fieldAddr 8 (.t 7),none,0,[]⟩,
⟨some 45,.load 1 false (.t 44),none,1,[]⟩,
⟨some 46,.len 1 (.t 45),none,2,[]⟩,
⟨some 47,.move (.c (.int .i64 0)),none,3,[]⟩] false [0,5,7,11,12,46,47] [7]) (.seq (.block 2 (.seq (.keep [0,5,7,11,12,46,47] [7] (.loop B10x1)) (.keep [0,5,11,12] [] .skip))) (.keep [0,5,11,12] [] .skip)))))))))) (.keep [0,5,11,12] [] (.seq (.region [
⟨some 69,.bin .add (.t 12) (.c (.int .i64 1)),none,0,[]⟩,
⟨some 12,.move (.t 69),none,1,[]⟩] false [0,5,11,12] []) (.keep [0,5,11,12] [] .skip)))))))
def F10:LFunc:={ nparams:=2,results:=[.tmp 4],pure:=true,body :=
 (.seq (.region [
⟨some 4,.move (.c (.bool false)),none,0,[]⟩] false [0,1] []) (.seq (.region [
⟨some 9,.move (.t 1),none,0,[]⟩,
⟨some 5,.move (.t 9),none,1,[]⟩] false [0,5] []) (.seq (.region [
⟨some 10,.move (.t 0),none,0,[]⟩,
⟨some 11,.len 1 (.t 10),none,1,[]⟩,
⟨some 12,.move (.c (.int .i64 0)),none,2,[]⟩] false [0,5,11,12] []) (.seq (.block 0 (.seq (.keep [0,5,11,12] [] (.loop B10x0)) (.keep [5] [] .skip))) (.keep [5] [] (.seq (.region [
⟨some 70,.move (.t 5),none,0,[]⟩,
⟨some 71,.bin .geq (.t 70) (.c (.int .i64 0)),none,1,[]⟩,
⟨some 4,.move (.t 71),none,2,[]⟩] false [4] []) (.keep [4] [] .ret))))))) }
theorem ok10:fnSoundB Go.Proofs.Tryz.prog 10 F10=true:=by decide +kernel
def F11:LFunc:={ nparams:=0,results:=[.tmp 0],pure:=true,body :=
 (.seq (.region [
⟨some 0,.move (.c (.bool false)),none,0,[]⟩] false [] []) (.seq (.region [
⟨some 7,.build [.p (.int .i64 0),.p (.int .i64 0),.p (.str []),.p (.str []),.p (.str []),.p (.list [])] [(2,1,.c (.str [112]))],none,0,[]⟩,
⟨some 8,.row 6 [.t 7],none,1,[]⟩,
⟨some 9,.call 12 [(.t 8,.freeze)],none,2,[]⟩,
⟨some 6,.move (.t 9),none,3,[]⟩,
⟨some 10,.extract (.t 6) 0,none,4,[]⟩,
⟨some 11,.extract (.t 6) 1,none,5,[]⟩,
⟨some 1,.move (.t 10),none,6,[]⟩,
⟨some 2,.move (.t 11),none,7,[]⟩] false [1,2] []) (.seq (.region [
⟨some 13,.move (.t 1),none,0,[]⟩,
⟨some 14,.build [.p (.int .i64 0),.p (.int .i64 0),.p (.int .i64 0),.p (.int .i64 0),.p (.str []),.p (.str []),.p (.str []),.p (.str []),.p (.list [])] [(0,1,.c (.int .i64 1)),(4,1,.c (.str [98]))],none,1,[]⟩,
⟨some 15,.build [.p (.int .i64 0),.p (.int .i64 0),.p (.int .i64 0),.p (.int .i64 0),.p (.str []),.p (.str []),.p (.str []),.p (.str []),.p (.list [])] [(0,1,.c (.int .i64 2)),(1,1,.c (.int .i64 2)),(2,1,.c (.int .i64 1))],none,2,[]⟩,
⟨some 16,.build [.p (.int .i64 0),.p (.int .i64 0),.p (.int .i64 0),.p (.int .i64 0),.p (.str []),.p (.str []),.p (.str []),.p (.str []),.p (.list [])] [(0,1,.c (.int .i64 2)),(1,1,.c (.int .i64 2))],none,3,[]⟩,
⟨some 17,.row 9 [.t 14,.t 15,.t 16],none,4,[]⟩,
⟨some 18,.call 14 [(.t 13,.as),(.t 17,.freeze)],none,5,[]⟩,
⟨some 12,.move (.t 18),none,6,[]⟩,
⟨some 19,.extract (.t 12) 0,none,7,[]⟩,
⟨some 20,.extract (.t 12) 1,none,8,[]⟩,
⟨some 3,.move (.t 19),none,9,[]⟩,
⟨some 4,.move (.t 20),none,10,[]⟩] false [1,2,3,4] []) (.seq (.region [
⟨some 21,.move (.t 1),none,0,[]⟩,
⟨some 22,.call 16 [(.t 21,.as)],none,1,[]⟩,
⟨some 5,.move (.t 22),none,2,[]⟩] false [1,2,3,4,5] []) (.seq (.region [
⟨some 23,.move (.t 2),none,0,[]⟩,
⟨some 24,.eq .i false (.t 23) (.c (.int .i64 0)),none,1,[]⟩,
⟨some 25,.move (.t 24),none,2,[]⟩,
⟨some 26,.move (.t 3),some (25,true),3,[]⟩,
⟨some 27,.eq .i false (.t 26) (.c (.int .i64 2)),some (25,true),4,[]⟩,
⟨some 28,.pick (.t 25) (.t 27) (.c (.bool false)),none,5,[]⟩,
⟨some 29,.move (.t 28),none,6,[]⟩,
⟨some 30,.move (.t 4),some (29,true),7,[]⟩,
⟨some 31,.eq .i false (.t 30) (.c (.int .i64 15)),some (29,true),8,[]⟩,
⟨some 32,.pick (.t 29) (.t 31) (.c (.bool false)),none,9,[]⟩,
⟨some 33,.move (.t 32),none,10,[]⟩,
⟨some 34,.move (.t 5),some (33,true),11,[]⟩,
⟨some 35,.len 1 (.t 34),some (33,true),12,[]⟩,
⟨some 36,.eq .i false (.t 35) (.c (.int .i64 2)),some (33,true),13,[]⟩,
⟨some 37,.pick (.t 33) (.t 36) (.c (.bool false)),none,14,[]⟩,
⟨some 38,.move (.t 37),none,15,[]⟩,
⟨some 39,.move (.t 5),some (38,true),16,[]⟩,
⟨some 40,.indexAddr 6 (.t 39) (.c (.int .i64 1)),some (38,true),17,[]⟩,
⟨some 41,.fieldAddr 0 (.t 40),some (38,true),18,[]⟩,
⟨some 42,.load 1 false (.t 41),some (38,true),19,[]⟩,
⟨some 43,.eq .i false (.t 42) (.c (.int .i64 2)),some (38,true),20,[]⟩,
⟨some 44,.pick (.t 38) (.t 43) (.c (.bool false)),none,21,[]⟩,
⟨some 45,.move (.t 44),none,22,[]⟩,
⟨some 46,.move (.t 5),some (45,true),23,[]⟩,
⟨some 47,.indexAddr 6 (.t 46) (.c (.int .i64 1)),some (45,true),24,[]⟩,
⟨some 48,.fieldAddr 1 (.t 47),some (45,true),25,[]⟩,
⟨some 49,.load 1 false (.t 48),some (45,true),26,[]⟩,
⟨some 50,.eq .i false (.t 49) (.c (.int .i64 1)),some (45,true),27,[]⟩,
⟨some 51,.pick (.t 45) (.t 50) (.c (.bool false)),none,28,[]⟩,
⟨some 52,.move (.t 51),none,29,[]⟩,
⟨some 53,.move (.t 1),some (52,true),30,[]⟩,
⟨some 54,.call 18 [(.t 53,.as)],some (52,true),31,[]⟩,
⟨some 55,.eq .i false (.t 54) (.c (.int .i64 3)),some (52,true),32,[]⟩,
⟨some 56,.pick (.t 52) (.t 55) (.c (.bool false)),none,33,[]⟩,
⟨some 57,.move (.t 56),none,34,[]⟩,
⟨some 58,.move (.t 1),some (57,true),35,[]⟩,
⟨some 59,.call 17 [(.t 58,.as)],some (57,true),36,[]⟩,
⟨some 60,.len 1 (.t 59),some (57,true),37,[]⟩,
⟨some 61,.eq .i false (.t 60) (.c (.int .i64 0)),some (57,true),38,[]⟩,
⟨some 62,.pick (.t 57) (.t 61) (.c (.bool false)),none,39,[]⟩,
⟨some 0,.move (.t 62),none,40,[]⟩] false [0] []) (.keep [0] [] .ret)))))) }
theorem ok11:fnSoundB Go.Proofs.Tryz.prog 11 F11=true:=by decide +kernel
def B12x0:LCode :=
 (.seq (.region [
⟨some 20,.bin .lss (.t 19) (.t 18),none,0,[]⟩] false [5,17,18,19,20] []) (.seq (.cond (.t 20) (.keep [5,17,18,19] [] .skip) (.keep [5] [] (.exit 0))) (.keep [5,17,18,19] [] (.seq (.block 1 (.seq (.region [
⟨some 21,.move (.t 19),none,0,[]⟩,
⟨some 22,.indexAddr 6 (.t 17) (.t 19),none,1,[]⟩,
⟨some 23,.load 6 true (.t 22),none,2,[]⟩,
⟨some 7,.alloc false 7 [.p (.int .i64 0),.p (.int .i64 0),.p (.str []),.p (.str []),.p (.str []),.p (.list [])] [],none,3,[]⟩,
⟨some 6,.move (.t 21),none,4,[]⟩,
⟨none,.store 6 true (.t 7) (.t 23),none,5,[]⟩] false [5,6,7,17,18,19] [7]) (.seq (.draw [
⟨some 24,.move (.t 5),none,0,[]⟩,
⟨some 25,.move (.t 5),none,1,[]⟩,
⟨some 26,.nilCheck (.t 25),none,2,[]⟩,
⟨some 27,.fieldAddr 0 (.t 26),none,3,[]⟩,
⟨some 28,.load 1 false (.t 27),none,4,[]⟩,
⟨some 29,.fieldAddr 1 (.t 7),none,5,[]⟩,
⟨some 30,.load 1 false (.t 29),none,6,[]⟩,
⟨some 31,.fieldAddr 2 (.t 7),none,7,[]⟩,
⟨some 32,.load 1 false (.t 31),none,8,[]⟩,
⟨some 33,.fieldAddr 3 (.t 7),none,9,[]⟩,
⟨some 34,.load 1 false (.t 33),none,10,[]⟩,
⟨some 35,.fieldAddr 4 (.t 7),none,11,[]⟩,
⟨some 36,.load 1 false (.t 35),none,12,[]⟩,
⟨some 37,.fieldAddr 5 (.t 7),none,13,[]⟩,
⟨some 38,.load 1 false (.t 37),none,14,[]⟩,
⟨some 39,.pcall 37 [(.t 38,.as)],none,15,[]⟩,
⟨some 40,.build [.p (.bool false),.p (.int .i64 0),.nils,.p (.str []),.p (.str []),.p (.str []),.p (.list [])] [(0,1,.c (.bool true)),(1,1,.t 30),(3,1,.t 32),(4,1,.t 34),(5,1,.t 36),(6,1,.t 39)],none,16,[]⟩,
⟨some 41,.row 7 [.t 40],none,17,[]⟩,
⟨some 42,.append true 1000 7 112 (.t 28) (.t 41),none,18,[]⟩,
⟨some 43,.nilCheck (.t 24),none,19,[]⟩,
⟨some 44,.fieldAddr 0 (.t 43),none,20,[]⟩,
⟨none,.store 1 false (.t 44) (.t 42),none,21,[]⟩] [5,6,7,17,18,19] [7]) (.seq (.draw [
⟨some 45,.move (.t 5),none,0,[]⟩,
⟨some 46,.nilCheck (.t 45),none,1,[]⟩,
⟨some 47,.fieldAddr 0 (.t 46),none,2,[]⟩,
⟨some 48,.load 1 false (.t 47),none,3,[]⟩,
⟨some 49,.fieldAddr 1 (.t 7),none,4,[]⟩,
⟨some 50,.load 1 false (.t 49),none,5,[]⟩,
⟨some 51,.move (.t 5),none,6,[]⟩,
⟨some 52,.nilCheck (.t 51),none,7,[]⟩,
⟨some 53,.fieldAddr 0 (.t 52),none,8,[]⟩,
⟨some 54,.load 1 false (.t 53),none,9,[]⟩,
⟨some 55,.fieldAddr 1 (.t 7),none,10,[]⟩,
⟨some 56,.load 1 false (.t 55),none,11,[]⟩,
⟨some 57,.indexAddr 7 (.t 54) (.t 56),none,12,[]⟩,
⟨some 58,.fieldAddr 2 (.t 57),none,13,[]⟩,
⟨some 59,.load 1 false (.t 58),none,14,[]⟩,
⟨some 60,.move (.t 6),none,15,[]⟩,
⟨some 61,.bin .add (.t 60) (.c (.int .i64 1)),none,16,[]⟩,
⟨some 62,.row 1 [.t 61],none,17,[]⟩,
⟨some 63,.append true 1001 1 8 (.t 59) (.t 62),none,18,[3,5]⟩,
⟨some 64,.indexAddr 7 (.t 48) (.t 50),none,19,[]⟩,
⟨some 65,.fieldAddr 2 (.t 64),none,20,[]⟩,
⟨none,.store 1 false (.t 65) (.t 63),none,21,[]⟩] [5,17,18,19] []) (.keep [5,17,18,19] [] .skip))))) (.keep [5,17,18,19] [] (.seq (.region [
⟨some 66,.bin .add (.t 19) (.c (.int .i64 1)),none,0,[]⟩,
⟨some 19,.move (.t 66),none,1,[]⟩] false [5,17,18,19] []) (.keep [5,17,18,19] [] .skip)))))))
def F12:LFunc:={ nparams:=1,results:=[.tmp 2,.tmp 3],pure:=false,body :=
 (.seq (.region [
⟨some 2,.move (.c (.nilp)),none,0,[]⟩,
⟨some 3,.move (.c (.int .i64 0)),none,1,[]⟩] false [0] []) (.seq (.region [
⟨some 8,.move (.t 0),none,0,[]⟩,
⟨some 9,.pcall 36 [(.t 8,.as)],none,1,[]⟩,
⟨some 4,.move (.t 9),none,2,[]⟩] false [0,4] []) (.seq (.region [
⟨some 10,.move (.t 4),none,0,[]⟩,
⟨some 11,.eq .i true (.t 10) (.c (.int .i64 0)),none,1,[]⟩] false [0,4,11] []) (.seq (.cond (.t 11) (.seq (.region [
⟨some 12,.move (.t 4),none,0,[]⟩,
⟨some 2,.move (.c (.nilp)),none,1,[]⟩,
⟨some 3,.move (.t 12),none,2,[]⟩] false [2,3] []) (.keep [2,3] [] .ret)) (.keep [0] [] .skip)) (.keep [0] [] (.seq (.region [
⟨some 13,.build [.p (.bool false),.p (.int .i64 0),.nils,.p (.str []),.p (.str []),.p (.str []),.p (.list [])] [(0,1,.c (.bool true)),(1,1,.c (.int .i64 (-1)))],none,0,[]⟩,
⟨some 14,.rowOwn true 14 7 [.t 13],none,1,[]⟩,
⟨some 15,.build [.nils] [(0,1,.t 14)],none,2,[]⟩,
⟨some 16,.box true 16 (.t 15),none,3,[]⟩,
⟨some 5,.move (.t 16),none,4,[]⟩] false [0,5] []) (.seq (.region [
⟨some 17,.move (.t 0),none,0,[]⟩,
⟨some 18,.len 1 (.t 17),none,1,[]⟩,
⟨some 19,.move (.c (.int .i64 0)),none,2,[]⟩] false [5,17,18,19] []) (.seq (.block 0 (.seq (.keep [5,17,18,19] [] (.loop B12x0)) (.keep [5] [] .skip))) (.keep [5] [] (.seq (.region [
⟨some 67,.move (.t 5),none,0,[]⟩,
⟨some 2,.move (.t 67),none,1,[]⟩,
⟨some 3,.move (.c (.int .i64 0)),none,2,[]⟩] false [2,3] []) (.keep [2,3] [] .ret))))))))))) }
theorem ok12:fnSoundB Go.Proofs.Tryz.prog 12 F12=true:=by decide +kernel
def B13x1:LCode :=
 (.seq (.region [
⟨some 48,.bin .lss (.t 47) (.t 46),none,0,[]⟩] false [0,3,10,11,46,47,48] []) (.seq (.cond (.t 48) (.keep [0,3,10,11,46,47] [] .skip) (.keep [0,10,11] [] (.exit 2))) (.keep [0,3,10,11,46,47] [] (.seq (.block 3 (.seq (.region [
⟨some 49,.move (.t 47),none,0,[]⟩,
⟨some 5,.move (.t 49),none,1,[]⟩] false [0,3,5,10,11,46,47] []) (.seq (.region [
⟨some 50,.move (.t 0),none,0,[]⟩,
⟨some 51,.move (.t 3),none,1,[]⟩,
⟨some 52,.indexAddr 6 (.t 50) (.t 51),none,2,[]⟩,
⟨some 53,.fieldAddr 3 (.t 52),none,3,[]⟩,
⟨some 54,.load 1 false (.t 53),none,4,[]⟩,
⟨some 55,.eq .s true (.t 54) (.c (.str [])),none,5,[]⟩,
⟨some 56,.move (.t 55),none,6,[]⟩,
⟨some 57,.move (.t 0),some (56,true),7,[]⟩,
⟨some 58,.move (.t 5),some (56,true),8,[]⟩,
⟨some 59,.indexAddr 6 (.t 57) (.t 58),some (56,true),9,[]⟩,
⟨some 60,.fieldAddr 1 (.t 59),some (56,true),10,[]⟩,
⟨some 61,.load 1 false (.t 60),some (56,true),11,[]⟩,
⟨some 62,.move (.t 0),some (56,true),12,[]⟩,
⟨some 63,.move (.t 3),some (56,true),13,[]⟩,
⟨some 64,.indexAddr 6 (.t 62) (.t 63),some (56,true),14,[]⟩,
⟨some 65,.fieldAddr 1 (.t 64),some (56,true),15,[]⟩,
⟨some 66,.load 1 false (.t 65),some (56,true),16,[]⟩,
⟨some 67,.eq .i false (.t 61) (.t 66),some (56,true),17,[]⟩,
⟨some 68,.pick (.t 56) (.t 67) (.c (.bool false)),none,18,[]⟩,
⟨some 69,.move (.t 68),none,19,[]⟩,
⟨some 70,.move (.t 0),some (69,true),20,[]⟩,
⟨some 71,.move (.t 5),some (69,true),21,[]⟩,
⟨some 72,.indexAddr 6 (.t 70) (.t 71),some (69,true),22,[]⟩,
⟨some 73,.fieldAddr 3 (.t 72),some (69,true),23,[]⟩,
⟨some 74,.load 1 false (.t 73),some (69,true),24,[]⟩,
⟨some 75,.move (.t 0),some (69,true),25,[]⟩,
⟨some 76,.move (.t 3),some (69,true),26,[]⟩,
⟨some 77,.indexAddr 6 (.t 75) (.t 76),some (69,true),27,[]⟩,
⟨some 78,.fieldAddr 3 (.t 77),some (69,true),28,[]⟩,
⟨some 79,.load 1 false (.t 78),some (69,true),29,[]⟩,
⟨some 80,.eq .s false (.t 74) (.t 79),some (69,true),30,[]⟩,
⟨some 81,.pick (.t 69) (.t 80) (.c (.bool false)),none,31,[]⟩] true [0,3,10,11,46,47,81] []) (.seq (.cond (.t 81) (.seq (.region [
⟨some 2,.move (.c (.int .i64 10)),none,0,[]⟩] false [2] []) (.keep [2] [] .ret)) (.keep [0,3,10,11,46,47] [] .skip)) (.keep [0,3,10,11,46,47] [] .skip))))) (.keep [0,3,10,11,46,47] [] (.seq (.region [
⟨some 82,.bin .add (.t 47) (.c (.int .i64 1)),none,0,[]⟩,
⟨some 47,.move (.t 82),none,1,[]⟩] false [0,3,10,11,46,47] []) (.keep [0,3,10,11,46,47] [] .skip)))))))
def B13x0:LCode :=
 (.seq (.region [
⟨some 12,.bin .lss (.t 11) (.t 10),none,0,[]⟩] false [0,10,11,12] []) (.seq (.cond (.t 12) (.keep [0,10,11] [] .skip) (.keep [] [] (.exit 0))) (.keep [0,10,11] [] (.seq (.block 1 (.seq (.region [
⟨some 13,.move (.t 11),none,0,[]⟩,
⟨some 3,.move (.t 13),none,1,[]⟩] false [0,3,10,11] []) (.seq (.region [
⟨some 14,.move (.t 3),none,0,[]⟩,
⟨some 15,.eq .i false (.t 14) (.c (.int .i64 4096)),none,1,[]⟩] false [0,3,10,11,15] []) (.seq (.cond (.t 15) (.seq (.region [
⟨some 2,.move (.c (.int .i64 12)),none,0,[]⟩] false [2] []) (.keep [2] [] .ret)) (.keep [0,3,10,11] [] .skip)) (.keep [0,3,10,11] [] (.seq (.region [
⟨some 16,.move (.t 0),none,0,[]⟩,
⟨some 17,.move (.t 3),none,1,[]⟩,
⟨some 18,.bin .add (.t 17) (.c (.int .i64 1)),none,2,[]⟩,
⟨some 19,.pcall 39 [(.t 16,.as),(.t 18,.as)],none,3,[]⟩,
⟨some 20,.bin .gtr (.t 19) (.c (.int .i64 64)),none,4,[]⟩] false [0,3,10,11,20] []) (.seq (.cond (.t 20) (.seq (.region [
⟨some 2,.move (.c (.int .i64 11)),none,0,[]⟩] false [2] []) (.keep [2] [] .ret)) (.keep [0,3,10,11] [] .skip)) (.keep [0,3,10,11] [] (.seq (.region [
⟨some 21,.move (.t 0),none,0,[]⟩,
⟨some 22,.move (.t 3),none,1,[]⟩,
⟨some 23,.indexAddr 6 (.t 21) (.t 22),none,2,[]⟩,
⟨some 24,.fieldAddr 2 (.t 23),none,3,[]⟩,
⟨some 25,.load 1 false (.t 24),none,4,[]⟩,
⟨some 26,.move (.t 0),none,5,[]⟩,
⟨some 27,.move (.t 3),none,6,[]⟩,
⟨some 28,.indexAddr 6 (.t 26) (.t 27),none,7,[]⟩,
⟨some 29,.fieldAddr 3 (.t 28),none,8,[]⟩,
⟨some 30,.load 1 false (.t 29),none,9,[]⟩,
⟨some 31,.move (.t 0),none,10,[]⟩,
⟨some 32,.move (.t 3),none,11,[]⟩,
⟨some 33,.indexAddr 6 (.t 31) (.t 32),none,12,[]⟩,
⟨some 34,.fieldAddr 4 (.t 33),none,13,[]⟩,
⟨some 35,.load 1 false (.t 34),none,14,[]⟩,
⟨some 36,.move (.t 0),none,15,[]⟩,
⟨some 37,.move (.t 3),none,16,[]⟩,
⟨some 38,.indexAddr 6 (.t 36) (.t 37),none,17,[]⟩,
⟨some 39,.fieldAddr 5 (.t 38),none,18,[]⟩,
⟨some 40,.load 1 false (.t 39),none,19,[]⟩,
⟨some 41,.build [.p (.str []),.p (.str []),.p (.str []),.p (.list []),.nils] [(0,1,.t 25),(1,1,.t 30),(2,1,.t 35),(3,1,.t 40)],none,20,[]⟩,
⟨some 42,.pcall 40 [(.t 41,.look)],none,21,[]⟩,
⟨some 4,.move (.t 42),none,22,[]⟩] true [0,3,4,10,11] []) (.seq (.region [
⟨some 43,.move (.t 4),none,0,[]⟩,
⟨some 44,.eq .i true (.t 43) (.c (.int .i64 0)),none,1,[]⟩] false [0,3,4,10,11,44] []) (.seq (.cond (.t 44) (.seq (.region [
⟨some 45,.move (.t 4),none,0,[]⟩,
⟨some 2,.move (.t 45),none,1,[]⟩] false [2] []) (.keep [2] [] .ret)) (.keep [0,3,10,11] [] .skip)) (.keep [0,3,10,11] [] (.seq (.region [
⟨some 46,.move (.t 3),none,0,[]⟩,
⟨some 47,.move (.c (.int .i64 0)),none,1,[]⟩] false [0,3,10,11,46,47] []) (.seq (.block 2 (.seq (.keep [0,3,10,11,46,47] [] (.loop B13x1)) (.keep [0,10,11] [] .skip))) (.keep [0,10,11] [] .skip))))))))))))))) (.keep [0,10,11] [] (.seq (.region [
⟨some 83,.bin .add (.t 11) (.c (.int .i64 1)),none,0,[]⟩,
⟨some 11,.move (.t 83),none,1,[]⟩] false [0,10,11] []) (.keep [0,10,11] [] .skip)))))))
def F13:LFunc:={ nparams:=1,results:=[.tmp 2],pure:=true,body :=
 (.seq (.region [
⟨some 2,.move (.c (.int .i64 0)),none,0,[]⟩] false [0] []) (.seq (.region [
⟨some 6,.move (.t 0),none,0,[]⟩,
⟨some 7,.pcall 38 [(.t 6,.as)],none,1,[]⟩,
⟨some 8,.un .not (.t 7),none,2,[]⟩] false [0,8] []) (.seq (.cond (.t 8) (.seq (.region [
⟨some 2,.move (.c (.int .i64 2)),none,0,[]⟩] false [2] []) (.keep [2] [] .ret)) (.keep [0] [] .skip)) (.keep [0] [] (.seq (.region [
⟨some 9,.move (.t 0),none,0,[]⟩,
⟨some 10,.len 1 (.t 9),none,1,[]⟩,
⟨some 11,.move (.c (.int .i64 0)),none,2,[]⟩] false [0,10,11] []) (.seq (.block 0 (.seq (.keep [0,10,11] [] (.loop B13x0)) (.keep [] [] .skip))) (.keep [] [] (.seq (.region [
⟨some 2,.move (.c (.int .i64 0)),none,0,[]⟩] false [2] []) (.keep [2] [] .ret))))))))) }
theorem ok13:fnSoundB Go.Proofs.Tryz.prog 13 F13=true:=by decide +kernel
def B14x0:LCode :=
 (.seq (.region [
⟨some 22,.bin .lss (.t 21) (.t 20),none,0,[]⟩] false [0,1,19,20,21,22] []) (.seq (.cond (.t 22) (.keep [0,1,19,20,21] [] .skip) (.keep [1] [] (.exit 0))) (.keep [0,1,19,20,21] [] (.seq (.block 1 (.seq (.region [
⟨some 23,.move (.t 21),none,0,[]⟩,
⟨some 24,.indexAddr 9 (.t 19) (.t 21),none,1,[]⟩,
⟨some 25,.load 9 true (.t 24),none,2,[]⟩,
⟨some 7,.alloc false 7 [.p (.int .i64 0),.p (.int .i64 0),.p (.int .i64 0),.p (.int .i64 0),.p (.str []),.p (.str []),.p (.str []),.p (.str []),.p (.list [])] [],none,3,[]⟩,
⟨some 6,.move (.t 23),none,4,[]⟩,
⟨none,.store 9 true (.t 7) (.t 25),none,5,[]⟩] false [0,1,6,7,19,20,21] [7]) (.seq (.region [
⟨some 26,.move (.t 0),none,0,[]⟩,
⟨some 27,.load 9 true (.t 7),none,1,[]⟩,
⟨some 28,.call 15 [(.t 26,.as),(.t 27,.as)],none,2,[]⟩,
⟨some 8,.move (.t 28),none,3,[]⟩] false [0,1,6,8,19,20,21] []) (.seq (.region [
⟨some 29,.move (.t 8),none,0,[]⟩,
⟨some 30,.eq .i true (.t 29) (.c (.int .i64 0)),none,1,[]⟩] false [0,1,6,8,19,20,21,30] []) (.seq (.cond (.t 30) (.seq (.region [
⟨some 31,.move (.t 6),none,0,[]⟩,
⟨some 32,.move (.t 8),none,1,[]⟩,
⟨some 4,.move (.t 31),none,2,[]⟩,
⟨some 5,.move (.t 32),none,3,[]⟩] false [4,5] []) (.keep [4,5] [] .ret)) (.keep [0,1,19,20,21] [] .skip)) (.keep [0,1,19,20,21] [] .skip)))))) (.keep [0,1,19,20,21] [] (.seq (.region [
⟨some 33,.bin .add (.t 21) (.c (.int .i64 1)),none,0,[]⟩,
⟨some 21,.move (.t 33),none,1,[]⟩] false [0,1,19,20,21] []) (.keep [0,1,19,20,21] [] .skip)))))))
def F14:LFunc:={ nparams:=2,results:=[.tmp 4,.tmp 5],pure:=false,body :=
 (.seq (.region [
⟨some 4,.move (.c (.int .i64 0)),none,0,[]⟩,
⟨some 5,.move (.c (.int .i64 0)),none,1,[]⟩] false [0,1] []) (.seq (.region [
⟨some 9,.move (.t 0),none,0,[]⟩,
⟨some 10,.eq .ptr false (.t 9) (.c (.nilp)),none,1,[]⟩,
⟨some 11,.move (.t 10),none,2,[]⟩,
⟨some 12,.move (.t 0),some (11,false),3,[]⟩,
⟨some 13,.nilCheck (.t 12),some (11,false),4,[]⟩,
⟨some 14,.fieldAddr 0 (.t 13),some (11,false),5,[]⟩,
⟨some 15,.load 1 false (.t 14),some (11,false),6,[]⟩,
⟨some 16,.len 1 (.t 15),some (11,false),7,[]⟩,
⟨some 17,.eq .i false (.t 16) (.c (.int .i64 0)),some (11,false),8,[]⟩,
⟨some 18,.pick (.t 11) (.c (.bool true)) (.t 17),none,9,[]⟩] false [0,1,18] []) (.seq (.cond (.t 18) (.seq (.region [
⟨some 4,.move (.c (.int .i64 0)),none,0,[]⟩,
⟨some 5,.move (.c (.int .i64 1)),none,1,[]⟩] false [4,5] []) (.keep [4,5] [] .ret)) (.keep [0,1] [] .skip)) (.keep [0,1] [] (.seq (.region [
⟨some 19,.move (.t 1),none,0,[]⟩,
⟨some 20,.len 1 (.t 19),none,1,[]⟩,
⟨some 21,.move (.c (.int .i64 0)),none,2,[]⟩] false [0,1,19,20,21] []) (.seq (.block 0 (.seq (.keep [0,1,19,20,21] [] (.loop B14x0)) (.keep [1] [] .skip))) (.keep [1] [] (.seq (.region [
⟨some 34,.move (.t 1),none,0,[]⟩,
⟨some 35,.len 1 (.t 34),none,1,[]⟩,
⟨some 4,.move (.t 35),none,2,[]⟩,
⟨some 5,.move (.c (.int .i64 0)),none,3,[]⟩] false [4,5] []) (.keep [4,5] [] .ret))))))))) }
theorem ok14:fnSoundB Go.Proofs.Tryz.prog 14 F14=true:=by decide +kernel
def F15:LFunc:={ nparams:=2,results:=[.tmp 4],pure:=false,body :=
 (.seq (.region [
⟨some 3,.box false 3 (.t 1),none,0,[]⟩,
⟨some 4,.move (.c (.int .i64 0)),none,1,[]⟩] false [0,3] [3]) (.seq (.region [
⟨some 7,.move (.t 0),none,0,[]⟩,
⟨some 8,.eq .ptr false (.t 7) (.c (.nilp)),none,1,[]⟩,
⟨some 9,.move (.t 8),none,2,[]⟩,
⟨some 10,.move (.t 0),some (9,false),3,[]⟩,
⟨some 11,.nilCheck (.t 10),some (9,false),4,[]⟩,
⟨some 12,.fieldAddr 0 (.t 11),some (9,false),5,[]⟩,
⟨some 13,.load 1 false (.t 12),some (9,false),6,[]⟩,
⟨some 14,.len 1 (.t 13),some (9,false),7,[]⟩,
⟨some 15,.eq .i false (.t 14) (.c (.int .i64 0)),some (9,false),8,[]⟩,
⟨some 16,.pick (.t 9) (.c (.bool true)) (.t 15),none,9,[]⟩] false [0,3,16] [3]) (.seq (.cond (.t 16) (.seq (.region [
⟨some 4,.move (.c (.int .i64 1)),none,0,[]⟩] false [4] []) (.keep [4] [] .ret)) (.keep [0,3] [3] .skip)) (.keep [0,3] [3] (.seq (.region [
⟨some 17,.load 9 true (.t 3),none,0,[]⟩,
⟨some 18,.pcall 41 [(.t 17,.as)],none,1,[]⟩,
⟨some 5,.move (.t 18),none,2,[]⟩] false [0,3,5] [3]) (.seq (.region [
⟨some 19,.move (.t 5),none,0,[]⟩,
⟨some 20,.eq .i true (.t 19) (.c (.int .i64 0)),none,1,[]⟩] false [0,3,5,20] [3]) (.seq (.cond (.t 20) (.seq (.region [
⟨some 21,.move (.t 5),none,0,[]⟩,
⟨some 4,.move (.t 21),none,1,[]⟩] false [4] []) (.keep [4] [] .ret)) (.keep [0,3] [3] .skip)) (.keep [0,3] [3] (.seq (.region [
⟨some 22,.fieldAddr 0 (.t 3),none,0,[]⟩,
⟨some 23,.load 1 false (.t 22),none,1,[]⟩,
⟨some 24,.eq .i false (.t 23) (.c (.int .i64 1)),none,2,[]⟩] false [0,3,24] [3]) (.seq (.cond (.t 24) (.seq (.draw [
⟨some 25,.move (.t 0),none,0,[]⟩,
⟨some 26,.move (.t 0),none,1,[]⟩,
⟨some 27,.nilCheck (.t 26),none,2,[]⟩,
⟨some 28,.fieldAddr 0 (.t 27),none,3,[]⟩,
⟨some 29,.load 1 false (.t 28),none,4,[]⟩,
⟨some 30,.fieldAddr 4 (.t 3),none,5,[]⟩,
⟨some 31,.load 1 false (.t 30),none,6,[]⟩,
⟨some 32,.fieldAddr 5 (.t 3),none,7,[]⟩,
⟨some 33,.load 1 false (.t 32),none,8,[]⟩,
⟨some 34,.fieldAddr 7 (.t 3),none,9,[]⟩,
⟨some 35,.load 1 false (.t 34),none,10,[]⟩,
⟨some 36,.fieldAddr 8 (.t 3),none,11,[]⟩,
⟨some 37,.load 1 false (.t 36),none,12,[]⟩,
⟨some 38,.pcall 37 [(.t 37,.as)],none,13,[]⟩,
⟨some 39,.build [.p (.bool false),.p (.int .i64 0),.nils,.p (.str []),.p (.str []),.p (.str []),.p (.list [])] [(0,1,.c (.bool true)),(1,1,.c (.int .i64 (-1))),(3,1,.t 31),(4,1,.t 33),(5,1,.t 35),(6,1,.t 38)],none,14,[]⟩,
⟨some 40,.row 7 [.t 39],none,15,[]⟩,
⟨some 41,.append true 1000 7 112 (.t 29) (.t 40),none,16,[]⟩,
⟨some 42,.nilCheck (.t 25),none,17,[]⟩,
⟨some 43,.fieldAddr 0 (.t 42),none,18,[]⟩,
⟨none,.store 1 false (.t 43) (.t 41),none,19,[]⟩] [] []) (.seq (.region [
⟨some 4,.move (.c (.int .i64 0)),none,0,[]⟩] false [4] []) (.keep [4] [] .ret))) (.keep [0,3] [3] .skip)) (.keep [0,3] [3] (.seq (.region [
⟨some 44,.fieldAddr 1 (.t 3),none,0,[]⟩,
⟨some 45,.load 1 false (.t 44),none,1,[]⟩,
⟨some 46,.eq .i false (.t 45) (.c (.int .i64 0)),none,2,[]⟩] false [0,3,46] [3]) (.seq (.cond (.t 46) (.seq (.region [
⟨some 4,.move (.c (.int .i64 14)),none,0,[]⟩] false [4] []) (.keep [4] [] .ret)) (.keep [0,3] [3] .skip)) (.keep [0,3] [3] (.seq (.region [
⟨some 47,.fieldAddr 0 (.t 3),none,0,[]⟩,
⟨some 48,.load 1 false (.t 47),none,1,[]⟩] false [0,3,48] [3]) (.seq (.block 0 (.seq (.region [
⟨some 50,.eq .i false (.t 48) (.c (.int .i64 2)),none,0,[]⟩,
⟨some 49,.move (.t 50),none,1,[]⟩] false [0,3,48,49] [3]) (.seq (.cond (.t 49) (.seq (.region [
⟨some 51,.move (.t 0),none,0,[]⟩,
⟨some 52,.load 9 true (.t 3),none,1,[]⟩,
⟨some 53,.call 42 [(.t 51,.as),(.t 52,.as)],none,2,[]⟩,
⟨some 4,.move (.t 53),none,3,[]⟩] false [4] []) (.keep [4] [] .ret)) (.seq (.region [
⟨some 55,.eq .i false (.t 48) (.c (.int .i64 3)),none,0,[]⟩,
⟨some 54,.move (.t 55),none,1,[]⟩] false [0,3,54] [3]) (.seq (.cond (.t 54) (.seq (.region [
⟨some 56,.move (.t 0),none,0,[]⟩,
⟨some 57,.load 9 true (.t 3),none,1,[]⟩,
⟨some 58,.call 43 [(.t 56,.as),(.t 57,.as)],none,2,[]⟩,
⟨some 4,.move (.t 58),none,3,[]⟩] false [4] []) (.keep [4] [] .ret)) (.keep [0,3] [3] .skip)) (.keep [0,3] [3] .skip)))) (.keep [0,3] [3] .skip)))) (.keep [0,3] [3] (.seq (.region [
⟨some 59,.move (.t 0),none,0,[]⟩,
⟨some 60,.fieldAddr 1 (.t 3),none,1,[]⟩,
⟨some 61,.load 1 false (.t 60),none,2,[]⟩,
⟨some 62,.call 44 [(.t 59,.as),(.t 61,.as)],none,3,[]⟩,
⟨some 6,.move (.t 62),none,4,[]⟩] false [0,3,6] [3]) (.seq (.region [
⟨some 63,.move (.t 6),none,0,[]⟩,
⟨some 64,.eq .i true (.t 63) (.c (.int .i64 0)),none,1,[]⟩] false [0,3,6,64] [3]) (.seq (.cond (.t 64) (.seq (.region [
⟨some 65,.move (.t 6),none,0,[]⟩,
⟨some 4,.move (.t 65),none,1,[]⟩] false [4] []) (.keep [4] [] .ret)) (.keep [0,3] [3] .skip)) (.keep [0,3] [3] (.seq (.region [
⟨some 66,.fieldAddr 0 (.t 3),none,0,[]⟩,
⟨some 67,.load 1 false (.t 66),none,1,[]⟩,
⟨some 68,.eq .i false (.t 67) (.c (.int .i64 4)),none,2,[]⟩] false [0,3,68] [3]) (.seq (.cond (.t 68) (.seq (.region [
⟨some 69,.move (.t 0),none,0,[]⟩,
⟨some 70,.fieldAddr 1 (.t 3),none,1,[]⟩,
⟨some 71,.load 1 false (.t 70),none,2,[]⟩,
⟨some 72,.call 45 [(.t 69,.as),(.t 71,.as)],none,3,[]⟩] false [0,3] [3]) (.seq (.region [
⟨some 73,.move (.t 0),none,0,[]⟩,
⟨some 74,.fieldAddr 1 (.t 3),none,1,[]⟩,
⟨some 75,.load 1 false (.t 74),none,2,[]⟩,
⟨some 76,.call 46 [(.t 73,.as),(.t 75,.as)],none,3,[]⟩] false [] []) (.seq (.region [
⟨some 4,.move (.c (.int .i64 0)),none,0,[]⟩] false [4] []) (.keep [4] [] .ret)))) (.keep [0,3] [3] .skip)) (.keep [0,3] [3] (.seq (.draw [
⟨some 77,.move (.t 0),none,0,[]⟩,
⟨some 78,.move (.t 0),none,1,[]⟩,
⟨some 79,.nilCheck (.t 78),none,2,[]⟩,
⟨some 80,.fieldAddr 0 (.t 79),none,3,[]⟩,
⟨some 81,.load 1 false (.t 80),none,4,[]⟩,
⟨some 82,.fieldAddr 1 (.t 3),none,5,[]⟩,
⟨some 83,.load 1 false (.t 82),none,6,[]⟩,
⟨some 84,.indexAddr 7 (.t 81) (.t 83),none,7,[]⟩,
⟨some 85,.load 9 true (.t 3),none,8,[]⟩,
⟨some 86,.call 47 [(.t 77,.as),(.t 84,.as),(.t 85,.as)],none,9,[]⟩,
⟨some 4,.move (.t 86),none,10,[]⟩] [4] []) (.keep [4] [] .ret)))))))))))))))))))))))))) }
theorem ok15:fnSoundB Go.Proofs.Tryz.prog 15 F15=true:=by decide +kernel
def F16:LFunc:={ nparams:=1,results:=[.tmp 2],pure:=false,body :=
 (.seq (.region [
⟨some 2,.move (.c (.list [])),none,0,[]⟩] false [0] []) (.seq (.region [
⟨some 3,.move (.t 0),none,0,[]⟩,
⟨some 4,.eq .ptr false (.t 3) (.c (.nilp)),none,1,[]⟩,
⟨some 5,.move (.t 4),none,2,[]⟩,
⟨some 6,.move (.t 0),some (5,false),3,[]⟩,
⟨some 7,.nilCheck (.t 6),some (5,false),4,[]⟩,
⟨some 8,.fieldAddr 0 (.t 7),some (5,false),5,[]⟩,
⟨some 9,.load 1 false (.t 8),some (5,false),6,[]⟩,
⟨some 10,.len 1 (.t 9),some (5,false),7,[]⟩,
⟨some 11,.eq .i false (.t 10) (.c (.int .i64 0)),some (5,false),8,[]⟩,
⟨some 12,.pick (.t 5) (.c (.bool true)) (.t 11),none,9,[]⟩] false [0,12] []) (.seq (.cond (.t 12) (.seq (.region [
⟨some 2,.move (.c (.list [])),none,0,[]⟩] false [2] []) (.keep [2] [] .ret)) (.keep [0] [] .skip)) (.keep [0] [] (.seq (.region [
⟨some 13,.move (.t 0),none,0,[]⟩,
⟨some 14,.call 48 [(.t 13,.as),(.c (.list []),.fresh 6),(.c (.int .i64 0),.as),(.c (.int .i64 0),.as)],none,1,[]⟩,
⟨some 2,.move (.t 14),none,2,[]⟩] false [2] []) (.keep [2] [] .ret)))))) }
theorem ok16:fnSoundB Go.Proofs.Tryz.prog 16 F16=true:=by decide +kernel
def B17x0:LCode :=
 (.seq (.region [
⟨some 15,.bin .lss (.t 14) (.t 13),none,0,[]⟩] false [3,12,13,14,15] []) (.seq (.cond (.t 15) (.keep [3,12,13,14] [] .skip) (.keep [3] [] (.exit 0))) (.keep [3,12,13,14] [] (.seq (.block 1 (.seq (.region [
⟨some 16,.move (.t 14),none,0,[]⟩,
⟨some 17,.indexAddr 7 (.t 12) (.t 14),none,1,[]⟩,
⟨some 18,.load 7 true (.t 17),none,2,[]⟩,
⟨some 5,.alloc false 5 [.p (.bool false),.p (.int .i64 0),.p (.list []),.p (.str []),.p (.str []),.p (.str []),.p (.list [])] [],none,3,[]⟩,
⟨some 4,.move (.t 16),none,4,[]⟩,
⟨none,.store 7 true (.t 5) (.t 18),none,5,[]⟩] false [3,4,5,12,13,14] [5]) (.seq (.region [
⟨some 19,.move (.t 4),none,0,[]⟩,
⟨some 20,.bin .gtr (.t 19) (.c (.int .i64 0)),none,1,[]⟩,
⟨some 21,.move (.t 20),none,2,[]⟩,
⟨some 22,.fieldAddr 0 (.t 5),some (21,true),3,[]⟩,
⟨some 23,.load 1 false (.t 22),some (21,true),4,[]⟩,
⟨some 24,.pick (.t 21) (.t 23) (.c (.bool false)),none,5,[]⟩,
⟨some 25,.move (.t 24),none,6,[]⟩,
⟨some 26,.fieldAddr 1 (.t 5),some (25,true),7,[]⟩,
⟨some 27,.load 1 false (.t 26),some (25,true),8,[]⟩,
⟨some 28,.bin .lss (.t 27) (.c (.int .i64 0)),some (25,true),9,[]⟩,
⟨some 29,.pick (.t 25) (.t 28) (.c (.bool false)),none,10,[]⟩] false [3,4,12,13,14,29] []) (.seq (.cond (.t 29) (.seq (.region [
⟨some 30,.move (.t 3),none,0,[]⟩,
⟨some 31,.move (.t 4),none,1,[]⟩,
⟨some 32,.row 1 [.t 31],none,2,[]⟩,
⟨some 33,.append true 1001 1 8 (.t 30) (.t 32),none,3,[]⟩,
⟨some 3,.move (.t 33),none,4,[]⟩] false [3,12,13,14] []) (.keep [3,12,13,14] [] .skip)) (.keep [3,12,13,14] [] .skip)) (.keep [3,12,13,14] [] .skip))))) (.keep [3,12,13,14] [] (.seq (.region [
⟨some 34,.bin .add (.t 14) (.c (.int .i64 1)),none,0,[]⟩,
⟨some 14,.move (.t 34),none,1,[]⟩] false [3,12,13,14] []) (.keep [3,12,13,14] [] .skip)))))))
def F17:LFunc:={ nparams:=1,results:=[.tmp 2],pure:=false,body :=
 (.seq (.region [
⟨some 2,.move (.c (.list [])),none,0,[]⟩] false [0] []) (.seq (.region [
⟨some 3,.nilown true 1000 1,none,0,[]⟩] false [0,3] []) (.seq (.region [
⟨some 6,.move (.t 0),none,0,[]⟩,
⟨some 7,.eq .ptr false (.t 6) (.c (.nilp)),none,1,[]⟩] false [0,3,7] []) (.seq (.cond (.t 7) (.seq (.region [
⟨some 8,.move (.t 3),none,0,[]⟩,
⟨some 2,.move (.t 8),none,1,[]⟩] false [2] []) (.keep [2] [] .ret)) (.keep [0,3] [] .skip)) (.keep [0,3] [] (.seq (.region [
⟨some 9,.move (.t 0),none,0,[]⟩,
⟨some 10,.nilCheck (.t 9),none,1,[]⟩,
⟨some 11,.fieldAddr 0 (.t 10),none,2,[]⟩,
⟨some 12,.load 1 false (.t 11),none,3,[]⟩,
⟨some 13,.len 1 (.t 12),none,4,[]⟩,
⟨some 14,.move (.c (.int .i64 0)),none,5,[]⟩] false [3,12,13,14] []) (.seq (.block 0 (.seq (.keep [3,12,13,14] [] (.loop B17x0)) (.keep [3] [] .skip))) (.keep [3] [] (.seq (.region [
⟨some 35,.move (.t 3),none,0,[]⟩,
⟨some 2,.move (.t 35),none,1,[]⟩] false [2] []) (.keep [2] [] .ret)))))))))) }
theorem ok17:fnSoundB Go.Proofs.Tryz.prog 17 F17=true:=by decide +kernel
def F18:LFunc:={ nparams:=1,results:=[.tmp 2],pure:=false,body :=
 (.seq (.region [
⟨some 2,.move (.c (.int .i64 0)),none,0,[]⟩] false [0] []) (.seq (.region [
⟨some 3,.move (.t 0),none,0,[]⟩,
⟨some 4,.eq .ptr false (.t 3) (.c (.nilp)),none,1,[]⟩] false [0,4] []) (.seq (.cond (.t 4) (.seq (.region [
⟨some 2,.move (.c (.int .i64 0)),none,0,[]⟩] false [2] []) (.keep [2] [] .ret)) (.keep [0] [] .skip)) (.keep [0] [] (.seq (.region [
⟨some 5,.move (.t 0),none,0,[]⟩,
⟨some 6,.nilCheck (.t 5),none,1,[]⟩,
⟨some 7,.fieldAddr 0 (.t 6),none,2,[]⟩,
⟨some 8,.load 1 false (.t 7),none,3,[]⟩,
⟨some 9,.len 1 (.t 8),none,4,[]⟩,
⟨some 2,.move (.t 9),none,5,[]⟩] false [2] []) (.keep [2] [] .ret)))))) }
theorem ok18:fnSoundB Go.Proofs.Tryz.prog 18 F18=true:=by decide +kernel
def B19x0:LCode :=
 (.seq (.region [
⟨some 10,.bin .lss (.t 9) (.t 8),none,0,[]⟩] false [0,3,8,9,10] []) (.seq (.cond (.t 10) (.keep [0,3,8,9] [] .skip) (.keep [0,3] [] (.exit 0))) (.keep [0,3,8,9] [] (.seq (.block 1 (.seq (.region [
⟨some 11,.move (.t 9),none,0,[]⟩,
⟨some 4,.move (.t 11),none,1,[]⟩] false [0,3,4,8,9] []) (.seq (.region [
⟨some 12,.move (.t 0),none,0,[]⟩,
⟨some 13,.move (.t 4),none,1,[]⟩,
⟨some 14,.indexAddr 6 (.t 12) (.t 13),none,2,[]⟩,
⟨some 15,.load 6 true (.t 14),none,3,[]⟩,
⟨some 5,.alloc false 5 [.p (.int .i64 0),.p (.int .i64 0),.p (.str []),.p (.str []),.p (.str []),.p (.list [])] [],none,4,[]⟩,
⟨none,.store 6 true (.t 5) (.t 15),none,5,[]⟩] false [0,3,4,5,8,9] [5]) (.seq (.draw [
⟨some 16,.move (.t 3),none,0,[]⟩,
⟨some 17,.move (.t 3),none,1,[]⟩,
⟨some 18,.nilCheck (.t 17),none,2,[]⟩,
⟨some 19,.fieldAddr 0 (.t 18),none,3,[]⟩,
⟨some 20,.load 1 false (.t 19),none,4,[]⟩,
⟨some 21,.move (.t 4),none,5,[]⟩,
⟨some 22,.bin .add (.t 21) (.c (.int .i64 1)),none,6,[]⟩,
⟨some 23,.fieldAddr 1 (.t 5),none,7,[]⟩,
⟨some 24,.load 1 false (.t 23),none,8,[]⟩,
⟨some 25,.fieldAddr 2 (.t 5),none,9,[]⟩,
⟨some 26,.load 1 false (.t 25),none,10,[]⟩,
⟨some 27,.fieldAddr 3 (.t 5),none,11,[]⟩,
⟨some 28,.load 1 false (.t 27),none,12,[]⟩,
⟨some 29,.fieldAddr 4 (.t 5),none,13,[]⟩,
⟨some 30,.load 1 false (.t 29),none,14,[]⟩,
⟨some 31,.fieldAddr 5 (.t 5),none,15,[]⟩,
⟨some 32,.load 1 false (.t 31),none,16,[]⟩,
⟨some 33,.build [.p (.int .i64 0),.p (.int .i64 0),.nils,.p (.str []),.p (.str []),.p (.str []),.p (.list [])] [(0,1,.t 22),(1,1,.t 24),(3,1,.t 26),(4,1,.t 28),(5,1,.t 30),(6,1,.t 32)],none,17,[]⟩,
⟨some 34,.row 7 [.t 33],none,18,[]⟩,
⟨some 35,.append true 1000 7 112 (.t 20) (.t 34),none,19,[]⟩,
⟨some 36,.nilCheck (.t 16),none,20,[]⟩,
⟨some 37,.fieldAddr 0 (.t 36),none,21,[]⟩,
⟨none,.store 1 false (.t 37) (.t 35),none,22,[]⟩] [0,3,4,5,8,9] [5]) (.seq (.draw [
⟨some 38,.move (.t 3),none,0,[]⟩,
⟨some 39,.nilCheck (.t 38),none,1,[]⟩,
⟨some 40,.fieldAddr 0 (.t 39),none,2,[]⟩,
⟨some 41,.load 1 false (.t 40),none,3,[]⟩,
⟨some 42,.fieldAddr 1 (.t 5),none,4,[]⟩,
⟨some 43,.load 1 false (.t 42),none,5,[]⟩,
⟨some 44,.move (.t 3),none,6,[]⟩,
⟨some 45,.nilCheck (.t 44),none,7,[]⟩,
⟨some 46,.fieldAddr 0 (.t 45),none,8,[]⟩,
⟨some 47,.load 1 false (.t 46),none,9,[]⟩,
⟨some 48,.fieldAddr 1 (.t 5),none,10,[]⟩,
⟨some 49,.load 1 false (.t 48),none,11,[]⟩,
⟨some 50,.indexAddr 7 (.t 47) (.t 49),none,12,[]⟩,
⟨some 51,.fieldAddr 2 (.t 50),none,13,[]⟩,
⟨some 52,.load 1 false (.t 51),none,14,[]⟩,
⟨some 53,.move (.t 4),none,15,[]⟩,
⟨some 54,.bin .add (.t 53) (.c (.int .i64 1)),none,16,[]⟩,
⟨some 55,.row 1 [.t 54],none,17,[]⟩,
⟨some 56,.append true 1001 1 8 (.t 52) (.t 55),none,18,[3,5]⟩,
⟨some 57,.indexAddr 7 (.t 41) (.t 43),none,19,[]⟩,
⟨some 58,.fieldAddr 2 (.t 57),none,20,[]⟩,
⟨none,.store 1 false (.t 58) (.t 56),none,21,[]⟩] [0,3,8,9] []) (.keep [0,3,8,9] [] .skip)))))) (.keep [0,3,8,9] [] (.seq (.region [
⟨some 59,.bin .add (.t 9) (.c (.int .i64 1)),none,0,[]⟩,
⟨some 9,.move (.t 59),none,1,[]⟩] false [0,3,8,9] []) (.keep [0,3,8,9] [] .skip)))))))
def F19:LFunc:={ nparams:=1,results:=[.tmp 2],pure:=false,body :=
 (.seq (.region [
⟨some 2,.move (.c (.nilp)),none,0,[]⟩] false [0] []) (.seq (.region [
⟨some 6,.call 49 [(.c (.int .i64 1),.as)],none,0,[]⟩,
⟨some 3,.move (.t 6),none,1,[]⟩] false [0,3] []) (.seq (.region [
⟨some 7,.move (.t 0),none,0,[]⟩,
⟨some 8,.len 1 (.t 7),none,1,[]⟩,
⟨some 9,.move (.c (.int .i64 0)),none,2,[]⟩] false [0,3,8,9] []) (.seq (.block 0 (.seq (.keep [0,3,8,9] [] (.loop B19x0)) (.keep [0,3] [] .skip))) (.keep [0,3] [] (.seq (.region [
⟨some 60,.move (.t 3),none,0,[]⟩,
⟨some 61,.move (.t 0),none,1,[]⟩,
⟨some 62,.len 1 (.t 61),none,2,[]⟩,
⟨some 63,.bin .add (.t 62) (.c (.int .i64 1)),none,3,[]⟩,
⟨some 64,.nilCheck (.t 60),none,4,[]⟩,
⟨some 65,.fieldAddr 1 (.t 64),none,5,[]⟩,
⟨none,.store 1 false (.t 65) (.t 63),none,6,[]⟩] false [3] []) (.seq (.region [
⟨some 66,.move (.t 3),none,0,[]⟩,
⟨some 2,.move (.t 66),none,1,[]⟩] false [2] []) (.keep [2] [] .ret)))))))) }
theorem ok19:fnSoundB Go.Proofs.Tryz.prog 19 F19=true:=by decide +kernel
def B20x0:LCode :=
 (.seq (.region [
⟨some 11,.bin .lss (.t 10) (.t 9),none,0,[]⟩] false [0,1,9,10,11] []) (.seq (.cond (.t 11) (.keep [0,1,9,10] [] .skip) (.keep [1] [] (.exit 0))) (.keep [0,1,9,10] [] (.seq (.block 1 (.seq (.region [
⟨some 12,.move (.t 10),none,0,[]⟩,
⟨some 6,.move (.t 12),none,1,[]⟩] false [0,1,6,9,10] []) (.seq (.region [
⟨some 13,.move (.t 0),none,0,[]⟩,
⟨some 14,.move (.t 1),none,1,[]⟩,
⟨some 15,.move (.t 6),none,2,[]⟩,
⟨some 16,.indexAddr 9 (.t 14) (.t 15),none,3,[]⟩,
⟨some 17,.load 9 true (.t 16),none,4,[]⟩,
⟨some 18,.call 25 [(.t 13,.as),(.t 17,.as)],none,5,[]⟩,
⟨some 7,.move (.t 18),none,6,[]⟩] false [0,1,6,7,9,10] []) (.seq (.region [
⟨some 19,.move (.t 7),none,0,[]⟩,
⟨some 20,.eq .i true (.t 19) (.c (.int .i64 0)),none,1,[]⟩] false [0,1,6,7,9,10,20] []) (.seq (.cond (.t 20) (.seq (.region [
⟨some 21,.move (.t 6),none,0,[]⟩,
⟨some 22,.move (.t 7),none,1,[]⟩,
⟨some 4,.move (.t 21),none,2,[]⟩,
⟨some 5,.move (.t 22),none,3,[]⟩] false [4,5] []) (.keep [4,5] [] .ret)) (.keep [0,1,9,10] [] .skip)) (.keep [0,1,9,10] [] .skip)))))) (.keep [0,1,9,10] [] (.seq (.region [
⟨some 23,.bin .add (.t 10) (.c (.int .i64 1)),none,0,[]⟩,
⟨some 10,.move (.t 23),none,1,[]⟩] false [0,1,9,10] []) (.keep [0,1,9,10] [] .skip)))))))
def F20:LFunc:={ nparams:=2,results:=[.tmp 4,.tmp 5],pure:=false,body :=
 (.seq (.region [
⟨some 4,.move (.c (.int .i64 0)),none,0,[]⟩,
⟨some 5,.move (.c (.int .i64 0)),none,1,[]⟩] false [0,1] []) (.seq (.region [
⟨some 8,.move (.t 1),none,0,[]⟩,
⟨some 9,.len 1 (.t 8),none,1,[]⟩,
⟨some 10,.move (.c (.int .i64 0)),none,2,[]⟩] false [0,1,9,10] []) (.seq (.block 0 (.seq (.keep [0,1,9,10] [] (.loop B20x0)) (.keep [1] [] .skip))) (.keep [1] [] (.seq (.region [
⟨some 24,.move (.t 1),none,0,[]⟩,
⟨some 25,.len 1 (.t 24),none,1,[]⟩,
⟨some 4,.move (.t 25),none,2,[]⟩,
⟨some 5,.move (.c (.int .i64 0)),none,3,[]⟩] false [4,5] []) (.keep [4,5] [] .ret)))))) }
theorem ok20:fnSoundB Go.Proofs.Tryz.prog 20 F20=true:=by decide +kernel
def B21x0:LCode :=
 (.seq (.region [
⟨some 14,.bin .lss (.t 13) (.t 12),none,0,[]⟩] false [0,1,12,13,14] []) (.seq (.cond (.t 14) (.keep [0,1,12,13] [] .skip) (.keep [0,1] [] (.exit 0))) (.keep [0,1,12,13] [] (.seq (.block 1 (.seq (.region [
⟨some 15,.move (.t 13),none,0,[]⟩,
⟨some 5,.move (.t 15),none,1,[]⟩] false [0,1,5,12,13] []) (.seq (.region [
⟨some 16,.move (.t 0),none,0,[]⟩,
⟨some 17,.move (.t 5),none,1,[]⟩,
⟨some 18,.indexAddr 6 (.t 16) (.t 17),none,2,[]⟩,
⟨some 19,.fieldAddr 0 (.t 18),none,3,[]⟩,
⟨some 20,.load 1 false (.t 19),none,4,[]⟩,
⟨some 21,.move (.t 1),none,5,[]⟩,
⟨some 22,.move (.t 5),none,6,[]⟩,
⟨some 23,.indexAddr 6 (.t 21) (.t 22),none,7,[]⟩,
⟨some 24,.fieldAddr 0 (.t 23),none,8,[]⟩,
⟨some 25,.load 1 false (.t 24),none,9,[]⟩,
⟨some 26,.eq .i true (.t 20) (.t 25),none,10,[]⟩] true [0,1,12,13,26] []) (.seq (.cond (.t 26) (.seq (.region [
⟨some 4,.move (.c (.bool false)),none,0,[]⟩] false [4] []) (.keep [4] [] .ret)) (.keep [0,1,12,13] [] .skip)) (.keep [0,1,12,13] [] .skip))))) (.keep [0,1,12,13] [] (.seq (.region [
⟨some 27,.bin .add (.t 13) (.c (.int .i64 1)),none,0,[]⟩,
⟨some 13,.move (.t 27),none,1,[]⟩] false [0,1,12,13] []) (.keep [0,1,12,13] [] .skip)))))))
def F21:LFunc:={ nparams:=2,results:=[.tmp 4],pure:=true,body :=
 (.seq (.region [
⟨some 4,.move (.c (.bool false)),none,0,[]⟩] false [0,1] []) (.seq (.region [
⟨some 6,.move (.t 0),none,0,[]⟩,
⟨some 7,.len 1 (.t 6),none,1,[]⟩,
⟨some 8,.move (.t 1),none,2,[]⟩,
⟨some 9,.len 1 (.t 8),none,3,[]⟩,
⟨some 10,.eq .i true (.t 7) (.t 9),none,4,[]⟩] false [0,1,10] []) (.seq (.cond (.t 10) (.seq (.region [
⟨some 4,.move (.c (.bool false)),none,0,[]⟩] false [4] []) (.keep [4] [] .ret)) (.keep [0,1] [] .skip)) (.keep [0,1] [] (.seq (.region [
⟨some 11,.move (.t 0),none,0,[]⟩,
⟨some 12,.len 1 (.t 11),none,1,[]⟩,
⟨some 13,.move (.c (.int .i64 0)),none,2,[]⟩] false [0,1,12,13] []) (.seq (.block 0 (.seq (.keep [0,1,12,13] [] (.loop B21x0)) (.keep [0,1] [] .skip))) (.keep [0,1] [] (.seq (.region [
⟨some 28,.move (.t 0),none,0,[]⟩,
⟨some 29,.move (.t 1),none,1,[]⟩,
⟨some 30,.pcall 34 [(.t 28,.as),(.t 29,.as)],none,2,[]⟩,
⟨some 4,.move (.t 30),none,3,[]⟩] false [4] []) (.keep [4] [] .ret))))))))) }
theorem ok21:fnSoundB Go.Proofs.Tryz.prog 21 F21=true:=by decide +kernel
def F22:LFunc:={ nparams:=1,results:=[.tmp 2],pure:=false,body :=
 (.seq (.region [
⟨some 2,.move (.c (.list [])),none,0,[]⟩] false [0] []) (.seq (.region [
⟨some 3,.move (.t 0),none,0,[]⟩,
⟨some 4,.call 50 [(.t 3,.as),(.c (.list []),.fresh 6),(.c (.int .i64 0),.as),(.c (.int .i64 0),.as)],none,1,[]⟩,
⟨some 2,.move (.t 4),none,2,[]⟩] false [2] []) (.keep [2] [] .ret))) }
theorem ok22:fnSoundB Go.Proofs.Tryz.prog 22 F22=true:=by decide +kernel
def B23x0:LCode :=
 (.seq (.region [
⟨some 14,.bin .lss (.t 13) (.t 12),none,0,[]⟩] false [0,1,12,13,14] []) (.seq (.cond (.t 14) (.keep [0,1,12,13] [] .skip) (.keep [] [] (.exit 0))) (.keep [0,1,12,13] [] (.seq (.block 1 (.seq (.region [
⟨some 15,.move (.t 13),none,0,[]⟩,
⟨some 5,.move (.t 15),none,1,[]⟩] false [0,1,5,12,13] []) (.seq (.region [
⟨some 16,.move (.t 0),none,0,[]⟩,
⟨some 17,.move (.t 5),none,1,[]⟩,
⟨some 18,.indexAddr 1 (.t 16) (.t 17),none,2,[]⟩,
⟨some 19,.load 1 false (.t 18),none,3,[]⟩,
⟨some 20,.move (.t 1),none,4,[]⟩,
⟨some 21,.move (.t 5),none,5,[]⟩,
⟨some 22,.indexAddr 1 (.t 20) (.t 21),none,6,[]⟩,
⟨some 23,.load 1 false (.t 22),none,7,[]⟩,
⟨some 24,.eq .i true (.t 19) (.t 23),none,8,[]⟩] true [0,1,12,13,24] []) (.seq (.cond (.t 24) (.seq (.region [
⟨some 4,.move (.c (.bool false)),none,0,[]⟩] false [4] []) (.keep [4] [] .ret)) (.keep [0,1,12,13] [] .skip)) (.keep [0,1,12,13] [] .skip))))) (.keep [0,1,12,13] [] (.seq (.region [
⟨some 25,.bin .add (.t 13) (.c (.int .i64 1)),none,0,[]⟩,
⟨some 13,.move (.t 25),none,1,[]⟩] false [0,1,12,13] []) (.keep [0,1,12,13] [] .skip)))))))
def F23:LFunc:={ nparams:=2,results:=[.tmp 4],pure:=true,body :=
 (.seq (.region [
⟨some 4,.move (.c (.bool false)),none,0,[]⟩] false [0,1] []) (.seq (.region [
⟨some 6,.move (.t 0),none,0,[]⟩,
⟨some 7,.len 1 (.t 6),none,1,[]⟩,
⟨some 8,.move (.t 1),none,2,[]⟩,
⟨some 9,.len 1 (.t 8),none,3,[]⟩,
⟨some 10,.eq .i true (.t 7) (.t 9),none,4,[]⟩] false [0,1,10] []) (.seq (.cond (.t 10) (.seq (.region [
⟨some 4,.move (.c (.bool false)),none,0,[]⟩] false [4] []) (.keep [4] [] .ret)) (.keep [0,1] [] .skip)) (.keep [0,1] [] (.seq (.region [
⟨some 11,.move (.t 0),none,0,[]⟩,
⟨some 12,.len 1 (.t 11),none,1,[]⟩,
⟨some 13,.move (.c (.int .i64 0)),none,2,[]⟩] false [0,1,12,13] []) (.seq (.block 0 (.seq (.keep [0,1,12,13] [] (.loop B23x0)) (.keep [] [] .skip))) (.keep [] [] (.seq (.region [
⟨some 4,.move (.c (.bool true)),none,0,[]⟩] false [4] []) (.keep [4] [] .ret))))))))) }
theorem ok23:fnSoundB Go.Proofs.Tryz.prog 23 F23=true:=by decide +kernel
def B24x0:LCode :=
 (.seq (.region [
⟨some 11,.bin .lss (.t 10) (.t 9),none,0,[]⟩] false [0,3,9,10,11] []) (.seq (.cond (.t 11) (.keep [0,3,9,10] [] .skip) (.keep [3] [] (.exit 0))) (.keep [0,3,9,10] [] (.seq (.block 1 (.seq (.region [
⟨some 12,.move (.t 10),none,0,[]⟩,
⟨some 4,.move (.t 12),none,1,[]⟩] false [0,3,4,9,10] []) (.seq (.region [
⟨some 13,.move (.t 0),none,0,[]⟩,
⟨some 14,.nilCheck (.t 13),none,1,[]⟩,
⟨some 15,.fieldAddr 0 (.t 14),none,2,[]⟩,
⟨some 16,.load 1 false (.t 15),none,3,[]⟩,
⟨some 17,.move (.t 4),none,4,[]⟩,
⟨some 18,.indexAddr 7 (.t 16) (.t 17),none,5,[]⟩,
⟨some 19,.fieldAddr 0 (.t 18),none,6,[]⟩,
⟨some 20,.load 1 false (.t 19),none,7,[]⟩,
⟨some 21,.eq .i true (.t 20) (.c (.int .i64 0)),none,8,[]⟩,
⟨some 22,.move (.t 21),none,9,[]⟩,
⟨some 23,.move (.t 0),some (22,true),10,[]⟩,
⟨some 24,.nilCheck (.t 23),some (22,true),11,[]⟩,
⟨some 25,.fieldAddr 0 (.t 24),some (22,true),12,[]⟩,
⟨some 26,.load 1 false (.t 25),some (22,true),13,[]⟩,
⟨some 27,.move (.t 4),some (22,true),14,[]⟩,
⟨some 28,.indexAddr 7 (.t 26) (.t 27),some (22,true),15,[]⟩,
⟨some 29,.fieldAddr 1 (.t 28),some (22,true),16,[]⟩,
⟨some 30,.load 1 false (.t 29),some (22,true),17,[]⟩,
⟨some 31,.bin .lss (.t 30) (.c (.int .i64 0)),some (22,true),18,[]⟩,
⟨some 32,.pick (.t 22) (.t 31) (.c (.bool false)),none,19,[]⟩] false [0,3,4,9,10,32] []) (.seq (.cond (.t 32) (.seq (.region [
⟨some 33,.move (.t 3),none,0,[]⟩,
⟨some 34,.move (.t 0),none,1,[]⟩,
⟨some 35,.nilCheck (.t 34),none,2,[]⟩,
⟨some 36,.fieldAddr 0 (.t 35),none,3,[]⟩,
⟨some 37,.load 1 false (.t 36),none,4,[]⟩,
⟨some 38,.move (.t 4),none,5,[]⟩,
⟨some 39,.indexAddr 7 (.t 37) (.t 38),none,6,[]⟩,
⟨some 40,.fieldAddr 0 (.t 39),none,7,[]⟩,
⟨some 41,.load 1 false (.t 40),none,8,[]⟩,
⟨some 42,.row 1 [.t 41],none,9,[]⟩,
⟨some 43,.append true 1001 1 8 (.t 33) (.t 42),none,10,[]⟩,
⟨some 3,.move (.t 43),none,11,[]⟩] false [0,3,9,10] []) (.keep [0,3,9,10] [] .skip)) (.keep [0,3,9,10] [] .skip)) (.keep [0,3,9,10] [] .skip))))) (.keep [0,3,9,10] [] (.seq (.region [
⟨some 44,.bin .add (.t 10) (.c (.int .i64 1)),none,0,[]⟩,
⟨some 10,.move (.t 44),none,1,[]⟩] false [0,3,9,10] []) (.keep [0,3,9,10] [] .skip)))))))
def F24:LFunc:={ nparams:=1,results:=[.tmp 2],pure:=false,body :=
 (.seq (.region [
⟨some 2,.move (.c (.list [])),none,0,[]⟩] false [0] []) (.seq (.region [
⟨some 3,.nilown true 1000 1,none,0,[]⟩] false [0,3] []) (.seq (.region [
⟨some 5,.move (.t 0),none,0,[]⟩,
⟨some 6,.nilCheck (.t 5),none,1,[]⟩,
⟨some 7,.fieldAddr 0 (.t 6),none,2,[]⟩,
⟨some 8,.load 1 false (.t 7),none,3,[]⟩,
⟨some 9,.len 1 (.t 8),none,4,[]⟩,
⟨some 10,.move (.c (.int .i64 0)),none,5,[]⟩] false [0,3,9,10] []) (.seq (.block 0 (.seq (.keep [0,3,9,10] [] (.loop B24x0)) (.keep [3] [] .skip))) (.keep [3] [] (.seq (.region [
⟨some 45,.move (.t 3),none,0,[]⟩,
⟨some 2,.move (.t 45),none,1,[]⟩] false [2] []) (.keep [2] [] .ret))))))) }
theorem ok24:fnSoundB Go.Proofs.Tryz.prog 24 F24=true:=by decide +kernel
def F25:LFunc:={ nparams:=2,results:=[.tmp 4],pure:=false,body :=
 (.seq (.region [
⟨some 3,.box false 3 (.t 1),none,0,[]⟩,
⟨some 4,.move (.c (.int .i64 0)),none,1,[]⟩] false [0,3] [3]) (.seq (.region [
⟨some 8,.load 9 true (.t 3),none,0,[]⟩,
⟨some 9,.pcall 51 [(.t 8,.as)],none,1,[]⟩,
⟨some 5,.move (.t 9),none,2,[]⟩] false [0,3,5] [3]) (.seq (.region [
⟨some 10,.move (.t 5),none,0,[]⟩,
⟨some 11,.eq .i true (.t 10) (.c (.int .i64 0)),none,1,[]⟩] false [0,3,5,11] [3]) (.seq (.cond (.t 11) (.seq (.region [
⟨some 12,.move (.t 5),none,0,[]⟩,
⟨some 4,.move (.t 12),none,1,[]⟩] false [4] []) (.keep [4] [] .ret)) (.keep [0,3] [3] .skip)) (.keep [0,3] [3] (.seq (.region [
⟨some 14,.move (.t 0),none,0,[]⟩,
⟨some 15,.load 9 true (.t 3),none,1,[]⟩,
⟨some 16,.call 52 [(.t 14,.as),(.t 15,.as)],none,2,[]⟩,
⟨some 13,.move (.t 16),none,3,[]⟩,
⟨some 17,.extract (.t 13) 0,none,4,[]⟩,
⟨some 18,.extract (.t 13) 1,none,5,[]⟩,
⟨some 6,.move (.t 17),none,6,[]⟩,
⟨some 7,.move (.t 18),none,7,[]⟩] false [7] []) (.seq (.region [
⟨some 19,.move (.t 7),none,0,[]⟩,
⟨some 4,.move (.t 19),none,1,[]⟩] false [4] []) (.keep [4] [] .ret)))))))) }
theorem ok25:fnSoundB Go.Proofs.Tryz.prog 25 F25=true:=by decide +kernel
def B34x0:LCode :=
 (.seq (.region [
⟨some 16,.bin .lss (.t 15) (.t 14),none,0,[]⟩] false [0,1,14,15,16] []) (.seq (.cond (.t 16) (.keep [0,1,14,15] [] .skip) (.keep [] [] (.exit 0))) (.keep [0,1,14,15] [] (.seq (.block 1 (.seq (.region [
⟨some 17,.move (.t 15),none,0,[]⟩,
⟨some 5,.move (.t 17),none,1,[]⟩] false [0,1,5,14,15] []) (.seq (.region [
⟨some 18,.move (.t 0),none,0,[]⟩,
⟨some 19,.move (.t 5),none,1,[]⟩,
⟨some 20,.indexAddr 6 (.t 18) (.t 19),none,2,[]⟩,
⟨some 21,.load 6 true (.t 20),none,3,[]⟩,
⟨some 6,.alloc false 6 [.p (.int .i64 0),.p (.int .i64 0),.p (.str []),.p (.str []),.p (.str []),.p (.list [])] [],none,4,[]⟩,
⟨none,.store 6 true (.t 6) (.t 21),none,5,[]⟩] false [0,1,5,6,14,15] [6]) (.seq (.region [
⟨some 22,.move (.t 1),none,0,[]⟩,
⟨some 23,.move (.t 5),none,1,[]⟩,
⟨some 24,.indexAddr 6 (.t 22) (.t 23),none,2,[]⟩,
⟨some 25,.load 6 true (.t 24),none,3,[]⟩,
⟨some 7,.alloc false 7 [.p (.int .i64 0),.p (.int .i64 0),.p (.str []),.p (.str []),.p (.str []),.p (.list [])] [],none,4,[]⟩,
⟨none,.store 6 true (.t 7) (.t 25),none,5,[]⟩] false [0,1,6,7,14,15] [6,7]) (.seq (.region [
⟨some 26,.fieldAddr 1 (.t 6),none,0,[]⟩,
⟨some 27,.load 1 false (.t 26),none,1,[]⟩,
⟨some 28,.fieldAddr 1 (.t 7),none,2,[]⟩,
⟨some 29,.load 1 false (.t 28),none,3,[]⟩,
⟨some 30,.eq .i true (.t 27) (.t 29),none,4,[]⟩,
⟨some 31,.move (.t 30),none,5,[]⟩,
⟨some 32,.fieldAddr 2 (.t 6),some (31,false),6,[]⟩,
⟨some 33,.load 1 false (.t 32),some (31,false),7,[]⟩,
⟨some 34,.fieldAddr 2 (.t 7),some (31,false),8,[]⟩,
⟨some 35,.load 1 false (.t 34),some (31,false),9,[]⟩,
⟨some 36,.eq .s true (.t 33) (.t 35),some (31,false),10,[]⟩,
⟨some 37,.pick (.t 31) (.c (.bool true)) (.t 36),none,11,[]⟩,
⟨some 38,.move (.t 37),none,12,[]⟩,
⟨some 39,.fieldAddr 3 (.t 6),some (38,false),13,[]⟩,
⟨some 40,.load 1 false (.t 39),some (38,false),14,[]⟩,
⟨some 41,.fieldAddr 3 (.t 7),some (38,false),15,[]⟩,
⟨some 42,.load 1 false (.t 41),some (38,false),16,[]⟩,
⟨some 43,.eq .s true (.t 40) (.t 42),some (38,false),17,[]⟩,
⟨some 44,.pick (.t 38) (.c (.bool true)) (.t 43),none,18,[]⟩,
⟨some 45,.move (.t 44),none,19,[]⟩,
⟨some 46,.fieldAddr 4 (.t 6),some (45,false),20,[]⟩,
⟨some 47,.load 1 false (.t 46),some (45,false),21,[]⟩,
⟨some 48,.fieldAddr 4 (.t 7),some (45,false),22,[]⟩,
⟨some 49,.load 1 false (.t 48),some (45,false),23,[]⟩,
⟨some 50,.eq .s true (.t 47) (.t 49),some (45,false),24,[]⟩,
⟨some 51,.pick (.t 45) (.c (.bool true)) (.t 50),none,25,[]⟩,
⟨some 52,.move (.t 51),none,26,[]⟩,
⟨some 53,.fieldAddr 5 (.t 6),some (52,false),27,[]⟩,
⟨some 54,.load 1 false (.t 53),some (52,false),28,[]⟩,
⟨some 55,.fieldAddr 5 (.t 7),some (52,false),29,[]⟩,
⟨some 56,.load 1 false (.t 55),some (52,false),30,[]⟩,
⟨some 57,.pcall 60 [(.t 54,.as),(.t 56,.as)],some (52,false),31,[]⟩,
⟨some 58,.un .not (.t 57),some (52,false),32,[]⟩,
⟨some 59,.pick (.t 52) (.c (.bool true)) (.t 58),none,33,[]⟩] false [0,1,14,15,59] []) (.seq (.cond (.t 59) (.seq (.region [
⟨some 4,.move (.c (.bool false)),none,0,[]⟩] false [4] []) (.keep [4] [] .ret)) (.keep [0,1,14,15] [] .skip)) (.keep [0,1,14,15] [] .skip))))))) (.keep [0,1,14,15] [] (.seq (.region [
⟨some 60,.bin .add (.t 15) (.c (.int .i64 1)),none,0,[]⟩,
⟨some 15,.move (.t 60),none,1,[]⟩] false [0,1,14,15] []) (.keep [0,1,14,15] [] .skip)))))))
def F34:LFunc:={ nparams:=2,results:=[.tmp 4],pure:=true,body :=
 (.seq (.region [
⟨some 4,.move (.c (.bool false)),none,0,[]⟩] false [0,1] []) (.seq (.region [
⟨some 8,.move (.t 0),none,0,[]⟩,
⟨some 9,.len 1 (.t 8),none,1,[]⟩,
⟨some 10,.move (.t 1),none,2,[]⟩,
⟨some 11,.len 1 (.t 10),none,3,[]⟩,
⟨some 12,.eq .i true (.t 9) (.t 11),none,4,[]⟩] false [0,1,12] []) (.seq (.cond (.t 12) (.seq (.region [
⟨some 4,.move (.c (.bool false)),none,0,[]⟩] false [4] []) (.keep [4] [] .ret)) (.keep [0,1] [] .skip)) (.keep [0,1] [] (.seq (.region [
⟨some 13,.move (.t 0),none,0,[]⟩,
⟨some 14,.len 1 (.t 13),none,1,[]⟩,
⟨some 15,.move (.c (.int .i64 0)),none,2,[]⟩] false [0,1,14,15] []) (.seq (.block 0 (.seq (.keep [0,1,14,15] [] (.loop B34x0)) (.keep [] [] .skip))) (.keep [] [] (.seq (.region [
⟨some 4,.move (.c (.bool true)),none,0,[]⟩] false [4] []) (.keep [4] [] .ret))))))))) }
theorem ok34:fnSoundB Go.Proofs.Tryz.prog 34 F34=true:=by decide +kernel
def F36:LFunc:={ nparams:=1,results:=[.tmp 2],pure:=true,body :=
 (.seq (.region [
⟨some 2,.move (.c (.int .i64 0)),none,0,[]⟩] false [0] []) (.seq (.region [
⟨some 5,.move (.t 0),none,0,[]⟩,
⟨some 6,.len 1 (.t 5),none,1,[]⟩,
⟨some 7,.eq .i false (.t 6) (.c (.int .i64 0)),none,2,[]⟩] false [0,7] []) (.seq (.cond (.t 7) (.seq (.region [
⟨some 2,.move (.c (.int .i64 0)),none,0,[]⟩] false [2] []) (.keep [2] [] .ret)) (.keep [0] [] .skip)) (.keep [0] [] (.seq (.region [
⟨some 9,.move (.t 0),none,0,[]⟩,
⟨some 10,.pcall 61 [(.t 9,.as)],none,1,[]⟩,
⟨some 8,.move (.t 10),none,2,[]⟩,
⟨some 11,.extract (.t 8) 0,none,3,[]⟩,
⟨some 12,.extract (.t 8) 1,none,4,[]⟩,
⟨some 3,.alloc false 3 [.p (.str []),.p (.str []),.p (.str []),.p (.list []),.p (.list [])] [],none,5,[]⟩,
⟨none,.store 5 true (.t 3) (.t 11),none,6,[]⟩,
⟨some 4,.move (.t 12),none,7,[]⟩] false [4] []) (.seq (.region [
⟨some 13,.move (.t 4),none,0,[]⟩,
⟨some 2,.move (.t 13),none,1,[]⟩] false [2] []) (.keep [2] [] .ret))))))) }
theorem ok36:fnSoundB Go.Proofs.Tryz.prog 36 F36=true:=by decide +kernel
def B38x0:LCode :=
 (.seq (.region [
⟨some 7,.bin .lss (.t 6) (.t 5),none,0,[]⟩] false [0,5,6,7] []) (.seq (.cond (.t 7) (.keep [0,5,6] [] .skip) (.keep [] [] (.exit 0))) (.keep [0,5,6] [] (.seq (.block 1 (.seq (.region [
⟨some 8,.move (.t 6),none,0,[]⟩,
⟨some 3,.move (.t 8),none,1,[]⟩] false [0,3,5,6] []) (.seq (.region [
⟨some 9,.move (.t 3),none,0,[]⟩,
⟨some 10,.eq .i false (.t 9) (.c (.int .i64 0)),none,1,[]⟩,
⟨some 11,.move (.t 10),none,2,[]⟩,
⟨some 12,.move (.t 0),some (11,true),3,[]⟩,
⟨some 13,.move (.t 3),some (11,true),4,[]⟩,
⟨some 14,.indexAddr 6 (.t 12) (.t 13),some (11,true),5,[]⟩,
⟨some 15,.fieldAddr 1 (.t 14),some (11,true),6,[]⟩,
⟨some 16,.load 1 false (.t 15),some (11,true),7,[]⟩,
⟨some 17,.eq .i true (.t 16) (.c (.int .i64 0)),some (11,true),8,[]⟩,
⟨some 18,.pick (.t 11) (.t 17) (.c (.bool false)),none,9,[]⟩,
⟨some 19,.move (.t 18),none,10,[]⟩,
⟨some 20,.move (.t 3),some (19,false),11,[]⟩,
⟨some 21,.bin .gtr (.t 20) (.c (.int .i64 0)),some (19,false),12,[]⟩,
⟨some 22,.move (.t 21),some (19,false),13,[]⟩,
⟨some 23,.move (.t 0),some (22,true),14,[]⟩,
⟨some 24,.move (.t 3),some (22,true),15,[]⟩,
⟨some 25,.indexAddr 6 (.t 23) (.t 24),some (22,true),16,[]⟩,
⟨some 26,.fieldAddr 1 (.t 25),some (22,true),17,[]⟩,
⟨some 27,.load 1 false (.t 26),some (22,true),18,[]⟩,
⟨some 28,.bin .lss (.t 27) (.c (.int .i64 1)),some (22,true),19,[]⟩,
⟨some 29,.move (.t 28),some (22,true),20,[]⟩,
⟨some 30,.move (.t 0),some (29,false),21,[]⟩,
⟨some 31,.move (.t 3),some (29,false),22,[]⟩,
⟨some 32,.move (.t 0),some (29,false),23,[]⟩,
⟨some 33,.move (.t 3),some (29,false),24,[]⟩,
⟨some 34,.indexAddr 6 (.t 32) (.t 33),some (29,false),25,[]⟩,
⟨some 35,.fieldAddr 1 (.t 34),some (29,false),26,[]⟩,
⟨some 36,.load 1 false (.t 35),some (29,false),27,[]⟩,
⟨some 37,.pcall 62 [(.t 30,.as),(.t 31,.as),(.t 36,.as)],some (29,false),28,[]⟩,
⟨some 38,.un .not (.t 37),some (29,false),29,[]⟩,
⟨some 39,.pick (.t 29) (.c (.bool true)) (.t 38),some (22,true),30,[]⟩,
⟨some 40,.pick (.t 22) (.t 39) (.c (.bool false)),some (19,false),31,[]⟩,
⟨some 41,.pick (.t 19) (.c (.bool true)) (.t 40),none,32,[]⟩] false [0,5,6,41] []) (.seq (.cond (.t 41) (.seq (.region [
⟨some 2,.move (.c (.bool false)),none,0,[]⟩] false [2] []) (.keep [2] [] .ret)) (.keep [0,5,6] [] .skip)) (.keep [0,5,6] [] .skip))))) (.keep [0,5,6] [] (.seq (.region [
⟨some 42,.bin .add (.t 6) (.c (.int .i64 1)),none,0,[]⟩,
⟨some 6,.move (.t 42),none,1,[]⟩] false [0,5,6] []) (.keep [0,5,6] [] .skip)))))))
def F38:LFunc:={ nparams:=1,results:=[.tmp 2],pure:=true,body :=
 (.seq (.region [
⟨some 2,.move (.c (.bool false)),none,0,[]⟩] false [0] []) (.seq (.region [
⟨some 4,.move (.t 0),none,0,[]⟩,
⟨some 5,.len 1 (.t 4),none,1,[]⟩,
⟨some 6,.move (.c (.int .i64 0)),none,2,[]⟩] false [0,5,6] []) (.seq (.block 0 (.seq (.keep [0,5,6] [] (.loop B38x0)) (.keep [] [] .skip))) (.keep [] [] (.seq (.region [
⟨some 2,.move (.c (.bool true)),none,0,[]⟩] false [2] []) (.keep [2] [] .ret)))))) }
theorem ok38:fnSoundB Go.Proofs.Tryz.prog 38 F38=true:=by decide +kernel
def B39x0:LCode :=
 (.seq (.region [
⟨some 6,.move (.t 1),none,0,[]⟩,
⟨some 7,.bin .gtr (.t 6) (.c (.int .i64 0)),none,1,[]⟩] false [0,1,5,7] []) (.seq (.cond (.t 7) (.keep [0,1,5] [] .skip) (.keep [5] [] (.exit 0))) (.keep [0,1,5] [] (.seq (.block 1 (.seq (.region [
⟨some 8,.move (.t 5),none,0,[]⟩,
⟨some 9,.bin .add (.t 8) (.c (.int .i64 1)),none,1,[]⟩,
⟨some 5,.move (.t 9),none,2,[]⟩] false [0,1,5] []) (.seq (.region [
⟨some 10,.move (.t 0),none,0,[]⟩,
⟨some 11,.move (.t 1),none,1,[]⟩,
⟨some 12,.bin .sub (.t 11) (.c (.int .i64 1)),none,2,[]⟩,
⟨some 13,.indexAddr 6 (.t 10) (.t 12),none,3,[]⟩,
⟨some 14,.fieldAddr 1 (.t 13),none,4,[]⟩,
⟨some 15,.load 1 false (.t 14),none,5,[]⟩,
⟨some 1,.move (.t 15),none,6,[]⟩] false [0,1,5] []) (.keep [0,1,5] [] .skip)))) (.keep [0,1,5] [] .skip)))))
def F39:LFunc:={ nparams:=2,results:=[.tmp 4],pure:=true,body :=
 (.seq (.region [
⟨some 4,.move (.c (.int .i64 0)),none,0,[]⟩] false [0,1] []) (.seq (.region [
⟨some 5,.move (.c (.int .i64 0)),none,0,[]⟩] false [0,1,5] []) (.seq (.block 0 (.seq (.keep [0,1,5] [] (.loop B39x0)) (.keep [5] [] .skip))) (.keep [5] [] (.seq (.region [
⟨some 16,.move (.t 5),none,0,[]⟩,
⟨some 4,.move (.t 16),none,1,[]⟩] false [4] []) (.keep [4] [] .ret)))))) }
theorem ok39:fnSoundB Go.Proofs.Tryz.prog 39 F39=true:=by decide +kernel
def F40:LFunc:={ nparams:=1,results:=[.tmp 2],pure:=true,body :=
 (.seq (.region [
⟨some 1,.box false 1 (.t 0),none,0,[]⟩,
⟨some 2,.move (.c (.int .i64 0)),none,1,[]⟩] false [1] [1]) (.seq (.region [
⟨some 5,.fieldAddr 0 (.t 1),none,0,[]⟩,
⟨some 6,.load 1 false (.t 5),none,1,[]⟩,
⟨some 7,.pcall 63 [(.t 6,.as),(.c (.bool false),.as)],none,2,[]⟩,
⟨some 8,.un .not (.t 7),none,3,[]⟩] false [1,8] [1]) (.seq (.cond (.t 8) (.seq (.region [
⟨some 2,.move (.c (.int .i64 7)),none,0,[]⟩] false [2] []) (.keep [2] [] .ret)) (.keep [1] [1] .skip)) (.keep [1] [1] (.seq (.region [
⟨some 9,.fieldAddr 1 (.t 1),none,0,[]⟩,
⟨some 10,.load 1 false (.t 9),none,1,[]⟩,
⟨some 11,.len 0 (.t 10),none,2,[]⟩,
⟨some 12,.bin .gtr (.t 11) (.c (.int .i64 65536)),none,3,[]⟩,
⟨some 13,.move (.t 12),none,4,[]⟩,
⟨some 14,.fieldAddr 2 (.t 1),some (13,false),5,[]⟩,
⟨some 15,.load 1 false (.t 14),some (13,false),6,[]⟩,
⟨some 16,.len 0 (.t 15),some (13,false),7,[]⟩,
⟨some 17,.bin .gtr (.t 16) (.c (.int .i64 65536)),some (13,false),8,[]⟩,
⟨some 18,.pick (.t 13) (.c (.bool true)) (.t 17),none,9,[]⟩] false [1,18] [1]) (.seq (.cond (.t 18) (.seq (.region [
⟨some 2,.move (.c (.int .i64 3)),none,0,[]⟩] false [2] []) (.keep [2] [] .ret)) (.keep [1] [1] .skip)) (.keep [1] [1] (.seq (.region [
⟨some 20,.fieldAddr 3 (.t 1),none,0,[]⟩,
⟨some 21,.load 1 false (.t 20),none,1,[]⟩,
⟨some 22,.pcall 64 [(.t 21,.as)],none,2,[]⟩,
⟨some 19,.move (.t 22),none,3,[]⟩,
⟨some 23,.extract (.t 19) 0,none,4,[]⟩,
⟨some 24,.extract (.t 19) 1,none,5,[]⟩,
⟨some 3,.move (.t 23),none,6,[]⟩,
⟨some 4,.move (.t 24),none,7,[]⟩] false [4] []) (.seq (.region [
⟨some 25,.move (.t 4),none,0,[]⟩,
⟨some 2,.move (.t 25),none,1,[]⟩] false [2] []) (.keep [2] [] .ret)))))))))) }
theorem ok40:fnSoundB Go.Proofs.Tryz.prog 40 F40=true:=by decide +kernel
def F41:LFunc:={ nparams:=1,results:=[.tmp 2],pure:=true,body :=
 (.seq (.region [
⟨some 1,.box false 1 (.t 0),none,0,[]⟩,
⟨some 2,.move (.c (.int .i64 0)),none,1,[]⟩] false [1] [1]) (.seq (.block 0 (.seq (.region [
⟨some 6,.fieldAddr 0 (.t 1),none,0,[]⟩,
⟨some 7,.load 1 false (.t 6),none,1,[]⟩,
⟨some 8,.bin .lss (.t 7) (.c (.int .i64 1)),none,2,[]⟩,
⟨some 9,.move (.t 8),none,3,[]⟩,
⟨some 10,.fieldAddr 0 (.t 1),some (9,false),4,[]⟩,
⟨some 11,.load 1 false (.t 10),some (9,false),5,[]⟩,
⟨some 12,.bin .gtr (.t 11) (.c (.int .i64 7)),some (9,false),6,[]⟩,
⟨some 13,.pick (.t 9) (.c (.bool true)) (.t 12),none,7,[]⟩,
⟨some 5,.move (.t 13),none,8,[]⟩] false [1,5] [1]) (.seq (.cond (.t 5) (.seq (.region [
⟨some 2,.move (.c (.int .i64 6)),none,0,[]⟩] false [2] []) (.keep [2] [] .ret)) (.seq (.region [
⟨some 15,.fieldAddr 1 (.t 1),none,0,[]⟩,
⟨some 16,.load 1 false (.t 15),none,1,[]⟩,
⟨some 17,.pcall 65 [(.t 16,.as)],none,2,[]⟩,
⟨some 18,.un .not (.t 17),none,3,[]⟩,
⟨some 19,.move (.t 18),none,4,[]⟩,
⟨some 20,.fieldAddr 2 (.t 1),some (19,false),5,[]⟩,
⟨some 21,.load 1 false (.t 20),some (19,false),6,[]⟩,
⟨some 22,.pcall 65 [(.t 21,.as)],some (19,false),7,[]⟩,
⟨some 23,.un .not (.t 22),some (19,false),8,[]⟩,
⟨some 24,.pick (.t 19) (.c (.bool true)) (.t 23),none,9,[]⟩,
⟨some 25,.move (.t 24),none,10,[]⟩,
⟨some 26,.fieldAddr 3 (.t 1),some (25,false),11,[]⟩,
⟨some 27,.load 1 false (.t 26),some (25,false),12,[]⟩,
⟨some 28,.pcall 65 [(.t 27,.as)],some (25,false),13,[]⟩,
⟨some 29,.un .not (.t 28),some (25,false),14,[]⟩,
⟨some 30,.pick (.t 25) (.c (.bool true)) (.t 29),none,15,[]⟩,
⟨some 14,.move (.t 30),none,16,[]⟩] false [1,14] [1]) (.seq (.cond (.t 14) (.seq (.region [
⟨some 2,.move (.c (.int .i64 5)),none,0,[]⟩] false [2] []) (.keep [2] [] .ret)) (.seq (.region [
⟨some 32,.load 9 true (.t 1),none,0,[]⟩,
⟨some 33,.load 9 true (.t 1),none,1,[]⟩,
⟨some 34,.pcall 67 [(.t 33,.as)],none,2,[]⟩,
⟨some 35,.pcall 66 [(.t 32,.as),(.t 34,.as)],none,3,[]⟩,
⟨some 36,.un .not (.t 35),none,4,[]⟩,
⟨some 31,.move (.t 36),none,5,[]⟩] true [1,31] [1]) (.seq (.cond (.t 31) (.seq (.region [
⟨some 2,.move (.c (.int .i64 2)),none,0,[]⟩] false [2] []) (.keep [2] [] .ret)) (.seq (.region [
⟨some 38,.fieldAddr 0 (.t 1),none,0,[]⟩,
⟨some 39,.load 1 false (.t 38),none,1,[]⟩,
⟨some 40,.eq .i false (.t 39) (.c (.int .i64 1)),none,2,[]⟩,
⟨some 41,.move (.t 40),none,3,[]⟩,
⟨some 42,.fieldAddr 4 (.t 1),some (41,true),4,[]⟩,
⟨some 43,.load 1 false (.t 42),some (41,true),5,[]⟩,
⟨some 44,.pcall 68 [(.t 43,.as)],some (41,true),6,[]⟩,
⟨some 45,.un .not (.t 44),some (41,true),7,[]⟩,
⟨some 46,.pick (.t 41) (.t 45) (.c (.bool false)),none,8,[]⟩,
⟨some 37,.move (.t 46),none,9,[]⟩] false [1,37] [1]) (.seq (.cond (.t 37) (.seq (.region [
⟨some 2,.move (.c (.int .i64 7)),none,0,[]⟩] false [2] []) (.keep [2] [] .ret)) (.seq (.region [
⟨some 48,.fieldAddr 0 (.t 1),none,0,[]⟩,
⟨some 49,.load 1 false (.t 48),none,1,[]⟩,
⟨some 50,.eq .i false (.t 49) (.c (.int .i64 5)),none,2,[]⟩,
⟨some 51,.move (.t 50),none,3,[]⟩,
⟨some 52,.fieldAddr 0 (.t 1),some (51,false),4,[]⟩,
⟨some 53,.load 1 false (.t 52),some (51,false),5,[]⟩,
⟨some 54,.eq .i false (.t 53) (.c (.int .i64 6)),some (51,false),6,[]⟩,
⟨some 55,.pick (.t 51) (.c (.bool true)) (.t 54),none,7,[]⟩,
⟨some 56,.move (.t 55),none,8,[]⟩,
⟨some 57,.fieldAddr 6 (.t 1),some (56,true),9,[]⟩,
⟨some 58,.load 1 false (.t 57),some (56,true),10,[]⟩,
⟨some 59,.pcall 69 [(.t 58,.as)],some (56,true),11,[]⟩,
⟨some 60,.un .not (.t 59),some (56,true),12,[]⟩,
⟨some 61,.pick (.t 56) (.t 60) (.c (.bool false)),none,13,[]⟩,
⟨some 47,.move (.t 61),none,14,[]⟩] false [1,47] [1]) (.seq (.cond (.t 47) (.seq (.region [
⟨some 2,.move (.c (.int .i64 8)),none,0,[]⟩] false [2] []) (.keep [2] [] .ret)) (.seq (.region [
⟨some 63,.fieldAddr 5 (.t 1),none,0,[]⟩,
⟨some 64,.load 1 false (.t 63),none,1,[]⟩,
⟨some 65,.pcall 70 [(.t 64,.as)],none,2,[]⟩,
⟨some 66,.un .not (.t 65),none,3,[]⟩,
⟨some 67,.move (.t 66),none,4,[]⟩,
⟨some 68,.fieldAddr 7 (.t 1),some (67,false),5,[]⟩,
⟨some 69,.load 1 false (.t 68),some (67,false),6,[]⟩,
⟨some 70,.pcall 70 [(.t 69,.as)],some (67,false),7,[]⟩,
⟨some 71,.un .not (.t 70),some (67,false),8,[]⟩,
⟨some 72,.pick (.t 67) (.c (.bool true)) (.t 71),none,9,[]⟩,
⟨some 62,.move (.t 72),none,10,[]⟩] false [1,62] [1]) (.seq (.cond (.t 62) (.seq (.region [
⟨some 2,.move (.c (.int .i64 3)),none,0,[]⟩] false [2] []) (.keep [2] [] .ret)) (.keep [1] [1] .skip)) (.keep [1] [1] .skip)))) (.keep [1] [1] .skip)))) (.keep [1] [1] .skip)))) (.keep [1] [1] .skip)))) (.keep [1] [1] .skip)))) (.keep [1] [1] .skip)))) (.keep [1] [1] (.seq (.region [
⟨some 74,.fieldAddr 8 (.t 1),none,0,[]⟩,
⟨some 75,.load 1 false (.t 74),none,1,[]⟩,
⟨some 76,.pcall 71 [(.t 75,.as)],none,2,[]⟩,
⟨some 73,.move (.t 76),none,3,[]⟩,
⟨some 77,.extract (.t 73) 0,none,4,[]⟩,
⟨some 78,.extract (.t 73) 1,none,5,[]⟩,
⟨some 3,.move (.t 77),none,6,[]⟩,
⟨some 4,.move (.t 78),none,7,[]⟩] false [4] []) (.seq (.region [
⟨some 79,.move (.t 4),none,0,[]⟩,
⟨some 2,.move (.t 79),none,1,[]⟩] false [2] []) (.keep [2] [] .ret)))))) }
theorem ok41:fnSoundB Go.Proofs.Tryz.prog 41 F41=true:=by decide +kernel
def F42:LFunc:={ nparams:=2,results:=[.tmp 4],pure:=false,body :=
 (.seq (.region [
⟨some 3,.box false 3 (.t 1),none,0,[]⟩,
⟨some 4,.move (.c (.int .i64 0)),none,1,[]⟩] false [0,3] [3]) (.seq (.block 0 (.seq (.region [
⟨some 6,.move (.t 0),none,0,[]⟩,
⟨some 7,.fieldAddr 1 (.t 3),none,1,[]⟩,
⟨some 8,.load 1 false (.t 7),none,2,[]⟩,
⟨some 9,.call 72 [(.t 6,.as),(.t 8,.as)],none,3,[]⟩,
⟨some 10,.un .not (.t 9),none,4,[]⟩,
⟨some 11,.move (.t 10),none,5,[]⟩,
⟨some 12,.move (.t 0),some (11,false),6,[]⟩,
⟨some 13,.fieldAddr 2 (.t 3),some (11,false),7,[]⟩,
⟨some 14,.load 1 false (.t 13),some (11,false),8,[]⟩,
⟨some 15,.call 72 [(.t 12,.as),(.t 14,.as)],some (11,false),9,[]⟩,
⟨some 16,.un .not (.t 15),some (11,false),10,[]⟩,
⟨some 17,.pick (.t 11) (.c (.bool true)) (.t 16),none,11,[]⟩,
⟨some 18,.move (.t 17),none,12,[]⟩,
⟨some 19,.move (.t 0),some (18,false),13,[]⟩,
⟨some 20,.fieldAddr 3 (.t 3),some (18,false),14,[]⟩,
⟨some 21,.load 1 false (.t 20),some (18,false),15,[]⟩,
⟨some 22,.call 72 [(.t 19,.as),(.t 21,.as)],some (18,false),16,[]⟩,
⟨some 23,.un .not (.t 22),some (18,false),17,[]⟩,
⟨some 24,.pick (.t 18) (.c (.bool true)) (.t 23),none,18,[]⟩,
⟨some 5,.move (.t 24),none,19,[]⟩] false [0,3,5] [3]) (.seq (.cond (.t 5) (.seq (.region [
⟨some 4,.move (.c (.int .i64 13)),none,0,[]⟩] false [4] []) (.keep [4] [] .ret)) (.seq (.region [
⟨some 26,.move (.t 0),none,0,[]⟩,
⟨some 27,.nilCheck (.t 26),none,1,[]⟩,
⟨some 28,.fieldAddr 0 (.t 27),none,2,[]⟩,
⟨some 29,.load 1 false (.t 28),none,3,[]⟩,
⟨some 30,.fieldAddr 1 (.t 3),none,4,[]⟩,
⟨some 31,.load 1 false (.t 30),none,5,[]⟩,
⟨some 32,.indexAddr 7 (.t 29) (.t 31),none,6,[]⟩,
⟨some 33,.fieldAddr 1 (.t 32),none,7,[]⟩,
⟨some 34,.load 1 false (.t 33),none,8,[]⟩,
⟨some 35,.bin .geq (.t 34) (.c (.int .i64 0)),none,9,[]⟩,
⟨some 25,.move (.t 35),none,10,[]⟩] true [0,3,25] [3]) (.seq (.cond (.t 25) (.seq (.region [
⟨some 4,.move (.c (.int .i64 15)),none,0,[]⟩] false [4] []) (.keep [4] [] .ret)) (.seq (.region [
⟨some 37,.move (.t 0),none,0,[]⟩,
⟨some 38,.fieldAddr 2 (.t 3),none,1,[]⟩,
⟨some 39,.load 1 false (.t 38),none,2,[]⟩,
⟨some 40,.fieldAddr 1 (.t 3),none,3,[]⟩,
⟨some 41,.load 1 false (.t 40),none,4,[]⟩,
⟨some 42,.call 73 [(.t 37,.as),(.t 39,.as),(.t 41,.as)],none,5,[]⟩,
⟨some 36,.move (.t 42),none,6,[]⟩] false [0,3,36] [3]) (.seq (.cond (.t 36) (.seq (.region [
⟨some 4,.move (.c (.int .i64 17)),none,0,[]⟩] false [4] []) (.keep [4] [] .ret)) (.seq (.region [
⟨some 44,.fieldAddr 3 (.t 3),none,0,[]⟩,
⟨some 45,.load 1 false (.t 44),none,1,[]⟩,
⟨some 46,.eq .i true (.t 45) (.c (.int .i64 0)),none,2,[]⟩,
⟨some 47,.move (.t 46),none,3,[]⟩,
⟨some 48,.move (.t 0),some (47,true),4,[]⟩,
⟨some 49,.nilCheck (.t 48),some (47,true),5,[]⟩,
⟨some 50,.fieldAddr 0 (.t 49),some (47,true),6,[]⟩,
⟨some 51,.load 1 false (.t 50),some (47,true),7,[]⟩,
⟨some 52,.fieldAddr 3 (.t 3),some (47,true),8,[]⟩,
⟨some 53,.load 1 false (.t 52),some (47,true),9,[]⟩,
⟨some 54,.indexAddr 7 (.t 51) (.t 53),some (47,true),10,[]⟩,
⟨some 55,.fieldAddr 1 (.t 54),some (47,true),11,[]⟩,
⟨some 56,.load 1 false (.t 55),some (47,true),12,[]⟩,
⟨some 57,.fieldAddr 2 (.t 3),some (47,true),13,[]⟩,
⟨some 58,.load 1 false (.t 57),some (47,true),14,[]⟩,
⟨some 59,.eq .i true (.t 56) (.t 58),some (47,true),15,[]⟩,
⟨some 60,.pick (.t 47) (.t 59) (.c (.bool false)),none,16,[]⟩,
⟨some 43,.move (.t 60),none,17,[]⟩] true [0,3,43] [3]) (.seq (.cond (.t 43) (.seq (.region [
⟨some 4,.move (.c (.int .i64 18)),none,0,[]⟩] false [4] []) (.keep [4] [] .ret)) (.keep [0,3] [3] .skip)) (.keep [0,3] [3] .skip)))) (.keep [0,3] [3] .skip)))) (.keep [0,3] [3] .skip)))) (.keep [0,3] [3] .skip)))) (.keep [0,3] [3] (.seq (.region [
⟨some 61,.move (.t 0),none,0,[]⟩,
⟨some 62,.fieldAddr 1 (.t 3),none,1,[]⟩,
⟨some 63,.load 1 false (.t 62),none,2,[]⟩,
⟨some 64,.fieldAddr 2 (.t 3),none,3,[]⟩,
⟨some 65,.load 1 false (.t 64),none,4,[]⟩,
⟨some 66,.fieldAddr 3 (.t 3),none,5,[]⟩,
⟨some 67,.load 1 false (.t 66),none,6,[]⟩,
⟨some 68,.call 74 [(.t 61,.as),(.t 63,.as),(.t 65,.as),(.t 67,.as)],none,7,[]⟩] false [] []) (.seq (.region [
⟨some 4,.move (.c (.int .i64 0)),none,0,[]⟩] false [4] []) (.keep [4] [] .ret)))))) }
theorem ok42:fnSoundB Go.Proofs.Tryz.prog 42 F42=true:=by decide +kernel
def F43:LFunc:={ nparams:=2,results:=[.tmp 4],pure:=false,body :=
 (.seq (.region [
⟨some 3,.box false 3 (.t 1),none,0,[]⟩,
⟨some 4,.move (.c (.int .i64 0)),none,1,[]⟩] false [0,3] [3]) (.seq (.region [
⟨some 5,.move (.c (.int .i64 (-1))),none,0,[]⟩] false [0,3,5] [3]) (.seq (.region [
⟨some 6,.move (.t 0),none,0,[]⟩,
⟨some 7,.fieldAddr 1 (.t 3),none,1,[]⟩,
⟨some 8,.load 1 false (.t 7),none,2,[]⟩,
⟨some 9,.call 72 [(.t 6,.as),(.t 8,.as)],none,3,[]⟩] false [0,3,5,9] [3]) (.seq (.cond (.t 9) (.seq (.region [
⟨some 10,.move (.t 0),none,0,[]⟩,
⟨some 11,.nilCheck (.t 10),none,1,[]⟩,
⟨some 12,.fieldAddr 0 (.t 11),none,2,[]⟩,
⟨some 13,.load 1 false (.t 12),none,3,[]⟩,
⟨some 14,.fieldAddr 1 (.t 3),none,4,[]⟩,
⟨some 15,.load 1 false (.t 14),none,5,[]⟩,
⟨some 16,.indexAddr 7 (.t 13) (.t 15),none,6,[]⟩,
⟨some 17,.fieldAddr 1 (.t 16),none,7,[]⟩,
⟨some 18,.load 1 false (.t 17),none,8,[]⟩,
⟨some 5,.move (.t 18),none,9,[]⟩] true [0,3,5] [3]) (.keep [0,3,5] [3] .skip)) (.keep [0,3,5] [3] .skip)) (.keep [0,3,5] [3] (.seq (.block 0 (.seq (.region [
⟨some 20,.move (.t 0),none,0,[]⟩,
⟨some 21,.fieldAddr 1 (.t 3),none,1,[]⟩,
⟨some 22,.load 1 false (.t 21),none,2,[]⟩,
⟨some 23,.call 72 [(.t 20,.as),(.t 22,.as)],none,3,[]⟩,
⟨some 24,.un .not (.t 23),none,4,[]⟩,
⟨some 25,.move (.t 24),none,5,[]⟩,
⟨some 26,.move (.t 0),some (25,false),6,[]⟩,
⟨some 27,.fieldAddr 3 (.t 3),some (25,false),7,[]⟩,
⟨some 28,.load 1 false (.t 27),some (25,false),8,[]⟩,
⟨some 29,.call 72 [(.t 26,.as),(.t 28,.as)],some (25,false),9,[]⟩,
⟨some 30,.un .not (.t 29),some (25,false),10,[]⟩,
⟨some 31,.pick (.t 25) (.c (.bool true)) (.t 30),none,11,[]⟩,
⟨some 19,.move (.t 31),none,12,[]⟩] false [0,3,5,19] [3]) (.seq (.cond (.t 19) (.seq (.region [
⟨some 4,.move (.c (.int .i64 13)),none,0,[]⟩] false [4] []) (.keep [4] [] .ret)) (.seq (.region [
⟨some 33,.move (.t 5),none,0,[]⟩,
⟨some 34,.bin .lss (.t 33) (.c (.int .i64 0)),none,1,[]⟩,
⟨some 32,.move (.t 34),none,2,[]⟩] false [0,3,5,32] [3]) (.seq (.cond (.t 32) (.seq (.region [
⟨some 4,.move (.c (.int .i64 16)),none,0,[]⟩] false [4] []) (.keep [4] [] .ret)) (.seq (.region [
⟨some 36,.fieldAddr 3 (.t 3),none,0,[]⟩,
⟨some 37,.load 1 false (.t 36),none,1,[]⟩,
⟨some 38,.fieldAddr 1 (.t 3),none,2,[]⟩,
⟨some 39,.load 1 false (.t 38),none,3,[]⟩,
⟨some 40,.eq .i false (.t 37) (.t 39),none,4,[]⟩,
⟨some 41,.move (.t 40),none,5,[]⟩,
⟨some 42,.fieldAddr 3 (.t 3),some (41,false),6,[]⟩,
⟨some 43,.load 1 false (.t 42),some (41,false),7,[]⟩,
⟨some 44,.eq .i true (.t 43) (.c (.int .i64 0)),some (41,false),8,[]⟩,
⟨some 45,.move (.t 44),some (41,false),9,[]⟩,
⟨some 46,.move (.t 0),some (45,true),10,[]⟩,
⟨some 47,.nilCheck (.t 46),some (45,true),11,[]⟩,
⟨some 48,.fieldAddr 0 (.t 47),some (45,true),12,[]⟩,
⟨some 49,.load 1 false (.t 48),some (45,true),13,[]⟩,
⟨some 50,.fieldAddr 3 (.t 3),some (45,true),14,[]⟩,
⟨some 51,.load 1 false (.t 50),some (45,true),15,[]⟩,
⟨some 52,.indexAddr 7 (.t 49) (.t 51),some (45,true),16,[]⟩,
⟨some 53,.fieldAddr 1 (.t 52),some (45,true),17,[]⟩,
⟨some 54,.load 1 false (.t 53),some (45,true),18,[]⟩,
⟨some 55,.move (.t 5),some (45,true),19,[]⟩,
⟨some 56,.eq .i true (.t 54) (.t 55),some (45,true),20,[]⟩,
⟨some 57,.pick (.t 45) (.t 56) (.c (.bool false)),some (41,false),21,[]⟩,
⟨some 58,.pick (.t 41) (.c (.bool true)) (.t 57),none,22,[]⟩,
⟨some 35,.move (.t 58),none,23,[]⟩] true [0,3,5,35] [3]) (.seq (.cond (.t 35) (.seq (.region [
⟨some 4,.move (.c (.int .i64 18)),none,0,[]⟩] false [4] []) (.keep [4] [] .ret)) (.keep [0,3,5] [3] .skip)) (.keep [0,3,5] [3] .skip)))) (.keep [0,3,5] [3] .skip)))) (.keep [0,3,5] [3] .skip)))) (.keep [0,3,5] [3] (.seq (.region [
⟨some 59,.move (.t 0),none,0,[]⟩,
⟨some 60,.fieldAddr 1 (.t 3),none,1,[]⟩,
⟨some 61,.load 1 false (.t 60),none,2,[]⟩,
⟨some 62,.call 45 [(.t 59,.as),(.t 61,.as)],none,3,[]⟩] false [0,3,5] [3]) (.seq (.region [
⟨some 63,.move (.t 0),none,0,[]⟩,
⟨some 64,.fieldAddr 1 (.t 3),none,1,[]⟩,
⟨some 65,.load 1 false (.t 64),none,2,[]⟩,
⟨some 66,.move (.t 5),none,3,[]⟩,
⟨some 67,.fieldAddr 3 (.t 3),none,4,[]⟩,
⟨some 68,.load 1 false (.t 67),none,5,[]⟩,
⟨some 69,.call 74 [(.t 63,.as),(.t 65,.as),(.t 66,.as),(.t 68,.as)],none,6,[]⟩] false [] []) (.seq (.region [
⟨some 4,.move (.c (.int .i64 0)),none,0,[]⟩] false [4] []) (.keep [4] [] .ret))))))))))) }
theorem ok43:fnSoundB Go.Proofs.Tryz.prog 43 F43=true:=by decide +kernel
def F44:LFunc:={ nparams:=2,results:=[.tmp 4],pure:=false,body :=
 (.seq (.region [
⟨some 4,.move (.c (.int .i64 0)),none,0,[]⟩] false [0,1] []) (.seq (.block 0 (.seq (.region [
⟨some 6,.move (.t 1),none,0,[]⟩,
⟨some 7,.eq .i false (.t 6) (.c (.int .i64 0)),none,1,[]⟩,
⟨some 5,.move (.t 7),none,2,[]⟩] false [0,1,5] []) (.seq (.cond (.t 5) (.seq (.region [
⟨some 4,.move (.c (.int .i64 14)),none,0,[]⟩] false [4] []) (.keep [4] [] .ret)) (.seq (.region [
⟨some 9,.move (.t 0),none,0,[]⟩,
⟨some 10,.move (.t 1),none,1,[]⟩,
⟨some 11,.call 72 [(.t 9,.as),(.t 10,.as)],none,2,[]⟩,
⟨some 12,.un .not (.t 11),none,3,[]⟩,
⟨some 8,.move (.t 12),none,4,[]⟩] false [8] []) (.seq (.cond (.t 8) (.seq (.region [
⟨some 4,.move (.c (.int .i64 13)),none,0,[]⟩] false [4] []) (.keep [4] [] .ret)) (.keep [] [] .skip)) (.keep [] [] .skip)))) (.keep [] [] .skip)))) (.keep [] [] (.seq (.region [
⟨some 4,.move (.c (.int .i64 0)),none,0,[]⟩] false [4] []) (.keep [4] [] .ret))))) }
theorem ok44:fnSoundB Go.Proofs.Tryz.prog 44 F44=true:=by decide +kernel
def F45:LFunc:={ nparams:=2,results:=[],pure:=false,body :=
 (.seq (.region [
⟨some 3,.box true 3 (.t 1),none,0,[]⟩] false [0,3] []) (.seq (.region [
⟨some 5,.move (.t 0),none,0,[]⟩,
⟨some 6,.nilCheck (.t 5),none,1,[]⟩,
⟨some 7,.fieldAddr 0 (.t 6),none,2,[]⟩,
⟨some 8,.load 1 false (.t 7),none,3,[]⟩,
⟨some 9,.load 1 false (.t 3),none,4,[]⟩,
⟨some 10,.indexAddr 7 (.t 8) (.t 9),none,5,[]⟩,
⟨some 11,.fieldAddr 1 (.t 10),none,6,[]⟩,
⟨some 12,.load 1 false (.t 11),none,7,[]⟩,
⟨some 4,.move (.t 12),none,8,[]⟩] true [0,3,4] []) (.seq (.region [
⟨some 13,.move (.t 4),none,0,[]⟩,
⟨some 14,.bin .lss (.t 13) (.c (.int .i64 0)),none,1,[]⟩] false [0,3,4,14] []) (.seq (.cond (.t 14) (.keep [] [] .ret) (.keep [0,3,4] [] .skip)) (.keep [0,3,4] [] (.seq (.draw [
⟨some 15,.move (.t 0),none,0,[]⟩,
⟨some 16,.nilCheck (.t 15),none,1,[]⟩,
⟨some 17,.fieldAddr 0 (.t 16),none,2,[]⟩,
⟨some 18,.load 1 false (.t 17),none,3,[]⟩,
⟨some 19,.move (.t 4),none,4,[]⟩,
⟨some 20,.move (.t 0),none,5,[]⟩,
⟨some 21,.nilCheck (.t 20),none,6,[]⟩,
⟨some 22,.fieldAddr 0 (.t 21),none,7,[]⟩,
⟨some 23,.load 1 false (.t 22),none,8,[]⟩,
⟨some 24,.move (.t 4),none,9,[]⟩,
⟨some 25,.indexAddr 7 (.t 23) (.t 24),none,10,[]⟩,
⟨some 26,.fieldAddr 2 (.t 25),none,11,[]⟩,
⟨some 27,.load 1 false (.t 26),none,12,[]⟩,
⟨some 29,.makeFunc 77 [.t 3],none,14,[]⟩,
⟨some 28,.call 76 [(.t 27,.as)],none,13,[3]⟩,
⟨some 30,.call 75 [(.t 28,.as),(.t 29,.as)],none,15,[3]⟩,
⟨some 31,.indexAddr 7 (.t 18) (.t 19),none,16,[]⟩,
⟨some 32,.fieldAddr 2 (.t 31),none,17,[]⟩,
⟨none,.store 1 false (.t 32) (.t 30),none,18,[]⟩] [0,3] []) (.seq (.draw [
⟨some 33,.move (.t 0),none,0,[]⟩,
⟨some 34,.nilCheck (.t 33),none,1,[]⟩,
⟨some 35,.fieldAddr 0 (.t 34),none,2,[]⟩,
⟨some 36,.load 1 false (.t 35),none,3,[]⟩,
⟨some 37,.load 1 false (.t 3),none,4,[]⟩,
⟨some 38,.indexAddr 7 (.t 36) (.t 37),none,5,[]⟩,
⟨some 39,.fieldAddr 1 (.t 38),none,6,[]⟩,
⟨none,.store 1 false (.t 39) (.c (.int .i64 (-1))),none,7,[]⟩] [] []) (.keep [] [] .skip)))))))) }
theorem ok45:fnSoundB Go.Proofs.Tryz.prog 45 F45=true:=by decide +kernel
def B46x0:LCode :=
 (.seq (.region [
⟨some 16,.bin .lss (.t 15) (.t 14),none,0,[]⟩] false [0,1,13,14,15,16] []) (.seq (.cond (.t 16) (.keep [0,1,13,14,15] [] .skip) (.keep [0,1] [] (.exit 0))) (.keep [0,1,13,14,15] [] (.seq (.block 1 (.seq (.region [
⟨some 17,.indexAddr 1 (.t 13) (.t 15),none,0,[]⟩,
⟨some 18,.load 1 false (.t 17),none,1,[]⟩,
⟨some 5,.move (.t 18),none,2,[]⟩] false [0,1,5,13,14,15] []) (.seq (.region [
⟨some 19,.move (.t 0),none,0,[]⟩,
⟨some 20,.move (.t 5),none,1,[]⟩,
⟨some 21,.call 46 [(.t 19,.as),(.t 20,.freeze)],none,2,[]⟩] false [0,1,13,14,15] []) (.keep [0,1,13,14,15] [] .skip)))) (.keep [0,1,13,14,15] [] (.seq (.region [
⟨some 22,.bin .add (.t 15) (.c (.int .i64 1)),none,0,[]⟩,
⟨some 15,.move (.t 22),none,1,[]⟩] false [0,1,13,14,15] []) (.keep [0,1,13,14,15] [] .skip)))))))
def F46:LFunc:={ nparams:=2,results:=[],pure:=false,body :=
 (.seq (.region [
⟨some 6,.move (.t 0),none,0,[]⟩,
⟨some 7,.nilCheck (.t 6),none,1,[]⟩,
⟨some 8,.fieldAddr 0 (.t 7),none,2,[]⟩,
⟨some 9,.load 1 false (.t 8),none,3,[]⟩,
⟨some 10,.move (.t 1),none,4,[]⟩,
⟨some 11,.indexAddr 7 (.t 9) (.t 10),none,5,[]⟩,
⟨some 12,.fieldAddr 2 (.t 11),none,6,[]⟩,
⟨some 13,.load 1 false (.t 12),none,7,[]⟩,
⟨some 14,.len 1 (.t 13),none,8,[]⟩,
⟨some 15,.move (.c (.int .i64 0)),none,9,[]⟩] false [0,1,13,14,15] []) (.seq (.block 0 (.seq (.keep [0,1,13,14,15] [] (.loop B46x0)) (.keep [0,1] [] .skip))) (.keep [0,1] [] (.seq (.region [
⟨some 23,.move (.t 0),none,0,[]⟩,
⟨some 24,.nilCheck (.t 23),none,1,[]⟩,
⟨some 25,.fieldAddr 0 (.t 24),none,2,[]⟩,
⟨some 26,.load 1 false (.t 25),none,3,[]⟩,
⟨some 27,.move (.t 1),none,4,[]⟩,
⟨some 28,.build [.p (.bool false),.p (.int .i64 0),.nils,.p (.str []),.p (.str []),.p (.str []),.p (.list [])] [(1,1,.c (.int .i64 (-1)))],none,5,[]⟩,
⟨some 29,.indexAddr 7 (.t 26) (.t 27),none,6,[]⟩,
⟨none,.store 7 true (.t 29) (.t 28),none,7,[]⟩] false [] []) (.keep [] [] .skip))))) }
theorem ok46:fnSoundB Go.Proofs.Tryz.prog 46 F46=true:=by decide +kernel
def F47:LFunc:={ nparams:=3,results:=[.tmp 6],pure:=false,body :=
 (.seq (.region [
⟨some 5,.box false 5 (.t 2),none,0,[]⟩,
⟨some 6,.move (.c (.int .i64 0)),none,1,[]⟩] false [1,5] [5]) (.seq (.region [
⟨some 10,.fieldAddr 0 (.t 5),none,0,[]⟩,
⟨some 11,.load 1 false (.t 10),none,1,[]⟩] false [1,5,11] [5]) (.seq (.block 0 (.seq (.region [
⟨some 13,.eq .i false (.t 11) (.c (.int .i64 5)),none,0,[]⟩,
⟨some 12,.move (.t 13),none,1,[]⟩] false [1,5,11,12] [5]) (.seq (.cond (.t 12) (.seq (.region [
⟨some 14,.move (.t 1),none,0,[]⟩,
⟨some 15,.nilCheck (.t 14),none,1,[]⟩,
⟨some 16,.fieldAddr 6 (.t 15),none,2,[]⟩,
⟨some 17,.load 1 false (.t 16),none,3,[]⟩,
⟨some 18,.fieldAddr 6 (.t 5),none,4,[]⟩,
⟨some 19,.load 1 false (.t 18),none,5,[]⟩,
⟨some 20,.fieldAddr 7 (.t 5),none,6,[]⟩,
⟨some 21,.load 1 false (.t 20),none,7,[]⟩,
⟨some 22,.pcall 78 [(.t 17,.as),(.t 19,.as),(.t 21,.as)],none,8,[]⟩,
⟨some 7,.move (.t 22),none,9,[]⟩] true [1,7] []) (.seq (.region [
⟨some 23,.move (.t 7),none,0,[]⟩,
⟨some 24,.len 1 (.t 23),none,1,[]⟩,
⟨some 25,.bin .gtr (.t 24) (.c (.int .i64 64)),none,2,[]⟩] false [1,7,25] []) (.seq (.cond (.t 25) (.seq (.region [
⟨some 6,.move (.c (.int .i64 12)),none,0,[]⟩] false [6] []) (.keep [6] [] .ret)) (.keep [1,7] [] .skip)) (.keep [1,7] [] (.seq (.region [
⟨some 26,.move (.t 1),none,0,[]⟩,
⟨some 27,.move (.t 7),none,1,[]⟩,
⟨some 28,.nilCheck (.t 26),none,2,[]⟩,
⟨some 29,.fieldAddr 6 (.t 28),none,3,[]⟩,
⟨none,.store 1 false (.t 29) (.t 27),none,4,[]⟩] false [] []) (.keep [] [] .skip)))))) (.seq (.region [
⟨some 31,.eq .i false (.t 11) (.c (.int .i64 6)),none,0,[]⟩,
⟨some 30,.move (.t 31),none,1,[]⟩] false [1,5,11,30] [5]) (.seq (.cond (.t 30) (.seq (.region [
⟨some 33,.move (.t 1),none,0,[]⟩,
⟨some 34,.nilCheck (.t 33),none,1,[]⟩,
⟨some 35,.fieldAddr 6 (.t 34),none,2,[]⟩,
⟨some 36,.load 1 false (.t 35),none,3,[]⟩,
⟨some 37,.fieldAddr 6 (.t 5),none,4,[]⟩,
⟨some 38,.load 1 false (.t 37),none,5,[]⟩,
⟨some 39,.pcall 79 [(.t 36,.as),(.t 38,.as)],none,6,[]⟩,
⟨some 32,.move (.t 39),none,7,[]⟩,
⟨some 40,.extract (.t 32) 0,none,8,[]⟩,
⟨some 41,.extract (.t 32) 1,none,9,[]⟩,
⟨some 8,.move (.t 40),none,10,[]⟩,
⟨some 9,.move (.t 41),none,11,[]⟩] true [1,8,9] []) (.seq (.region [
⟨some 42,.move (.t 9),none,0,[]⟩,
⟨some 43,.un .not (.t 42),none,1,[]⟩] false [1,8,43] []) (.seq (.cond (.t 43) (.seq (.region [
⟨some 6,.move (.c (.int .i64 8)),none,0,[]⟩] false [6] []) (.keep [6] [] .ret)) (.keep [1,8] [] .skip)) (.keep [1,8] [] (.seq (.region [
⟨some 44,.move (.t 1),none,0,[]⟩,
⟨some 45,.move (.t 8),none,1,[]⟩,
⟨some 46,.nilCheck (.t 44),none,2,[]⟩,
⟨some 47,.fieldAddr 6 (.t 46),none,3,[]⟩,
⟨none,.store 1 false (.t 47) (.t 45),none,4,[]⟩] false [] []) (.keep [] [] .skip)))))) (.seq (.region [
⟨some 49,.eq .i false (.t 11) (.c (.int .i64 7)),none,0,[]⟩,
⟨some 48,.move (.t 49),none,1,[]⟩] false [1,5,48] [5]) (.seq (.cond (.t 48) (.seq (.region [
⟨some 50,.move (.t 1),none,0,[]⟩,
⟨some 51,.fieldAddr 7 (.t 5),none,1,[]⟩,
⟨some 52,.load 1 false (.t 51),none,2,[]⟩,
⟨some 53,.nilCheck (.t 50),none,3,[]⟩,
⟨some 54,.fieldAddr 5 (.t 53),none,4,[]⟩,
⟨none,.store 1 false (.t 54) (.t 52),none,5,[]⟩] false [] []) (.keep [] [] .skip)) (.keep [] [] .skip)) (.keep [] [] .skip)))) (.keep [] [] .skip)))) (.keep [] [] .skip)))) (.keep [] [] (.seq (.region [
⟨some 6,.move (.c (.int .i64 0)),none,0,[]⟩] false [6] []) (.keep [6] [] .ret)))))) }
theorem ok47:fnSoundB Go.Proofs.Tryz.prog 47 F47=true:=by decide +kernel
def B48x0:LCode :=
 (.seq (.region [
⟨some 22,.bin .lss (.t 21) (.t 20),none,0,[]⟩] false [0,1,3,19,20,21,22] []) (.seq (.cond (.t 22) (.keep [0,1,3,19,20,21] [] .skip) (.keep [1] [] (.exit 0))) (.keep [0,1,3,19,20,21] [] (.seq (.block 1 (.seq (.region [
⟨some 23,.indexAddr 1 (.t 19) (.t 21),none,0,[]⟩,
⟨some 24,.load 1 false (.t 23),none,1,[]⟩,
⟨some 10,.move (.t 24),none,2,[]⟩] false [0,1,3,10,19,20,21] []) (.seq (.region [
⟨some 25,.move (.t 0),none,0,[]⟩,
⟨some 26,.nilCheck (.t 25),none,1,[]⟩,
⟨some 27,.fieldAddr 0 (.t 26),none,2,[]⟩,
⟨some 28,.load 1 false (.t 27),none,3,[]⟩,
⟨some 29,.move (.t 10),none,4,[]⟩,
⟨some 30,.indexAddr 7 (.t 28) (.t 29),none,5,[]⟩,
⟨some 31,.load 7 true (.t 30),none,6,[]⟩,
⟨some 11,.alloc false 11 [.p (.bool false),.p (.int .i64 0),.p (.list []),.p (.str []),.p (.str []),.p (.str []),.p (.list [])] [],none,7,[]⟩,
⟨none,.store 7 true (.t 11) (.t 31),none,8,[]⟩] false [0,1,3,10,11,19,20,21] [11]) (.seq (.draw [
⟨some 32,.move (.t 1),none,0,[]⟩,
⟨some 33,.move (.t 10),none,1,[]⟩,
⟨some 34,.move (.t 3),none,2,[]⟩,
⟨some 35,.fieldAddr 3 (.t 11),none,3,[]⟩,
⟨some 36,.load 1 false (.t 35),none,4,[]⟩,
⟨some 37,.fieldAddr 4 (.t 11),none,5,[]⟩,
⟨some 38,.load 1 false (.t 37),none,6,[]⟩,
⟨some 39,.fieldAddr 5 (.t 11),none,7,[]⟩,
⟨some 40,.load 1 false (.t 39),none,8,[]⟩,
⟨some 41,.fieldAddr 6 (.t 11),none,9,[]⟩,
⟨some 42,.load 1 false (.t 41),none,10,[]⟩,
⟨some 43,.pcall 37 [(.t 42,.as)],none,11,[]⟩,
⟨some 44,.build [.p (.int .i64 0),.p (.int .i64 0),.p (.str []),.p (.str []),.p (.str []),.p (.list [])] [(0,1,.t 33),(1,1,.t 34),(2,1,.t 36),(3,1,.t 38),(4,1,.t 40),(5,1,.t 43)],none,12,[]⟩,
⟨some 45,.row 6 [.t 44],none,13,[]⟩,
⟨some 46,.append true 1000 6 88 (.t 32) (.t 45),none,14,[]⟩,
⟨some 1,.move (.t 46),none,15,[]⟩] [0,1,3,10,19,20,21] []) (.seq (.region [
⟨some 47,.move (.t 0),none,0,[]⟩,
⟨some 48,.move (.t 1),none,1,[]⟩,
⟨some 49,.move (.t 10),none,2,[]⟩,
⟨some 50,.move (.t 1),none,3,[]⟩,
⟨some 51,.len 1 (.t 50),none,4,[]⟩,
⟨some 52,.call 48 [(.t 47,.as),(.t 48,.as),(.t 49,.as),(.t 51,.as)],none,5,[]⟩,
⟨some 1,.move (.t 52),none,6,[]⟩] false [0,1,3,19,20,21] []) (.keep [0,1,3,19,20,21] [] .skip)))))) (.keep [0,1,3,19,20,21] [] (.seq (.region [
⟨some 53,.bin .add (.t 21) (.c (.int .i64 1)),none,0,[]⟩,
⟨some 21,.move (.t 53),none,1,[]⟩] false [0,1,3,19,20,21] []) (.keep [0,1,3,19,20,21] [] .skip)))))))
def F48:LFunc:={ nparams:=4,results:=[.tmp 8],pure:=false,body :=
 (.seq (.region [
⟨some 8,.move (.c (.list [])),none,0,[]⟩] false [0,1,2,3] []) (.seq (.region [
⟨some 12,.move (.t 0),none,0,[]⟩,
⟨some 13,.nilCheck (.t 12),none,1,[]⟩,
⟨some 14,.fieldAddr 0 (.t 13),none,2,[]⟩,
⟨some 15,.load 1 false (.t 14),none,3,[]⟩,
⟨some 16,.move (.t 2),none,4,[]⟩,
⟨some 17,.indexAddr 7 (.t 15) (.t 16),none,5,[]⟩,
⟨some 18,.fieldAddr 2 (.t 17),none,6,[]⟩,
⟨some 19,.load 1 false (.t 18),none,7,[]⟩,
⟨some 20,.len 1 (.t 19),none,8,[]⟩,
⟨some 21,.move (.c (.int .i64 0)),none,9,[]⟩] false [0,1,3,19,20,21] []) (.seq (.block 0 (.seq (.keep [0,1,3,19,20,21] [] (.loop B48x0)) (.keep [1] [] .skip))) (.keep [1] [] (.seq (.region [
⟨some 54,.move (.t 1),none,0,[]⟩,
⟨some 8,.move (.t 54),none,1,[]⟩] false [8] []) (.keep [8] [] .ret)))))) }
theorem ok48:fnSoundB Go.Proofs.Tryz.prog 48 F48=true:=by decide +kernel
def F49:LFunc:={ nparams:=1,results:=[.tmp 2],pure:=false,body :=
 (.seq (.region [
⟨some 2,.move (.c (.nilp)),none,0,[]⟩] false [0] []) (.seq (.region [
⟨some 3,.build [.p (.int .i64 0),.p (.int .i64 0),.nils,.p (.str []),.p (.str []),.p (.str []),.p (.list [])] [(1,1,.c (.int .i64 (-1)))],none,0,[]⟩,
⟨some 4,.rowOwn true 4 7 [.t 3],none,1,[]⟩,
⟨some 5,.move (.t 0),none,2,[]⟩,
⟨some 6,.build [.nils,.p (.int .i64 0)] [(0,1,.t 4),(1,1,.t 5)],none,3,[]⟩,
⟨some 7,.box true 7 (.t 6),none,4,[]⟩,
⟨some 2,.move (.t 7),none,5,[]⟩] false [2] []) (.keep [2] [] .ret))) }
theorem ok49:fnSoundB Go.Proofs.Tryz.prog 49 F49=true:=by decide +kernel
def B50x0:LCode :=
 (.seq (.region [
⟨some 25,.bin .lss (.t 24) (.t 23),none,0,[]⟩] false [0,1,3,9,23,24,25] []) (.seq (.cond (.t 25) (.keep [0,1,3,9,23,24] [] .skip) (.keep [1] [] (.exit 0))) (.keep [0,1,3,9,23,24] [] (.seq (.block 1 (.seq (.region [
⟨some 26,.move (.t 24),none,0,[]⟩,
⟨some 10,.move (.t 26),none,1,[]⟩] false [0,1,3,9,10,23,24] []) (.seq (.draw [
⟨some 27,.move (.t 0),none,0,[]⟩,
⟨some 28,.nilCheck (.t 27),none,1,[]⟩,
⟨some 29,.fieldAddr 0 (.t 28),none,2,[]⟩,
⟨some 30,.load 1 false (.t 29),none,3,[]⟩,
⟨some 31,.move (.t 0),none,4,[]⟩,
⟨some 32,.move (.t 9),none,5,[]⟩,
⟨some 33,.move (.t 10),none,6,[]⟩,
⟨some 34,.indexAddr 1 (.t 32) (.t 33),none,7,[]⟩,
⟨some 35,.load 1 false (.t 34),none,8,[]⟩,
⟨some 36,.rcall 80 [.t 31,.t 35],none,9,[]⟩,
⟨some 37,.indexAddr 7 (.t 30) (.t 36),none,10,[]⟩,
⟨some 38,.load 7 true (.t 37),none,11,[]⟩,
⟨some 11,.alloc false 11 [.p (.int .i64 0),.p (.int .i64 0),.p (.list []),.p (.str []),.p (.str []),.p (.str []),.p (.list [])] [],none,12,[3,7,8,9,10,11]⟩,
⟨none,.store 7 true (.t 11) (.t 38),none,13,[]⟩] [0,1,3,9,10,11,23,24] [11]) (.seq (.region [
⟨some 39,.move (.t 1),none,0,[]⟩,
⟨some 40,.fieldAddr 0 (.t 11),none,1,[]⟩,
⟨some 41,.load 1 false (.t 40),none,2,[]⟩,
⟨some 42,.move (.t 3),none,3,[]⟩,
⟨some 43,.fieldAddr 3 (.t 11),none,4,[]⟩,
⟨some 44,.load 1 false (.t 43),none,5,[]⟩,
⟨some 45,.fieldAddr 4 (.t 11),none,6,[]⟩,
⟨some 46,.load 1 false (.t 45),none,7,[]⟩,
⟨some 47,.fieldAddr 5 (.t 11),none,8,[]⟩,
⟨some 48,.load 1 false (.t 47),none,9,[]⟩,
⟨some 49,.fieldAddr 6 (.t 11),none,10,[]⟩,
⟨some 50,.load 1 false (.t 49),none,11,[]⟩,
⟨some 51,.build [.p (.int .i64 0),.p (.int .i64 0),.p (.str []),.p (.str []),.p (.str []),.p (.list [])] [(0,1,.t 41),(1,1,.t 42),(2,1,.t 44),(3,1,.t 46),(4,1,.t 48),(5,1,.t 50)],none,12,[]⟩,
⟨some 52,.row 6 [.t 51],none,13,[]⟩,
⟨some 53,.append true 1000 6 88 (.t 39) (.t 52),none,14,[]⟩,
⟨some 1,.move (.t 53),none,15,[]⟩] false [0,1,3,9,10,23,24] []) (.seq (.region [
⟨some 54,.move (.t 0),none,0,[]⟩,
⟨some 55,.move (.t 1),none,1,[]⟩,
⟨some 56,.move (.t 9),none,2,[]⟩,
⟨some 57,.move (.t 10),none,3,[]⟩,
⟨some 58,.indexAddr 1 (.t 56) (.t 57),none,4,[]⟩,
⟨some 59,.load 1 false (.t 58),none,5,[]⟩,
⟨some 60,.move (.t 1),none,6,[]⟩,
⟨some 61,.len 1 (.t 60),none,7,[]⟩,
⟨some 62,.call 50 [(.t 54,.as),(.t 55,.as),(.t 59,.as),(.t 61,.as)],none,8,[]⟩,
⟨some 1,.move (.t 62),none,9,[]⟩] false [0,1,3,9,23,24] []) (.keep [0,1,3,9,23,24] [] .skip)))))) (.keep [0,1,3,9,23,24] [] (.seq (.region [
⟨some 63,.bin .add (.t 24) (.c (.int .i64 1)),none,0,[]⟩,
⟨some 24,.move (.t 63),none,1,[]⟩] false [0,1,3,9,23,24] []) (.keep [0,1,3,9,23,24] [] .skip)))))))
def F50:LFunc:={ nparams:=4,results:=[.tmp 8],pure:=false,body :=
 (.seq (.region [
⟨some 8,.move (.c (.list [])),none,0,[]⟩] false [0,1,2,3] []) (.seq (.draw [
⟨some 12,.move (.t 0),none,0,[]⟩,
⟨some 13,.nilCheck (.t 12),none,1,[]⟩,
⟨some 14,.fieldAddr 0 (.t 13),none,2,[]⟩,
⟨some 15,.load 1 false (.t 14),none,3,[]⟩,
⟨some 16,.move (.t 0),none,4,[]⟩,
⟨some 17,.move (.t 2),none,5,[]⟩,
⟨some 18,.call 80 [(.t 16,.as),(.t 17,.as)],none,6,[3]⟩,
⟨some 19,.indexAddr 7 (.t 15) (.t 18),none,7,[]⟩,
⟨some 20,.fieldAddr 2 (.t 19),none,8,[]⟩,
⟨some 21,.load 1 false (.t 20),none,9,[]⟩,
⟨some 9,.move (.t 21),none,10,[]⟩] [0,1,3,9] []) (.seq (.region [
⟨some 22,.move (.t 9),none,0,[]⟩,
⟨some 23,.len 1 (.t 22),none,1,[]⟩,
⟨some 24,.move (.c (.int .i64 0)),none,2,[]⟩] false [0,1,3,9,23,24] []) (.seq (.block 0 (.seq (.keep [0,1,3,9,23,24] [] (.loop B50x0)) (.keep [1] [] .skip))) (.keep [1] [] (.seq (.region [
⟨some 64,.move (.t 1),none,0,[]⟩,
⟨some 8,.move (.t 64),none,1,[]⟩] false [8] []) (.keep [8] [] .ret))))))) }
theorem ok50:fnSoundB Go.Proofs.Tryz.prog 50 F50=true:=by decide +kernel
def F51:LFunc:={ nparams:=1,results:=[.tmp 2],pure:=true,body :=
 (.seq (.region [
⟨some 1,.box false 1 (.t 0),none,0,[]⟩,
⟨some 2,.move (.c (.int .i64 0)),none,1,[]⟩] false [1] [1]) (.seq (.region [
⟨some 5,.fieldAddr 0 (.t 1),none,0,[]⟩,
⟨some 6,.load 1 false (.t 5),none,1,[]⟩,
⟨some 7,.bin .lss (.t 6) (.c (.int .i64 1)),none,2,[]⟩,
⟨some 8,.move (.t 7),none,3,[]⟩,
⟨some 9,.fieldAddr 0 (.t 1),some (8,false),4,[]⟩,
⟨some 10,.load 1 false (.t 9),some (8,false),5,[]⟩,
⟨some 11,.bin .gtr (.t 10) (.c (.int .i64 7)),some (8,false),6,[]⟩,
⟨some 12,.pick (.t 8) (.c (.bool true)) (.t 11),none,7,[]⟩] false [1,12] [1]) (.seq (.cond (.t 12) (.seq (.region [
⟨some 2,.move (.c (.int .i64 6)),none,0,[]⟩] false [2] []) (.keep [2] [] .ret)) (.keep [1] [1] .skip)) (.keep [1] [1] (.seq (.region [
⟨some 13,.fieldAddr 1 (.t 1),none,0,[]⟩,
⟨some 14,.load 1 false (.t 13),none,1,[]⟩,
⟨some 15,.pcall 81 [(.t 14,.as)],none,2,[]⟩,
⟨some 16,.move (.t 15),none,3,[]⟩,
⟨some 17,.fieldAddr 2 (.t 1),some (16,false),4,[]⟩,
⟨some 18,.load 1 false (.t 17),some (16,false),5,[]⟩,
⟨some 19,.pcall 81 [(.t 18,.as)],some (16,false),6,[]⟩,
⟨some 20,.pick (.t 16) (.c (.bool true)) (.t 19),none,7,[]⟩,
⟨some 21,.move (.t 20),none,8,[]⟩,
⟨some 22,.fieldAddr 3 (.t 1),some (21,false),9,[]⟩,
⟨some 23,.load 1 false (.t 22),some (21,false),10,[]⟩,
⟨some 24,.pcall 81 [(.t 23,.as)],some (21,false),11,[]⟩,
⟨some 25,.pick (.t 21) (.c (.bool true)) (.t 24),none,12,[]⟩] false [1,25] [1]) (.seq (.cond (.t 25) (.seq (.region [
⟨some 2,.move (.c (.int .i64 5)),none,0,[]⟩] false [2] []) (.keep [2] [] .ret)) (.keep [1] [1] .skip)) (.keep [1] [1] (.seq (.region [
⟨some 26,.load 9 true (.t 1),none,0,[]⟩,
⟨some 27,.pcall 82 [(.t 26,.as)],none,1,[]⟩] false [1,27] [1]) (.seq (.cond (.t 27) (.seq (.region [
⟨some 2,.move (.c (.int .i64 2)),none,0,[]⟩] false [2] []) (.keep [2] [] .ret)) (.keep [1] [1] .skip)) (.keep [1] [1] (.seq (.region [
⟨some 28,.fieldAddr 0 (.t 1),none,0,[]⟩,
⟨some 29,.load 1 false (.t 28),none,1,[]⟩,
⟨some 30,.eq .i false (.t 29) (.c (.int .i64 1)),none,2,[]⟩,
⟨some 31,.move (.t 30),none,3,[]⟩,
⟨some 32,.fieldAddr 4 (.t 1),some (31,true),4,[]⟩,
⟨some 33,.load 1 false (.t 32),some (31,true),5,[]⟩,
⟨some 34,.pcall 63 [(.t 33,.as),(.c (.bool false),.as)],some (31,true),6,[]⟩,
⟨some 35,.un .not (.t 34),some (31,true),7,[]⟩,
⟨some 36,.pick (.t 31) (.t 35) (.c (.bool false)),none,8,[]⟩] false [1,36] [1]) (.seq (.cond (.t 36) (.seq (.region [
⟨some 2,.move (.c (.int .i64 7)),none,0,[]⟩] false [2] []) (.keep [2] [] .ret)) (.keep [1] [1] .skip)) (.keep [1] [1] (.seq (.region [
⟨some 37,.fieldAddr 0 (.t 1),none,0,[]⟩,
⟨some 38,.load 1 false (.t 37),none,1,[]⟩,
⟨some 39,.eq .i false (.t 38) (.c (.int .i64 5)),none,2,[]⟩,
⟨some 40,.move (.t 39),none,3,[]⟩,
⟨some 41,.fieldAddr 0 (.t 1),some (40,false),4,[]⟩,
⟨some 42,.load 1 false (.t 41),some (40,false),5,[]⟩,
⟨some 43,.eq .i false (.t 42) (.c (.int .i64 6)),some (40,false),6,[]⟩,
⟨some 44,.pick (.t 40) (.c (.bool true)) (.t 43),none,7,[]⟩,
⟨some 45,.move (.t 44),none,8,[]⟩,
⟨some 46,.fieldAddr 6 (.t 1),some (45,true),9,[]⟩,
⟨some 47,.load 1 false (.t 46),some (45,true),10,[]⟩,
⟨some 48,.pcall 63 [(.t 47,.as),(.c (.bool true),.as)],some (45,true),11,[]⟩,
⟨some 49,.un .not (.t 48),some (45,true),12,[]⟩,
⟨some 50,.pick (.t 45) (.t 49) (.c (.bool false)),none,13,[]⟩] false [1,50] [1]) (.seq (.cond (.t 50) (.seq (.region [
⟨some 2,.move (.c (.int .i64 8)),none,0,[]⟩] false [2] []) (.keep [2] [] .ret)) (.keep [1] [1] .skip)) (.keep [1] [1] (.seq (.region [
⟨some 51,.fieldAddr 5 (.t 1),none,0,[]⟩,
⟨some 52,.load 1 false (.t 51),none,1,[]⟩,
⟨some 53,.len 0 (.t 52),none,2,[]⟩,
⟨some 54,.bin .gtr (.t 53) (.c (.int .i64 65536)),none,3,[]⟩,
⟨some 55,.move (.t 54),none,4,[]⟩,
⟨some 56,.fieldAddr 7 (.t 1),some (55,false),5,[]⟩,
⟨some 57,.load 1 false (.t 56),some (55,false),6,[]⟩,
⟨some 58,.len 0 (.t 57),some (55,false),7,[]⟩,
⟨some 59,.bin .gtr (.t 58) (.c (.int .i64 65536)),some (55,false),8,[]⟩,
⟨some 60,.pick (.t 55) (.c (.bool true)) (.t 59),none,9,[]⟩] false [1,60] [1]) (.seq (.cond (.t 60) (.seq (.region [
⟨some 2,.move (.c (.int .i64 3)),none,0,[]⟩] false [2] []) (.keep [2] [] .ret)) (.keep [1] [1] .skip)) (.keep [1] [1] (.seq (.region [
⟨some 62,.fieldAddr 8 (.t 1),none,0,[]⟩,
⟨some 63,.load 1 false (.t 62),none,1,[]⟩,
⟨some 64,.pcall 64 [(.t 63,.as)],none,2,[]⟩,
⟨some 61,.move (.t 64),none,3,[]⟩,
⟨some 65,.extract (.t 61) 0,none,4,[]⟩,
⟨some 66,.extract (.t 61) 1,none,5,[]⟩,
⟨some 3,.move (.t 65),none,6,[]⟩,
⟨some 4,.move (.t 66),none,7,[]⟩] false [4] []) (.seq (.region [
⟨some 67,.move (.t 4),none,0,[]⟩,
⟨some 2,.move (.t 67),none,1,[]⟩] false [2] []) (.keep [2] [] .ret)))))))))))))))))))))) }
theorem ok51:fnSoundB Go.Proofs.Tryz.prog 51 F51=true:=by decide +kernel
def F52:LFunc:={ nparams:=2,results:=[.tmp 4,.tmp 5],pure:=false,body :=
 (.seq (.region [
⟨some 3,.box false 3 (.t 1),none,0,[]⟩,
⟨some 4,.move (.c (.int .i64 0)),none,1,[]⟩,
⟨some 5,.move (.c (.int .i64 0)),none,2,[]⟩] false [0,3] [3]) (.seq (.region [
⟨some 6,.fieldAddr 0 (.t 3),none,0,[]⟩,
⟨some 7,.load 1 false (.t 6),none,1,[]⟩] false [0,3,7] [3]) (.seq (.block 0 (.seq (.region [
⟨some 9,.eq .i false (.t 7) (.c (.int .i64 1)),none,0,[]⟩,
⟨some 8,.move (.t 9),none,1,[]⟩] false [0,3,7,8] [3]) (.seq (.cond (.t 8) (.seq (.region [
⟨some 10,.move (.t 0),none,0,[]⟩,
⟨some 11,.fieldAddr 4 (.t 3),none,1,[]⟩,
⟨some 12,.load 1 false (.t 11),none,2,[]⟩,
⟨some 13,.fieldAddr 5 (.t 3),none,3,[]⟩,
⟨some 14,.load 1 false (.t 13),none,4,[]⟩,
⟨some 15,.fieldAddr 7 (.t 3),none,5,[]⟩,
⟨some 16,.load 1 false (.t 15),none,6,[]⟩,
⟨some 17,.fieldAddr 8 (.t 3),none,7,[]⟩,
⟨some 18,.load 1 false (.t 17),none,8,[]⟩,
⟨some 19,.call 83 [(.t 10,.as),(.t 12,.as),(.t 14,.as),(.t 16,.as),(.t 18,.as)],none,9,[]⟩,
⟨some 20,.extract (.t 19) 0,none,10,[]⟩,
⟨some 21,.extract (.t 19) 1,none,11,[]⟩,
⟨some 4,.move (.t 20),none,12,[]⟩,
⟨some 5,.move (.t 21),none,13,[]⟩] false [4,5] []) (.keep [4,5] [] .ret)) (.seq (.region [
⟨some 23,.eq .i false (.t 7) (.c (.int .i64 2)),none,0,[]⟩,
⟨some 22,.move (.t 23),none,1,[]⟩] false [0,3,7,22] [3]) (.seq (.cond (.t 22) (.seq (.region [
⟨some 24,.move (.t 0),none,0,[]⟩,
⟨some 25,.fieldAddr 1 (.t 3),none,1,[]⟩,
⟨some 26,.load 1 false (.t 25),none,2,[]⟩,
⟨some 27,.fieldAddr 2 (.t 3),none,3,[]⟩,
⟨some 28,.load 1 false (.t 27),none,4,[]⟩,
⟨some 29,.fieldAddr 3 (.t 3),none,5,[]⟩,
⟨some 30,.load 1 false (.t 29),none,6,[]⟩,
⟨some 31,.call 84 [(.t 24,.as),(.t 26,.as),(.t 28,.as),(.t 30,.as)],none,7,[]⟩,
⟨some 4,.move (.c (.int .i64 0)),none,8,[]⟩,
⟨some 5,.move (.t 31),none,9,[]⟩] false [4,5] []) (.keep [4,5] [] .ret)) (.seq (.region [
⟨some 33,.eq .i false (.t 7) (.c (.int .i64 3)),none,0,[]⟩,
⟨some 32,.move (.t 33),none,1,[]⟩] false [0,3,7,32] [3]) (.seq (.cond (.t 32) (.seq (.region [
⟨some 34,.move (.t 0),none,0,[]⟩,
⟨some 35,.fieldAddr 1 (.t 3),none,1,[]⟩,
⟨some 36,.load 1 false (.t 35),none,2,[]⟩,
⟨some 37,.fieldAddr 3 (.t 3),none,3,[]⟩,
⟨some 38,.load 1 false (.t 37),none,4,[]⟩,
⟨some 39,.call 85 [(.t 34,.as),(.t 36,.as),(.t 38,.as)],none,5,[]⟩,
⟨some 4,.move (.c (.int .i64 0)),none,6,[]⟩,
⟨some 5,.move (.t 39),none,7,[]⟩] false [4,5] []) (.keep [4,5] [] .ret)) (.seq (.region [
⟨some 41,.eq .i false (.t 7) (.c (.int .i64 4)),none,0,[]⟩,
⟨some 40,.move (.t 41),none,1,[]⟩] false [0,3,7,40] [3]) (.seq (.cond (.t 40) (.seq (.region [
⟨some 42,.move (.t 0),none,0,[]⟩,
⟨some 43,.fieldAddr 1 (.t 3),none,1,[]⟩,
⟨some 44,.load 1 false (.t 43),none,2,[]⟩,
⟨some 45,.call 86 [(.t 42,.as),(.t 44,.as)],none,3,[]⟩,
⟨some 4,.move (.c (.int .i64 0)),none,4,[]⟩,
⟨some 5,.move (.t 45),none,5,[]⟩] false [4,5] []) (.keep [4,5] [] .ret)) (.seq (.region [
⟨some 47,.eq .i false (.t 7) (.c (.int .i64 5)),none,0,[]⟩,
⟨some 46,.move (.t 47),none,1,[]⟩] false [0,3,7,46] [3]) (.seq (.cond (.t 46) (.seq (.region [
⟨some 48,.move (.t 0),none,0,[]⟩,
⟨some 49,.fieldAddr 1 (.t 3),none,1,[]⟩,
⟨some 50,.load 1 false (.t 49),none,2,[]⟩,
⟨some 51,.fieldAddr 6 (.t 3),none,3,[]⟩,
⟨some 52,.load 1 false (.t 51),none,4,[]⟩,
⟨some 53,.fieldAddr 7 (.t 3),none,5,[]⟩,
⟨some 54,.load 1 false (.t 53),none,6,[]⟩,
⟨some 55,.call 87 [(.t 48,.as),(.t 50,.as),(.t 52,.as),(.t 54,.as)],none,7,[]⟩,
⟨some 4,.move (.c (.int .i64 0)),none,8,[]⟩,
⟨some 5,.move (.t 55),none,9,[]⟩] false [4,5] []) (.keep [4,5] [] .ret)) (.seq (.region [
⟨some 57,.eq .i false (.t 7) (.c (.int .i64 6)),none,0,[]⟩,
⟨some 56,.move (.t 57),none,1,[]⟩] false [0,3,7,56] [3]) (.seq (.cond (.t 56) (.seq (.region [
⟨some 58,.move (.t 0),none,0,[]⟩,
⟨some 59,.fieldAddr 1 (.t 3),none,1,[]⟩,
⟨some 60,.load 1 false (.t 59),none,2,[]⟩,
⟨some 61,.fieldAddr 6 (.t 3),none,3,[]⟩,
⟨some 62,.load 1 false (.t 61),none,4,[]⟩,
⟨some 63,.call 88 [(.t 58,.as),(.t 60,.as),(.t 62,.as)],none,5,[]⟩,
⟨some 4,.move (.c (.int .i64 0)),none,6,[]⟩,
⟨some 5,.move (.t 63),none,7,[]⟩] false [4,5] []) (.keep [4,5] [] .ret)) (.seq (.region [
⟨some 65,.eq .i false (.t 7) (.c (.int .i64 7)),none,0,[]⟩,
⟨some 64,.move (.t 65),none,1,[]⟩] false [0,3,64] [3]) (.seq (.cond (.t 64) (.seq (.region [
⟨some 66,.move (.t 0),none,0,[]⟩,
⟨some 67,.fieldAddr 1 (.t 3),none,1,[]⟩,
⟨some 68,.load 1 false (.t 67),none,2,[]⟩,
⟨some 69,.fieldAddr 7 (.t 3),none,3,[]⟩,
⟨some 70,.load 1 false (.t 69),none,4,[]⟩,
⟨some 71,.call 89 [(.t 66,.as),(.t 68,.as),(.t 70,.as)],none,5,[]⟩,
⟨some 4,.move (.c (.int .i64 0)),none,6,[]⟩,
⟨some 5,.move (.t 71),none,7,[]⟩] false [4,5] []) (.keep [4,5] [] .ret)) (.keep [] [] .skip)) (.keep [] [] .skip)))) (.keep [] [] .skip)))) (.keep [] [] .skip)))) (.keep [] [] .skip)))) (.keep [] [] .skip)))) (.keep [] [] .skip)))) (.keep [] [] .skip)))) (.keep [] [] (.seq (.region [
⟨some 4,.move (.c (.int .i64 0)),none,0,[]⟩,
⟨some 5,.move (.c (.int .i64 0)),none,1,[]⟩] false [4,5] []) (.keep [4,5] [] .ret)))))) }
theorem ok52:fnSoundB Go.Proofs.Tryz.prog 52 F52=true:=by decide +kernel
def B60x0:LCode :=
 (.seq (.region [
⟨some 14,.bin .lss (.t 13) (.t 12),none,0,[]⟩] false [0,1,12,13,14] []) (.seq (.cond (.t 14) (.keep [0,1,12,13] [] .skip) (.keep [] [] (.exit 0))) (.keep [0,1,12,13] [] (.seq (.block 1 (.seq (.region [
⟨some 15,.move (.t 13),none,0,[]⟩,
⟨some 5,.move (.t 15),none,1,[]⟩] false [0,1,5,12,13] []) (.seq (.region [
⟨some 16,.move (.t 0),none,0,[]⟩,
⟨some 17,.move (.t 5),none,1,[]⟩,
⟨some 18,.indexAddr 2 (.t 16) (.t 17),none,2,[]⟩,
⟨some 19,.load 2 true (.t 18),none,3,[]⟩,
⟨some 20,.move (.t 1),none,4,[]⟩,
⟨some 21,.move (.t 5),none,5,[]⟩,
⟨some 22,.indexAddr 2 (.t 20) (.t 21),none,6,[]⟩,
⟨some 23,.load 2 true (.t 22),none,7,[]⟩,
⟨some 24,.eq (.st [2,2]) true (.t 19) (.t 23),none,8,[]⟩] true [0,1,12,13,24] []) (.seq (.cond (.t 24) (.seq (.region [
⟨some 4,.move (.c (.bool false)),none,0,[]⟩] false [4] []) (.keep [4] [] .ret)) (.keep [0,1,12,13] [] .skip)) (.keep [0,1,12,13] [] .skip))))) (.keep [0,1,12,13] [] (.seq (.region [
⟨some 25,.bin .add (.t 13) (.c (.int .i64 1)),none,0,[]⟩,
⟨some 13,.move (.t 25),none,1,[]⟩] false [0,1,12,13] []) (.keep [0,1,12,13] [] .skip)))))))
def F60:LFunc:={ nparams:=2,results:=[.tmp 4],pure:=true,body :=
 (.seq (.region [
⟨some 4,.move (.c (.bool false)),none,0,[]⟩] false [0,1] []) (.seq (.region [
⟨some 6,.move (.t 0),none,0,[]⟩,
⟨some 7,.len 1 (.t 6),none,1,[]⟩,
⟨some 8,.move (.t 1),none,2,[]⟩,
⟨some 9,.len 1 (.t 8),none,3,[]⟩,
⟨some 10,.eq .i true (.t 7) (.t 9),none,4,[]⟩] false [0,1,10] []) (.seq (.cond (.t 10) (.seq (.region [
⟨some 4,.move (.c (.bool false)),none,0,[]⟩] false [4] []) (.keep [4] [] .ret)) (.keep [0,1] [] .skip)) (.keep [0,1] [] (.seq (.region [
⟨some 11,.move (.t 0),none,0,[]⟩,
⟨some 12,.len 1 (.t 11),none,1,[]⟩,
⟨some 13,.move (.c (.int .i64 0)),none,2,[]⟩] false [0,1,12,13] []) (.seq (.block 0 (.seq (.keep [0,1,12,13] [] (.loop B60x0)) (.keep [] [] .skip))) (.keep [] [] (.seq (.region [
⟨some 4,.move (.c (.bool true)),none,0,[]⟩] false [4] []) (.keep [4] [] .ret))))))))) }
theorem ok60:fnSoundB Go.Proofs.Tryz.prog 60 F60=true:=by decide +kernel
def F61:LFunc:={ nparams:=1,results:=[.cell 2 5 true,.tmp 3],pure:=true,body :=
 (.seq (.region [
⟨some 2,.alloc false 2 [.p (.str []),.p (.str []),.p (.str []),.p (.list []),.p (.list [])] [],none,0,[]⟩,
⟨some 3,.move (.c (.int .i64 0)),none,1,[]⟩] false [0,2] [2,1000,1001,1002]) (.seq (.block 0 (.seq (.region [
⟨some 9,.move (.t 0),none,0,[]⟩,
⟨some 10,.len 1 (.t 9),none,1,[]⟩,
⟨some 11,.eq .i false (.t 10) (.c (.int .i64 0)),none,2,[]⟩,
⟨some 8,.move (.t 11),none,3,[]⟩] false [0,2,8] [2,1000,1001,1002]) (.seq (.cond (.t 8) (.seq (.region [
⟨some 12,.build [.p (.str []),.p (.str []),.p (.str []),.p (.list []),.nils] [],none,0,[]⟩,
⟨none,.store 5 true (.t 2) (.t 12),none,1,[]⟩,
⟨some 3,.move (.c (.int .i64 23)),none,2,[]⟩] false [2,3] [2,1000,1001,1002]) (.keep [2,3] [2,1000,1001,1002] .ret)) (.seq (.region [
⟨some 14,.move (.t 0),none,0,[]⟩,
⟨some 15,.pcall 94 [(.t 14,.as)],none,1,[]⟩,
⟨some 16,.un .not (.t 15),none,2,[]⟩,
⟨some 13,.move (.t 16),none,3,[]⟩] false [0,2,13] [2,1000,1001,1002]) (.seq (.cond (.t 13) (.seq (.region [
⟨some 17,.build [.p (.str []),.p (.str []),.p (.str []),.p (.list []),.nils] [],none,0,[]⟩,
⟨none,.store 5 true (.t 2) (.t 17),none,1,[]⟩,
⟨some 3,.move (.c (.int .i64 2)),none,2,[]⟩] false [2,3] [2,1000,1001,1002]) (.keep [2,3] [2,1000,1001,1002] .ret)) (.keep [0,2] [2,1000,1001,1002] .skip)) (.keep [0,2] [2,1000,1001,1002] .skip)))) (.keep [0,2] [2,1000,1001,1002] .skip)))) (.keep [0,2] [2,1000,1001,1002] (.seq (.region [
⟨some 18,.move (.t 0),none,0,[]⟩,
⟨some 19,.pcall 95 [(.t 18,.as)],none,1,[]⟩] false [0,2,19] [2,1000,1001,1002]) (.seq (.cond (.t 19) (.seq (.region [
⟨some 20,.move (.t 0),none,0,[]⟩,
⟨some 21,.pcall 96 [(.t 20,.as)],none,1,[]⟩,
⟨some 0,.move (.t 21),none,2,[]⟩] false [0,2] [2,1000,1001,1002]) (.keep [0,2] [2,1000,1001,1002] .skip)) (.keep [0,2] [2,1000,1001,1002] .skip)) (.keep [0,2] [2,1000,1001,1002] (.seq (.region [
⟨some 23,.move (.t 0),none,0,[]⟩,
⟨some 24,.pcall 97 [(.t 23,.as),(.c (.int .i64 0),.as)],none,1,[]⟩,
⟨some 22,.move (.t 24),none,2,[]⟩,
⟨some 25,.extract (.t 22) 0,none,3,[]⟩,
⟨some 26,.extract (.t 22) 1,none,4,[]⟩,
⟨some 4,.alloc false 4 [.p (.str []),.p (.str []),.p (.str []),.p (.list []),.p (.list [])] [],none,5,[]⟩,
⟨none,.store 5 true (.t 4) (.t 25),none,6,[]⟩,
⟨some 5,.move (.t 26),none,7,[]⟩] false [2,4] [2,4,1000,1001,1002]) (.seq (.region [
⟨some 28,.load 5 true (.t 4),none,0,[]⟩,
⟨some 29,.pcall 98 [(.t 28,.as)],none,1,[]⟩,
⟨some 27,.move (.t 29),none,2,[]⟩,
⟨some 30,.extract (.t 27) 0,none,3,[]⟩,
⟨some 31,.extract (.t 27) 1,none,4,[]⟩,
⟨some 6,.move (.t 30),none,5,[]⟩,
⟨some 7,.move (.t 31),none,6,[]⟩] false [2,4,7] [2,4,1000,1001,1002]) (.seq (.region [
⟨some 32,.move (.t 7),none,0,[]⟩,
⟨some 33,.eq .i true (.t 32) (.c (.int .i64 0)),none,1,[]⟩] false [2,4,7,33] [2,4,1000,1001,1002]) (.seq (.cond (.t 33) (.seq (.region [
⟨some 34,.build [.p (.str []),.p (.str []),.p (.str []),.p (.list []),.nils] [],none,0,[]⟩,
⟨some 35,.move (.t 7),none,1,[]⟩,
⟨none,.store 5 true (.t 2) (.t 34),none,2,[]⟩,
⟨some 3,.move (.t 35),none,3,[]⟩] false [2,3] [2,1000,1001,1002]) (.keep [2,3] [2,1000,1001,1002] .ret)) (.keep [2,4] [2,4,1000,1001,1002] .skip)) (.keep [2,4] [2,4,1000,1001,1002] (.seq (.region [
⟨some 36,.load 5 true (.t 4),none,0,[]⟩,
⟨none,.store 5 true (.t 2) (.t 36),none,1,[]⟩,
⟨some 3,.move (.c (.int .i64 0)),none,2,[]⟩] false [2,3] [2,1000,1001,1002]) (.keep [2,3] [2,1000,1001,1002] .ret))))))))))))) }
theorem ok61:fnSoundB Go.Proofs.Tryz.prog 61 F61=true:=by decide +kernel
def B62x0:LCode :=
 (.seq (.region [
⟨some 9,.move (.t 7),none,0,[]⟩,
⟨some 10,.bin .gtr (.t 9) (.c (.int .i64 0)),none,1,[]⟩] false [0,2,7,10] []) (.seq (.cond (.t 10) (.keep [0,2,7] [] .skip) (.keep [] [] (.exit 0))) (.keep [0,2,7] [] (.seq (.block 1 (.seq (.region [
⟨some 11,.move (.t 7),none,0,[]⟩,
⟨some 12,.move (.t 2),none,1,[]⟩,
⟨some 13,.eq .i false (.t 11) (.t 12),none,2,[]⟩] false [0,2,7,13] []) (.seq (.cond (.t 13) (.seq (.region [
⟨some 6,.move (.c (.bool true)),none,0,[]⟩] false [6] []) (.keep [6] [] .ret)) (.keep [0,2,7] [] .skip)) (.keep [0,2,7] [] (.seq (.region [
⟨some 14,.move (.t 0),none,0,[]⟩,
⟨some 15,.move (.t 7),none,1,[]⟩,
⟨some 16,.bin .sub (.t 15) (.c (.int .i64 1)),none,2,[]⟩,
⟨some 17,.indexAddr 6 (.t 14) (.t 16),none,3,[]⟩,
⟨some 18,.fieldAddr 1 (.t 17),none,4,[]⟩,
⟨some 19,.load 1 false (.t 18),none,5,[]⟩,
⟨some 7,.move (.t 19),none,6,[]⟩] false [0,2,7] []) (.keep [0,2,7] [] .skip)))))) (.keep [0,2,7] [] .skip)))))
def F62:LFunc:={ nparams:=3,results:=[.tmp 6],pure:=true,body :=
 (.seq (.region [
⟨some 6,.move (.c (.bool false)),none,0,[]⟩] false [0,1,2] []) (.seq (.region [
⟨some 8,.move (.t 1),none,0,[]⟩,
⟨some 7,.move (.t 8),none,1,[]⟩] false [0,2,7] []) (.seq (.block 0 (.seq (.keep [0,2,7] [] (.loop B62x0)) (.keep [] [] .skip))) (.keep [] [] (.seq (.region [
⟨some 6,.move (.c (.bool false)),none,0,[]⟩] false [6] []) (.keep [6] [] .ret)))))) }
theorem ok62:fnSoundB Go.Proofs.Tryz.prog 62 F62=true:=by decide +kernel
def B63x0:LCode :=
 (.seq (.region [
⟨some 24,.move (.t 5),none,0,[]⟩,
⟨some 25,.move (.t 0),none,1,[]⟩,
⟨some 26,.len 0 (.t 25),none,2,[]⟩,
⟨some 27,.bin .lss (.t 24) (.t 26),none,3,[]⟩] false [0,1,5,27] []) (.seq (.cond (.t 27) (.keep [0,1,5] [] .skip) (.keep [] [] (.exit 0))) (.keep [0,1,5] [] (.seq (.block 1 (.seq (.region [
⟨some 30,.move (.t 0),none,0,[]⟩,
⟨some 31,.move (.t 5),none,1,[]⟩,
⟨some 32,.index (.t 30) (.t 31),none,2,[]⟩,
⟨some 33,.move (.t 1),none,3,[]⟩,
⟨some 34,.pcall 99 [(.t 32,.as),(.t 33,.as)],none,4,[]⟩,
⟨some 35,.un .not (.t 34),none,5,[]⟩] false [0,1,5,35] []) (.seq (.cond (.t 35) (.seq (.region [
⟨some 4,.move (.c (.bool false)),none,0,[]⟩] false [4] []) (.keep [4] [] .ret)) (.keep [0,1,5] [] .skip)) (.keep [0,1,5] [] .skip)))) (.keep [0,1,5] [] (.seq (.region [
⟨some 28,.move (.t 5),none,0,[]⟩,
⟨some 29,.bin .add (.t 28) (.c (.int .i64 1)),none,1,[]⟩,
⟨some 5,.move (.t 29),none,2,[]⟩] false [0,1,5] []) (.keep [0,1,5] [] .skip)))))))
def F63:LFunc:={ nparams:=2,results:=[.tmp 4],pure:=true,body :=
 (.seq (.region [
⟨some 4,.move (.c (.bool false)),none,0,[]⟩] false [0,1] []) (.seq (.region [
⟨some 6,.move (.t 0),none,0,[]⟩,
⟨some 7,.len 0 (.t 6),none,1,[]⟩,
⟨some 8,.bin .lss (.t 7) (.c (.int .i64 1)),none,2,[]⟩,
⟨some 9,.move (.t 8),none,3,[]⟩,
⟨some 10,.move (.t 0),some (9,false),4,[]⟩,
⟨some 11,.len 0 (.t 10),some (9,false),5,[]⟩,
⟨some 12,.bin .gtr (.t 11) (.c (.int .i64 32)),some (9,false),6,[]⟩,
⟨some 13,.pick (.t 9) (.c (.bool true)) (.t 12),none,7,[]⟩,
⟨some 14,.move (.t 13),none,8,[]⟩,
⟨some 15,.move (.t 0),some (14,false),9,[]⟩,
⟨some 16,.index (.t 15) (.c (.int .i64 0)),some (14,false),10,[]⟩,
⟨some 17,.bin .lss (.t 16) (.c (.int .u8 97)),some (14,false),11,[]⟩,
⟨some 18,.pick (.t 14) (.c (.bool true)) (.t 17),none,12,[]⟩,
⟨some 19,.move (.t 18),none,13,[]⟩,
⟨some 20,.move (.t 0),some (19,false),14,[]⟩,
⟨some 21,.index (.t 20) (.c (.int .i64 0)),some (19,false),15,[]⟩,
⟨some 22,.bin .gtr (.t 21) (.c (.int .u8 122)),some (19,false),16,[]⟩,
⟨some 23,.pick (.t 19) (.c (.bool true)) (.t 22),none,17,[]⟩] false [0,1,23] []) (.seq (.cond (.t 23) (.seq (.region [
⟨some 4,.move (.c (.bool false)),none,0,[]⟩] false [4] []) (.keep [4] [] .ret)) (.keep [0,1] [] .skip)) (.keep [0,1] [] (.seq (.region [
⟨some 5,.move (.c (.int .i64 1)),none,0,[]⟩] false [0,1,5] []) (.seq (.block 0 (.seq (.keep [0,1,5] [] (.loop B63x0)) (.keep [] [] .skip))) (.keep [] [] (.seq (.region [
⟨some 4,.move (.c (.bool true)),none,0,[]⟩] false [4] []) (.keep [4] [] .ret))))))))) }
theorem ok63:fnSoundB Go.Proofs.Tryz.prog 63 F63=true:=by decide +kernel
def B64x0:LCode :=
 (.seq (.region [
⟨some 8,.bin .lss (.t 7) (.t 6),none,0,[]⟩] false [0,6,7,8] []) (.seq (.cond (.t 8) (.keep [0,6,7] [] .skip) (.keep [] [] (.exit 0))) (.keep [0,6,7] [] (.seq (.block 1 (.seq (.region [
⟨some 9,.move (.t 7),none,0,[]⟩,
⟨some 4,.move (.t 9),none,1,[]⟩] false [0,4,6,7] []) (.seq (.region [
⟨some 10,.move (.t 4),none,0,[]⟩,
⟨some 11,.eq .i false (.t 10) (.c (.int .i64 64)),none,1,[]⟩] false [0,4,6,7,11] []) (.seq (.cond (.t 11) (.seq (.region [
⟨some 12,.move (.t 4),none,0,[]⟩,
⟨some 2,.move (.t 12),none,1,[]⟩,
⟨some 3,.move (.c (.int .i64 12)),none,2,[]⟩] false [2,3] []) (.keep [2,3] [] .ret)) (.keep [0,4,6,7] [] .skip)) (.keep [0,4,6,7] [] (.seq (.region [
⟨some 13,.move (.t 0),none,0,[]⟩,
⟨some 14,.move (.t 4),none,1,[]⟩,
⟨some 15,.indexAddr 2 (.t 13) (.t 14),none,2,[]⟩,
⟨some 16,.fieldAddr 0 (.t 15),none,3,[]⟩,
⟨some 17,.load 1 false (.t 16),none,4,[]⟩,
⟨some 18,.pcall 63 [(.t 17,.as),(.c (.bool true),.as)],none,5,[]⟩,
⟨some 19,.un .not (.t 18),none,6,[]⟩] false [0,4,6,7,19] []) (.seq (.cond (.t 19) (.seq (.region [
⟨some 20,.move (.t 4),none,0,[]⟩,
⟨some 2,.move (.t 20),none,1,[]⟩,
⟨some 3,.move (.c (.int .i64 8)),none,2,[]⟩] false [2,3] []) (.keep [2,3] [] .ret)) (.keep [0,4,6,7] [] .skip)) (.keep [0,4,6,7] [] (.seq (.region [
⟨some 21,.move (.t 0),none,0,[]⟩,
⟨some 22,.move (.t 4),none,1,[]⟩,
⟨some 23,.indexAddr 2 (.t 21) (.t 22),none,2,[]⟩,
⟨some 24,.fieldAddr 1 (.t 23),none,3,[]⟩,
⟨some 25,.load 1 false (.t 24),none,4,[]⟩,
⟨some 26,.len 0 (.t 25),none,5,[]⟩,
⟨some 27,.bin .gtr (.t 26) (.c (.int .i64 65536)),none,6,[]⟩] false [0,4,6,7,27] []) (.seq (.cond (.t 27) (.seq (.region [
⟨some 28,.move (.t 4),none,0,[]⟩,
⟨some 2,.move (.t 28),none,1,[]⟩,
⟨some 3,.move (.c (.int .i64 3)),none,2,[]⟩] false [2,3] []) (.keep [2,3] [] .ret)) (.keep [0,4,6,7] [] .skip)) (.keep [0,4,6,7] [] (.seq (.region [
⟨some 29,.move (.t 4),none,0,[]⟩,
⟨some 30,.bin .gtr (.t 29) (.c (.int .i64 0)),none,1,[]⟩,
⟨some 31,.move (.t 30),none,2,[]⟩,
⟨some 32,.move (.t 0),some (31,true),3,[]⟩,
⟨some 33,.move (.t 4),some (31,true),4,[]⟩,
⟨some 34,.bin .sub (.t 33) (.c (.int .i64 1)),some (31,true),5,[]⟩,
⟨some 35,.indexAddr 2 (.t 32) (.t 34),some (31,true),6,[]⟩,
⟨some 36,.fieldAddr 0 (.t 35),some (31,true),7,[]⟩,
⟨some 37,.load 1 false (.t 36),some (31,true),8,[]⟩,
⟨some 38,.move (.t 0),some (31,true),9,[]⟩,
⟨some 39,.move (.t 4),some (31,true),10,[]⟩,
⟨some 40,.indexAddr 2 (.t 38) (.t 39),some (31,true),11,[]⟩,
⟨some 41,.fieldAddr 0 (.t 40),some (31,true),12,[]⟩,
⟨some 42,.load 1 false (.t 41),some (31,true),13,[]⟩,
⟨some 43,.eq .s false (.t 37) (.t 42),some (31,true),14,[]⟩,
⟨some 44,.pick (.t 31) (.t 43) (.c (.bool false)),none,15,[]⟩] true [0,4,6,7,44] []) (.seq (.cond (.t 44) (.seq (.region [
⟨some 45,.move (.t 4),none,0,[]⟩,
⟨some 2,.move (.t 45),none,1,[]⟩,
⟨some 3,.move (.c (.int .i64 10)),none,2,[]⟩] false [2,3] []) (.keep [2,3] [] .ret)) (.keep [0,4,6,7] [] .skip)) (.keep [0,4,6,7] [] (.seq (.region [
⟨some 46,.move (.t 4),none,0,[]⟩,
⟨some 47,.bin .gtr (.t 46) (.c (.int .i64 0)),none,1,[]⟩,
⟨some 48,.move (.t 47),none,2,[]⟩,
⟨some 49,.move (.t 0),some (48,true),3,[]⟩,
⟨some 50,.move (.t 4),some (48,true),4,[]⟩,
⟨some 51,.bin .sub (.t 50) (.c (.int .i64 1)),some (48,true),5,[]⟩,
⟨some 52,.indexAddr 2 (.t 49) (.t 51),some (48,true),6,[]⟩,
⟨some 53,.fieldAddr 0 (.t 52),some (48,true),7,[]⟩,
⟨some 54,.load 1 false (.t 53),some (48,true),8,[]⟩,
⟨some 55,.move (.t 0),some (48,true),9,[]⟩,
⟨some 56,.move (.t 4),some (48,true),10,[]⟩,
⟨some 57,.indexAddr 2 (.t 55) (.t 56),some (48,true),11,[]⟩,
⟨some 58,.fieldAddr 0 (.t 57),some (48,true),12,[]⟩,
⟨some 59,.load 1 false (.t 58),some (48,true),13,[]⟩,
⟨some 60,.pcall 100 [(.t 54,.as),(.t 59,.as)],some (48,true),14,[]⟩,
⟨some 61,.bin .gtr (.t 60) (.c (.int .i64 0)),some (48,true),15,[]⟩,
⟨some 62,.pick (.t 48) (.t 61) (.c (.bool false)),none,16,[]⟩] true [0,4,6,7,62] []) (.seq (.cond (.t 62) (.seq (.region [
⟨some 63,.move (.t 4),none,0,[]⟩,
⟨some 2,.move (.t 63),none,1,[]⟩,
⟨some 3,.move (.c (.int .i64 9)),none,2,[]⟩] false [2,3] []) (.keep [2,3] [] .ret)) (.keep [0,6,7] [] .skip)) (.keep [0,6,7] [] .skip))))))))))))))))) (.keep [0,6,7] [] (.seq (.region [
⟨some 64,.bin .add (.t 7) (.c (.int .i64 1)),none,0,[]⟩,
⟨some 7,.move (.t 64),none,1,[]⟩] false [0,6,7] []) (.keep [0,6,7] [] .skip)))))))
def F64:LFunc:={ nparams:=1,results:=[.tmp 2,.tmp 3],pure:=true,body :=
 (.seq (.region [
⟨some 2,.move (.c (.int .i64 0)),none,0,[]⟩,
⟨some 3,.move (.c (.int .i64 0)),none,1,[]⟩] false [0] []) (.seq (.region [
⟨some 5,.move (.t 0),none,0,[]⟩,
⟨some 6,.len 1 (.t 5),none,1,[]⟩,
⟨some 7,.move (.c (.int .i64 0)),none,2,[]⟩] false [0,6,7] []) (.seq (.block 0 (.seq (.keep [0,6,7] [] (.loop B64x0)) (.keep [] [] .skip))) (.keep [] [] (.seq (.region [
⟨some 2,.move (.c (.int .i64 0)),none,0,[]⟩,
⟨some 3,.move (.c (.int .i64 0)),none,1,[]⟩] false [2,3] []) (.keep [2,3] [] .ret)))))) }
theorem ok64:fnSoundB Go.Proofs.Tryz.prog 64 F64=true:=by decide +kernel
def F65:LFunc:={ nparams:=1,results:=[.tmp 2],pure:=true,body :=
 (.seq (.region [
⟨some 2,.move (.c (.bool false)),none,0,[]⟩] false [0] []) (.seq (.region [
⟨some 3,.move (.t 0),none,0,[]⟩,
⟨some 4,.bin .geq (.t 3) (.c (.int .i64 0)),none,1,[]⟩,
⟨some 5,.move (.t 4),none,2,[]⟩,
⟨some 6,.move (.t 0),some (5,true),3,[]⟩,
⟨some 7,.bin .leq (.t 6) (.c (.int .i64 4294967295)),some (5,true),4,[]⟩,
⟨some 8,.pick (.t 5) (.t 7) (.c (.bool false)),none,5,[]⟩,
⟨some 2,.move (.t 8),none,6,[]⟩] false [2] []) (.keep [2] [] .ret))) }
theorem ok65:fnSoundB Go.Proofs.Tryz.prog 65 F65=true:=by decide +kernel
def F66:LFunc:={ nparams:=2,results:=[.tmp 4],pure:=true,body :=
 (.seq (.region [
⟨some 2,.box false 2 (.t 0),none,0,[]⟩,
⟨some 3,.box false 3 (.t 1),none,1,[]⟩,
⟨some 4,.move (.c (.bool false)),none,2,[]⟩] false [2,3] [2,3]) (.seq (.region [
⟨some 6,.fieldAddr 8 (.t 2),none,0,[]⟩,
⟨some 7,.load 1 false (.t 6),none,1,[]⟩,
⟨some 8,.fieldAddr 8 (.t 3),none,2,[]⟩,
⟨some 9,.load 1 false (.t 8),none,3,[]⟩,
⟨some 10,.pcall 101 [(.t 7,.as),(.t 9,.as)],none,4,[]⟩,
⟨some 11,.un .not (.t 10),none,5,[]⟩] false [2,3,11] [2,3]) (.seq (.cond (.t 11) (.seq (.region [
⟨some 4,.move (.c (.bool false)),none,0,[]⟩] false [4] []) (.keep [4] [] .ret)) (.keep [2,3] [2,3] .skip)) (.keep [2,3] [2,3] (.seq (.region [
⟨some 5,.move (.f 102),none,0,[]⟩] false [2,3,5] [2,3]) (.seq (.draw [
⟨some 12,.move (.t 5),none,0,[]⟩,
⟨some 13,.load 9 true (.t 2),none,1,[]⟩,
⟨some 15,.move (.t 5),none,3,[]⟩,
⟨some 16,.load 9 true (.t 3),none,4,[]⟩,
⟨some 14,.callv (.t 12) [(.t 13,.as)],none,2,[4]⟩,
⟨some 17,.callv (.t 15) [(.t 16,.as)],none,5,[]⟩,
⟨some 18,.eq (.st [2,2,2,2,2,2,2,2,2]) false (.t 14) (.t 17),none,6,[]⟩,
⟨some 4,.move (.t 18),none,7,[]⟩] [4] []) (.keep [4] [] .ret))))))) }
theorem ok66:fnSoundB Go.Proofs.Tryz.prog 66 F66=true:=by decide +kernel
def F67:LFunc:={ nparams:=1,results:=[.cell 2 9 true],pure:=true,body :=
 (.seq (.region [
⟨some 1,.box false 1 (.t 0),none,0,[]⟩,
⟨some 2,.alloc false 2 [.p (.int .i64 0),.p (.int .i64 0),.p (.int .i64 0),.p (.int .i64 0),.p (.str []),.p (.str []),.p (.str []),.p (.str []),.p (.list [])] [],none,1,[]⟩] false [1,2] [1,2]) (.seq (.region [
⟨some 4,.fieldAddr 0 (.t 1),none,0,[]⟩,
⟨some 5,.load 1 false (.t 4),none,1,[]⟩,
⟨some 6,.build [.p (.int .i64 0),.p (.int .i64 0),.p (.int .i64 0),.p (.int .i64 0),.p (.str []),.p (.str []),.p (.str []),.p (.str []),.p (.list [])] [(0,1,.t 5)],none,2,[]⟩,
⟨some 3,.alloc false 3 [.p (.int .i64 0),.p (.int .i64 0),.p (.int .i64 0),.p (.int .i64 0),.p (.str []),.p (.str []),.p (.str []),.p (.str []),.p (.list [])] [],none,3,[]⟩,
⟨none,.store 9 true (.t 3) (.t 6),none,4,[]⟩] false [1,2,3] [1,2,3]) (.seq (.region [
⟨some 7,.fieldAddr 0 (.t 1),none,0,[]⟩,
⟨some 8,.load 1 false (.t 7),none,1,[]⟩] false [1,2,3,8] [1,2,3]) (.seq (.block 0 (.seq (.block 6 (.seq (.block 5 (.seq (.block 4 (.seq (.block 3 (.seq (.block 2 (.seq (.block 1 (.seq (.region [
⟨some 10,.eq .i false (.t 8) (.c (.int .i64 1)),none,0,[]⟩,
⟨some 9,.move (.t 10),none,1,[]⟩] false [1,2,3,8,9] [1,2,3]) (.seq (.cond (.t 9) (.keep [1,2,3] [1,2,3] (.exit 1)) (.keep [1,2,3,8] [1,2,3] .skip)) (.keep [1,2,3,8] [1,2,3] (.seq (.region [
⟨some 12,.eq .i false (.t 8) (.c (.int .i64 2)),none,0,[]⟩,
⟨some 11,.move (.t 12),none,1,[]⟩] false [1,2,3,8,11] [1,2,3]) (.seq (.cond (.t 11) (.keep [1,2,3] [1,2,3] (.exit 2)) (.keep [1,2,3,8] [1,2,3] .skip)) (.keep [1,2,3,8] [1,2,3] (.seq (.region [
⟨some 14,.eq .i false (.t 8) (.c (.int .i64 3)),none,0,[]⟩,
⟨some 13,.move (.t 14),none,1,[]⟩] false [1,2,3,8,13] [1,2,3]) (.seq (.cond (.t 13) (.keep [1,2,3] [1,2,3] (.exit 3)) (.keep [1,2,3,8] [1,2,3] .skip)) (.keep [1,2,3,8] [1,2,3] (.seq (.region [
⟨some 16,.eq .i false (.t 8) (.c (.int .i64 5)),none,0,[]⟩,
⟨some 15,.move (.t 16),none,1,[]⟩] false [1,2,3,8,15] [1,2,3]) (.seq (.cond (.t 15) (.keep [1,2,3] [1,2,3] (.exit 4)) (.keep [1,2,3,8] [1,2,3] .skip)) (.keep [1,2,3,8] [1,2,3] (.seq (.region [
⟨some 18,.eq .i false (.t 8) (.c (.int .i64 7)),none,0,[]⟩,
⟨some 17,.move (.t 18),none,1,[]⟩] false [1,2,3,8,17] [1,2,3]) (.seq (.cond (.t 17) (.keep [1,2,3] [1,2,3] (.exit 5)) (.keep [1,2,3,8] [1,2,3] .skip)) (.keep [1,2,3,8] [1,2,3] (.seq (.region [
⟨some 20,.eq .i false (.t 8) (.c (.int .i64 6)),none,0,[]⟩,
⟨some 19,.move (.t 20),none,1,[]⟩] false [1,2,3,19] [1,2,3]) (.seq (.cond (.t 19) (.keep [1,2,3] [1,2,3] (.exit 6)) (.keep [1,2,3] [1,2,3] .skip)) (.keep [1,2,3] [1,2,3] (.exit 0)))))))))))))))))))) (.keep [1,2,3] [1,2,3] (.seq (.draw [
⟨some 21,.fieldAddr 4 (.t 1),none,0,[]⟩,
⟨some 22,.load 1 false (.t 21),none,1,[]⟩,
⟨some 23,.fieldAddr 5 (.t 1),none,2,[]⟩,
⟨some 24,.load 1 false (.t 23),none,3,[]⟩,
⟨some 25,.fieldAddr 7 (.t 1),none,4,[]⟩,
⟨some 26,.load 1 false (.t 25),none,5,[]⟩,
⟨some 27,.fieldAddr 8 (.t 1),none,6,[]⟩,
⟨some 28,.load 1 false (.t 27),none,7,[]⟩,
⟨some 29,.fieldAddr 4 (.t 3),none,8,[]⟩,
⟨none,.store 1 false (.t 29) (.t 22),none,9,[3,5,7]⟩,
⟨some 30,.fieldAddr 5 (.t 3),none,10,[]⟩,
⟨none,.store 1 false (.t 30) (.t 24),none,11,[5,7]⟩,
⟨some 31,.fieldAddr 7 (.t 3),none,12,[]⟩,
⟨none,.store 1 false (.t 31) (.t 26),none,13,[7]⟩,
⟨some 32,.fieldAddr 8 (.t 3),none,14,[]⟩,
⟨none,.store 1 false (.t 32) (.t 28),none,15,[]⟩] [2,3] [2,3]) (.seq (.region [
⟨some 33,.load 9 true (.t 3),none,0,[]⟩,
⟨none,.store 9 true (.t 2) (.t 33),none,1,[]⟩] false [2] [2]) (.seq (.keep [2] [2] .ret) (.keep [1,2,3] [1,2,3] (.exit 0)))))))) (.keep [1,2,3] [1,2,3] (.seq (.region [
⟨some 34,.fieldAddr 2 (.t 1),none,0,[]⟩,
⟨some 35,.load 1 false (.t 34),none,1,[]⟩,
⟨some 36,.fieldAddr 2 (.t 3),none,2,[]⟩,
⟨none,.store 1 false (.t 36) (.t 35),none,3,[]⟩] false [1,2,3] [1,2,3]) (.keep [1,2,3] [1,2,3] .skip))))) (.keep [1,2,3] [1,2,3] (.seq (.region [
⟨some 37,.fieldAddr 3 (.t 1),none,0,[]⟩,
⟨some 38,.load 1 false (.t 37),none,1,[]⟩,
⟨some 39,.fieldAddr 3 (.t 3),none,2,[]⟩,
⟨none,.store 1 false (.t 39) (.t 38),none,3,[]⟩] false [1,2,3] [1,2,3]) (.keep [1,2,3] [1,2,3] (.exit 0)))))) (.keep [1,2,3] [1,2,3] (.seq (.region [
⟨some 40,.fieldAddr 6 (.t 1),none,0,[]⟩,
⟨some 41,.load 1 false (.t 40),none,1,[]⟩,
⟨some 42,.fieldAddr 6 (.t 3),none,2,[]⟩,
⟨none,.store 1 false (.t 42) (.t 41),none,3,[]⟩] false [1,2,3] [1,2,3]) (.keep [1,2,3] [1,2,3] .skip))))) (.keep [1,2,3] [1,2,3] (.seq (.region [
⟨some 43,.fieldAddr 7 (.t 1),none,0,[]⟩,
⟨some 44,.load 1 false (.t 43),none,1,[]⟩,
⟨some 45,.fieldAddr 7 (.t 3),none,2,[]⟩,
⟨none,.store 1 false (.t 45) (.t 44),none,3,[]⟩] false [1,2,3] [1,2,3]) (.keep [1,2,3] [1,2,3] (.exit 0)))))) (.keep [1,2,3] [1,2,3] (.seq (.region [
⟨some 46,.fieldAddr 6 (.t 1),none,0,[]⟩,
⟨some 47,.load 1 false (.t 46),none,1,[]⟩,
⟨some 48,.fieldAddr 6 (.t 3),none,2,[]⟩,
⟨none,.store 1 false (.t 48) (.t 47),none,3,[]⟩] false [1,2,3] [1,2,3]) (.keep [1,2,3] [1,2,3] (.exit 0)))))) (.keep [1,2,3] [1,2,3] (.seq (.region [
⟨some 49,.fieldAddr 1 (.t 1),none,0,[]⟩,
⟨some 50,.load 1 false (.t 49),none,1,[]⟩,
⟨some 51,.fieldAddr 1 (.t 3),none,2,[]⟩,
⟨none,.store 1 false (.t 51) (.t 50),none,3,[]⟩] false [2,3] [2,3]) (.seq (.region [
⟨some 52,.load 9 true (.t 3),none,0,[]⟩,
⟨none,.store 9 true (.t 2) (.t 52),none,1,[]⟩] false [2] [2]) (.keep [2] [2] .ret)))))))) }
theorem ok67:fnSoundB Go.Proofs.Tryz.prog 67 F67=true:=by decide +kernel
def F68:LFunc:={ nparams:=1,results:=[.tmp 2],pure:=true,body :=
 (.seq (.region [
⟨some 2,.move (.c (.bool false)),none,0,[]⟩] false [0] []) (.seq (.region [
⟨some 3,.move (.t 0),none,0,[]⟩,
⟨some 4,.pcall 104 [(.t 3,.as),(.c (.str [45]),.as)],none,1,[]⟩,
⟨some 2,.move (.t 4),none,2,[]⟩] false [2] []) (.keep [2] [] .ret))) }
theorem ok68:fnSoundB Go.Proofs.Tryz.prog 68 F68=true:=by decide +kernel
def F69:LFunc:={ nparams:=1,results:=[.tmp 2],pure:=true,body :=
 (.seq (.region [
⟨some 2,.move (.c (.bool false)),none,0,[]⟩] false [0] []) (.seq (.region [
⟨some 3,.move (.t 0),none,0,[]⟩,
⟨some 4,.pcall 104 [(.t 3,.as),(.c (.str [45,58,46]),.as)],none,1,[]⟩,
⟨some 2,.move (.t 4),none,2,[]⟩] false [2] []) (.keep [2] [] .ret))) }
theorem ok69:fnSoundB Go.Proofs.Tryz.prog 69 F69=true:=by decide +kernel
def F70:LFunc:={ nparams:=1,results:=[.tmp 2],pure:=true,body :=
 (.seq (.region [
⟨some 2,.move (.c (.bool false)),none,0,[]⟩] false [0] []) (.seq (.region [
⟨some 3,.move (.t 0),none,0,[]⟩,
⟨some 4,.len 0 (.t 3),none,1,[]⟩,
⟨some 5,.bin .leq (.t 4) (.c (.int .i64 65536)),none,2,[]⟩,
⟨some 2,.move (.t 5),none,3,[]⟩] false [2] []) (.keep [2] [] .ret))) }
theorem ok70:fnSoundB Go.Proofs.Tryz.prog 70 F70=true:=by decide +kernel
def B71x0:LCode :=
 (.seq (.region [
⟨some 10,.bin .lss (.t 9) (.t 8),none,0,[]⟩] false [0,7,8,9,10] []) (.seq (.cond (.t 10) (.keep [0,7,8,9] [] .skip) (.keep [] [] (.exit 0))) (.keep [0,7,8,9] [] (.seq (.block 1 (.seq (.region [
⟨some 11,.move (.t 9),none,0,[]⟩,
⟨some 12,.indexAddr 2 (.t 7) (.t 9),none,1,[]⟩,
⟨some 13,.load 2 true (.t 12),none,2,[]⟩,
⟨some 5,.alloc false 5 [.p (.str []),.p (.str [])] [],none,3,[]⟩,
⟨some 4,.move (.t 11),none,4,[]⟩,
⟨none,.store 2 true (.t 5) (.t 13),none,5,[]⟩] false [0,4,5,7,8,9] [5]) (.seq (.region [
⟨some 6,.move (.c (.int .i64 0)),none,0,[]⟩] false [0,4,5,6,7,8,9] [5]) (.seq (.block 2 (.seq (.region [
⟨some 15,.move (.t 4),none,0,[]⟩,
⟨some 16,.eq .i false (.t 15) (.c (.int .i64 64)),none,1,[]⟩,
⟨some 14,.move (.t 16),none,2,[]⟩] false [0,4,5,6,7,8,9,14] [5]) (.seq (.cond (.t 14) (.seq (.region [
⟨some 6,.move (.c (.int .i64 12)),none,0,[]⟩] false [0,4,6,7,8,9] []) (.keep [0,4,6,7,8,9] [] .skip)) (.seq (.region [
⟨some 18,.fieldAddr 0 (.t 5),none,0,[]⟩,
⟨some 19,.load 1 false (.t 18),none,1,[]⟩,
⟨some 20,.pcall 69 [(.t 19,.as)],none,2,[]⟩,
⟨some 21,.un .not (.t 20),none,3,[]⟩,
⟨some 17,.move (.t 21),none,4,[]⟩] false [0,4,5,6,7,8,9,17] [5]) (.seq (.cond (.t 17) (.seq (.region [
⟨some 6,.move (.c (.int .i64 8)),none,0,[]⟩] false [0,4,6,7,8,9] []) (.keep [0,4,6,7,8,9] [] .skip)) (.seq (.region [
⟨some 23,.fieldAddr 1 (.t 5),none,0,[]⟩,
⟨some 24,.load 1 false (.t 23),none,1,[]⟩,
⟨some 25,.pcall 70 [(.t 24,.as)],none,2,[]⟩,
⟨some 26,.un .not (.t 25),none,3,[]⟩,
⟨some 22,.move (.t 26),none,4,[]⟩] false [0,4,5,6,7,8,9,22] [5]) (.seq (.cond (.t 22) (.seq (.region [
⟨some 6,.move (.c (.int .i64 3)),none,0,[]⟩] false [0,4,6,7,8,9] []) (.keep [0,4,6,7,8,9] [] .skip)) (.seq (.region [
⟨some 28,.move (.t 4),none,0,[]⟩,
⟨some 29,.bin .gtr (.t 28) (.c (.int .i64 0)),none,1,[]⟩,
⟨some 30,.move (.t 29),none,2,[]⟩,
⟨some 31,.move (.t 0),some (30,true),3,[]⟩,
⟨some 32,.move (.t 4),some (30,true),4,[]⟩,
⟨some 33,.bin .sub (.t 32) (.c (.int .i64 1)),some (30,true),5,[]⟩,
⟨some 34,.indexAddr 2 (.t 31) (.t 33),some (30,true),6,[]⟩,
⟨some 35,.fieldAddr 0 (.t 34),some (30,true),7,[]⟩,
⟨some 36,.load 1 false (.t 35),some (30,true),8,[]⟩,
⟨some 37,.fieldAddr 0 (.t 5),some (30,true),9,[]⟩,
⟨some 38,.load 1 false (.t 37),some (30,true),10,[]⟩,
⟨some 39,.eq .s false (.t 36) (.t 38),some (30,true),11,[]⟩,
⟨some 40,.pick (.t 30) (.t 39) (.c (.bool false)),none,12,[]⟩,
⟨some 27,.move (.t 40),none,13,[]⟩] true [0,4,5,6,7,8,9,27] [5]) (.seq (.cond (.t 27) (.seq (.region [
⟨some 6,.move (.c (.int .i64 10)),none,0,[]⟩] false [0,4,6,7,8,9] []) (.keep [0,4,6,7,8,9] [] .skip)) (.seq (.region [
⟨some 42,.move (.t 4),none,0,[]⟩,
⟨some 43,.bin .gtr (.t 42) (.c (.int .i64 0)),none,1,[]⟩,
⟨some 44,.move (.t 43),none,2,[]⟩,
⟨some 45,.move (.t 0),some (44,true),3,[]⟩,
⟨some 46,.move (.t 4),some (44,true),4,[]⟩,
⟨some 47,.bin .sub (.t 46) (.c (.int .i64 1)),some (44,true),5,[]⟩,
⟨some 48,.indexAddr 2 (.t 45) (.t 47),some (44,true),6,[]⟩,
⟨some 49,.fieldAddr 0 (.t 48),some (44,true),7,[]⟩,
⟨some 50,.load 1 false (.t 49),some (44,true),8,[]⟩,
⟨some 51,.fieldAddr 0 (.t 5),some (44,true),9,[]⟩,
⟨some 52,.load 1 false (.t 51),some (44,true),10,[]⟩,
⟨some 53,.bin .gtr (.t 50) (.t 52),some (44,true),11,[]⟩,
⟨some 54,.pick (.t 44) (.t 53) (.c (.bool false)),none,12,[]⟩,
⟨some 41,.move (.t 54),none,13,[]⟩] true [0,4,6,7,8,9,41] []) (.seq (.cond (.t 41) (.seq (.region [
⟨some 6,.move (.c (.int .i64 9)),none,0,[]⟩] false [0,4,6,7,8,9] []) (.keep [0,4,6,7,8,9] [] .skip)) (.keep [0,4,6,7,8,9] [] .skip)) (.keep [0,4,6,7,8,9] [] .skip)))) (.keep [0,4,6,7,8,9] [] .skip)))) (.keep [0,4,6,7,8,9] [] .skip)))) (.keep [0,4,6,7,8,9] [] .skip)))) (.keep [0,4,6,7,8,9] [] .skip)))) (.keep [0,4,6,7,8,9] [] (.seq (.region [
⟨some 55,.move (.t 6),none,0,[]⟩,
⟨some 56,.eq .i true (.t 55) (.c (.int .i64 0)),none,1,[]⟩] false [0,4,6,7,8,9,56] []) (.seq (.cond (.t 56) (.seq (.region [
⟨some 57,.move (.t 4),none,0,[]⟩,
⟨some 58,.move (.t 6),none,1,[]⟩,
⟨some 2,.move (.t 57),none,2,[]⟩,
⟨some 3,.move (.t 58),none,3,[]⟩] false [2,3] []) (.keep [2,3] [] .ret)) (.keep [0,7,8,9] [] .skip)) (.keep [0,7,8,9] [] .skip)))))))) (.keep [0,7,8,9] [] (.seq (.region [
⟨some 59,.bin .add (.t 9) (.c (.int .i64 1)),none,0,[]⟩,
⟨some 9,.move (.t 59),none,1,[]⟩] false [0,7,8,9] []) (.keep [0,7,8,9] [] .skip)))))))
def F71:LFunc:={ nparams:=1,results:=[.tmp 2,.tmp 3],pure:=true,body :=
 (.seq (.region [
⟨some 2,.move (.c (.int .i64 0)),none,0,[]⟩,
⟨some 3,.move (.c (.int .i64 0)),none,1,[]⟩] false [0] []) (.seq (.region [
⟨some 7,.move (.t 0),none,0,[]⟩,
⟨some 8,.len 1 (.t 7),none,1,[]⟩,
⟨some 9,.move (.c (.int .i64 0)),none,2,[]⟩] false [0,7,8,9] []) (.seq (.block 0 (.seq (.keep [0,7,8,9] [] (.loop B71x0)) (.keep [] [] .skip))) (.keep [] [] (.seq (.region [
⟨some 2,.move (.c (.int .i64 0)),none,0,[]⟩,
⟨some 3,.move (.c (.int .i64 0)),none,1,[]⟩] false [2,3] []) (.keep [2,3] [] .ret)))))) }
theorem ok71:fnSoundB Go.Proofs.Tryz.prog 71 F71=true:=by decide +kernel
end Go.TA.Tryz


end
