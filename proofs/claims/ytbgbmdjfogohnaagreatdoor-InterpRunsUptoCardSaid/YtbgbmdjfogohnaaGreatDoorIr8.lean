/- Part 8 of 15 of a proof; joined from IrnLow0. Functions of the program, lowered: each is held against the program's own text by the kernel. -/
import Derived.Test.YtbgbmdjfogohnaaGreatDoorIr6
import Derived.Test.YtbgbmdjfogohnaaGreatDoorProg
set_option linter.unusedSimpArgs false
set_option linter.unusedVariables false
set_option linter.defProp false
set_option maxRecDepth 100000
set_option maxHeartbeats 8000000
section
/- Functions of the program, lowered: each is held against the program's own text by the kernel. -/
namespace Go.TA.Tryz
def F4:LFunc:={ nparams:=3,results:=[.tmp 6],pure:=true,body :=
 (.seq (rN [
 oN 6 (.move (.c (.bool false))) 0] [0,1,2]) (.seq (rN [
 oM 18 0 0,oN 19 (.pcall 11 [(.t 18,.as),(.c (.int .i64 60),.as)]) 1,oN 20 (.un .not (.t 19)) 2,oM 21 20 3,oG 22 (.move (.t 2)) 21 false 4,oG 23 (.pcall 12 [(.t 22,.as),(.c (.int .i64 100),.as)]) 21 false 5,oG 24 (.un .not (.t 23)) 21 false 6,oN 25 (.pick (.t 21) (.c (.bool true)) (.t 24)) 7,oM 26 25 8,oG 27 (.move (.t 1)) 26 false 9,oG 28 (.len 1 (.t 27)) 26 false 10,oG 29 (.bin .gtr (.t 28) (iC 200)) 26 false 11,oN 30 (.pick (.t 26) (.c (.bool true)) (.t 29)) 12,oM 31 30 13,oG 32 (.move (.t 0)) 31 false 14,oG 33 (.pcall 13 [(.t 32,.as)]) 31 false 15,oG 34 (.eq .i true (.t 33) (iC 0)) 31 false 16,oN 35 (.pick (.t 31) (.c (.bool true)) (.t 34)) 17] [0,1,2,35]) (.seq (.cond (.t 35) (.seq (rN [
 oN 36 (.pcall 25 []) 0,oM 6 36 1] [6]) (kB [6] .ret)) (kS [0,1,2])) (kB [0,1,2] (.seq (rN [
 oN 37 (.call 26 [(.c (.int .i64 3),.as)]) 0,oM 7 37 1] [0,1,2,7]) (.seq (rN [
 oN 38 (.call 27 [(.c (.int .i64 3),.as)]) 0,oM 8 38 1] [0,1,2,7,8]) (.seq (rN [
 oM 39 7 0,oM 40 0 1,oN 41 (.call 28 [(.t 39,.as),(.t 40,.as)]) 2] [0,1,2,7,8]) (.seq (rN [
 oM 42 8 0,oM 43 0 1,oN 44 (.call 29 [(.t 42,.as),(.t 43,.as)]) 2] [1,2,7,8]) (.seq (rN [
 oM 46 7 0,oM 47 1 1,oM 48 2 2,oN 49 (.call 30 [(.t 46,.as),(.t 47,.as),(.t 48,.as)]) 3,oM 45 49 4,oN 50 (.extract (.t 45) 0) 5,oN 51 (.extract (.t 45) 1) 6,oN 52 (.extract (.t 45) 2) 7,oM 9 50 8,oM 10 51 9,oM 11 52 10] [1,2,7,8,9,10,11]) (.seq (rN [
 oM 54 8 0,oM 55 1 1,oM 56 2 2,oN 57 (.call 31 [(.t 54,.as),(.t 55,.as),(.t 56,.as)]) 3,oM 53 57 4,oN 58 (.extract (.t 53) 0) 5,oN 59 (.extract (.t 53) 1) 6,oN 60 (.extract (.t 53) 2) 7,oM 12 58 8,oM 13 59 9,oM 14 60 10] [1,2,7,8,9,10,11,12,13,14]) (.seq (rN [
 oM 62 1 0,oM 63 2 1,oN 64 (.call 30 [(.c (.nilp),.as),(.t 62,.as),(.t 63,.as)]) 2,oM 61 64 3,oN 65 (.extract (.t 61) 0) 4,oN 66 (.extract (.t 61) 1) 5,oN 67 (.extract (.t 61) 2) 6,oM 15 65 7,oM 16 66 8,oM 17 67 9] [7,8,9,10,11,12,13,14,15,16,17]) (.seq (.draw [
 oM 68 9 0,oM 69 12 1,oN 70 (.pcall 32 [(.t 68,.look),(.t 69,.look)]) 2,oM 71 70 3,oG 72 (.move (.t 10)) 71 true 4,oG 73 (.move (.t 13)) 71 true 5,oG 74 (.eq .i false (.t 72) (.t 73)) 71 true 6,oN 75 (.pick (.t 71) (.t 74) (.c (.bool false))) 7,oM 76 75 8,oG 77 (.move (.t 11)) 76 true 9,oG 78 (.move (.t 14)) 76 true 10,oG 79 (.eq .i false (.t 77) (.t 78)) 76 true 11,oN 80 (.pick (.t 76) (.t 79) (.c (.bool false))) 12,oM 81 80 13,oG 82 (.move (.t 7)) 81 true 14,oG 84 (.move (.t 8)) 81 true 16,oG 83 (.call 33 [(.t 82,.as)]) 81 true 15,oG 85 (.call 34 [(.t 84,.as)]) 81 true 17,oG 86 (.pcall 20 [(.t 83,.look),(.t 85,.look)]) 81 true 18,oN 87 (.pick (.t 81) (.t 86) (.c (.bool false))) 19,oM 88 87 20,oG 89 (.move (.t 7)) 88 true 21,oG 91 (.move (.t 8)) 88 true 23,oG 92 (.nilCheck (.t 91)) 88 true 24,oG 93 (fA 1 92) 88 true 25,oG 94 (lD 93) 88 true 26,⟨some 90,.call 35 [(.t 89,.as)],some (88,true),22,[26]⟩,oG 95 (.eq .i false (.t 90) (.t 94)) 88 true 27,oN 96 (.pick (.t 88) (.t 95) (.c (.bool false))) 28,oM 97 96 29,oG 98 (.move (.t 15)) 97 true 30,oG 99 (.len 1 (.t 98)) 97 true 31,oG 100 (.eq .i false (.t 99) (iC 0)) 97 true 32,oN 101 (.pick (.t 97) (.t 100) (.c (.bool false))) 33,oM 102 101 34,oG 103 (.move (.t 16)) 102 true 35,oG 104 (.eq .i false (.t 103) (iC 0)) 102 true 36,oN 105 (.pick (.t 102) (.t 104) (.c (.bool false))) 37,oM 106 105 38,oG 107 (.move (.t 17)) 106 true 39,oG 108 (.eq .i false (.t 107) (iC 1)) 106 true 40,oN 109 (.pick (.t 106) (.t 108) (.c (.bool false))) 41,oM 110 109 42,oG 111 (.call 36 [(.c (.nilp),.as)]) 110 true 43,oG 112 (.len 1 (.t 111)) 110 true 44,oG 113 (.eq .i false (.t 112) (iC 0)) 110 true 45,oN 114 (.pick (.t 110) (.t 113) (.c (.bool false))) 46,oM 115 114 47,oG 116 (.pcall 25 []) 115 true 48,oN 117 (.pick (.t 115) (.t 116) (.c (.bool false))) 49,oM 6 117 50] [6] []) (kB [6] .ret))))))))))))) }
theorem ok4:fnSoundB Go.Proofs.Tryz.prog 4 F4=true:=by decide +kernel
def B11x1:LCode :=
 (.seq (rN [
 oN 54 (.bin .lss (.t 53) (.t 52)) 0] [0,5,6,10,11,52,53,54]) (.seq (.cond (.t 54) (kS [0,5,6,10,11,52,53]) (kB [0,5,10,11] (.exit 2))) (kB [0,5,6,10,11,52,53] (.seq (.block 3 (.seq (rN [
 oM 55 53 0,oM 7 55 1] [0,5,6,7,10,11,52,53]) (.seq (.region [
 oM 56 5 0,oM 57 0 1,oM 58 6 2,oN 59 (.indexAddr 6 (.t 57) (.t 58)) 3,oN 60 (fA 5 59) 4,oN 61 (lD 60) 5,oM 62 7 6,oN 63 (.indexAddr 2 (.t 61) (.t 62)) 7,oN 64 (fA 1 63) 8,oN 65 (lD 64) 9,oN 66 (.len 0 (.t 65)) 10,oM 67 0 11,oM 68 6 12,oN 69 (.indexAddr 6 (.t 67) (.t 68)) 13,oN 70 (fA 5 69) 14,oN 71 (lD 70) 15,oM 72 7 16,oN 73 (.indexAddr 2 (.t 71) (.t 72)) 17,oN 74 (fA 0 73) 18,oN 75 (lD 74) 19,oN 76 (.len 0 (.t 75)) 20,oN 77 (.bin .add (.t 66) (.t 76)) 21,oN 78 (.bin .quo (.t 77) (iC 4096)) 22,oN 79 (.bin .sub (.t 56) (.t 78)) 23,oM 5 79 24] true [0,5,6,10,11,52,53] []) (kS [0,5,6,10,11,52,53])))) (kB [0,5,6,10,11,52,53] (.seq (rN [
 oN 80 (.bin .add (.t 53) (iC 1)) 0,oM 53 80 1] [0,5,6,10,11,52,53]) (kS [0,5,6,10,11,52,53])))))))
def B11x0:LCode :=
 (.seq (rN [
 oN 12 (.bin .lss (.t 11) (.t 10)) 0] [0,5,10,11,12]) (.seq (.cond (.t 12) (kS [0,5,10,11]) (kB [5] (.exit 0))) (kB [0,5,10,11] (.seq (.block 1 (.seq (rN [
 oM 13 11 0,oM 6 13 1] [0,5,6,10,11]) (.seq (.region [
 oM 14 5 0,oN 15 (.bin .sub (.t 14) (iC 1)) 1,oM 16 0 2,oM 17 6 3,oN 18 (.indexAddr 6 (.t 16) (.t 17)) 4,oN 19 (fA 5 18) 5,oN 20 (lD 19) 6,oN 21 (.len 1 (.t 20)) 7,oN 22 (.bin .sub (.t 15) (.t 21)) 8,oM 23 0 9,oM 24 6 10,oN 25 (.indexAddr 6 (.t 23) (.t 24)) 11,oN 26 (fA 4 25) 12,oN 27 (lD 26) 13,oN 28 (.len 0 (.t 27)) 14,oM 29 0 15,oM 30 6 16,oN 31 (.indexAddr 6 (.t 29) (.t 30)) 17,oN 32 (fA 3 31) 18,oN 33 (lD 32) 19,oN 34 (.len 0 (.t 33)) 20,oN 35 (.bin .add (.t 28) (.t 34)) 21,oM 36 0 22,oM 37 6 23,oN 38 (.indexAddr 6 (.t 36) (.t 37)) 24,oN 39 (fA 2 38) 25,oN 40 (lD 39) 26,oN 41 (.len 0 (.t 40)) 27,oN 42 (.bin .add (.t 35) (.t 41)) 28,oN 43 (.bin .quo (.t 42) (iC 4096)) 29,oN 44 (.bin .sub (.t 22) (.t 43)) 30,oM 5 44 31] true [0,5,6,10,11] []) (.seq (rN [
 oM 45 5 0,oN 46 (.bin .lss (.t 45) (iC 0)) 1] [0,5,6,10,11,46]) (.seq (.cond (.t 46) (.seq (rN [
 oN 4 (.move (.c (.bool false))) 0] [4]) (kB [4] .ret)) (kS [0,5,6,10,11])) (kB [0,5,6,10,11] (.seq (rN [
 oM 47 0 0,oM 48 6 1,oN 49 (.indexAddr 6 (.t 47) (.t 48)) 2,oN 50 (fA 5 49) 3,oN 51 (lD 50) 4,oN 52 (.len 1 (.t 51)) 5,oN 53 (.move (iC 0)) 6] [0,5,6,10,11,52,53]) (.seq (.block 2 (.seq (kB [0,5,6,10,11,52,53] (.loop B11x1)) (kS [0,5,10,11]))) (kS [0,5,10,11]))))))))) (kB [0,5,10,11] (.seq (rN [
 oN 81 (.bin .add (.t 11) (iC 1)) 0,oM 11 81 1] [0,5,10,11]) (kS [0,5,10,11])))))))
def F11:LFunc:={ nparams:=2,results:=[.tmp 4],pure:=true,body :=
 (.seq (rN [
 oN 4 (.move (.c (.bool false))) 0] [0,1]) (.seq (rN [
 oM 8 1 0,oM 5 8 1] [0,5]) (.seq (rN [
 oM 9 0 0,oN 10 (.len 1 (.t 9)) 1,oN 11 (.move (iC 0)) 2] [0,5,10,11]) (.seq (.block 0 (.seq (kB [0,5,10,11] (.loop B11x0)) (kS [5]))) (kB [5] (.seq (rN [
 oM 82 5 0,oN 83 (.bin .geq (.t 82) (iC 0)) 1,oM 4 83 2] [4]) (kB [4] .ret))))))) }
theorem ok11:fnSoundB Go.Proofs.Tryz.prog 11 F11=true:=by decide +kernel
def B12x1:LCode :=
 (.seq (.region [
 oN 48 (.bin .lss (.t 47) (.t 46)) 0] false [0,5,7,11,12,46,47,48] [7]) (.seq (.cond (.t 48) (.keep [0,5,7,11,12,46,47] [7] .skip) (kB [0,5,11,12] (.exit 2))) (.keep [0,5,7,11,12,46,47] [7] (.seq (.block 3 (.seq (.region [
 oM 49 47 0,oM 8 49 1] false [0,5,7,8,11,12,46,47] [7]) (.seq (.region [
 oM 50 5 0,oN 51 (fA 8 7) 1,oN 52 (lD 51) 2,oM 53 8 3,oN 54 (.indexAddr 2 (.t 52) (.t 53)) 4,oN 55 (fA 1 54) 5,oN 56 (lD 55) 6,oN 57 (.len 0 (.t 56)) 7,oN 58 (fA 8 7) 8,oN 59 (lD 58) 9,oM 60 8 10,oN 61 (.indexAddr 2 (.t 59) (.t 60)) 11,oN 62 (fA 0 61) 12,oN 63 (lD 62) 13,oN 64 (.len 0 (.t 63)) 14,oN 65 (.bin .add (.t 57) (.t 64)) 15,oN 66 (.bin .quo (.t 65) (iC 4096)) 16,oN 67 (.bin .sub (.t 50) (.t 66)) 17,oM 5 67 18] true [0,5,7,11,12,46,47] [7]) (.keep [0,5,7,11,12,46,47] [7] .skip)))) (.keep [0,5,7,11,12,46,47] [7] (.seq (.region [
 oN 68 (.bin .add (.t 47) (iC 1)) 0,oM 47 68 1] false [0,5,7,11,12,46,47] [7]) (.keep [0,5,7,11,12,46,47] [7] .skip)))))))
def B12x0:LCode :=
 (.seq (rN [
 oN 13 (.bin .lss (.t 12) (.t 11)) 0] [0,5,11,12,13]) (.seq (.cond (.t 13) (kS [0,5,11,12]) (kB [5] (.exit 0))) (kB [0,5,11,12] (.seq (.block 1 (.seq (rN [
 oM 14 12 0,oM 6 14 1] [0,5,6,11,12]) (.seq (.region [
 oM 15 0 0,oM 16 6 1,oN 17 (.indexAddr 9 (.t 15) (.t 16)) 2,oN 18 (.load 9 true (.t 17)) 3,oN 7 (.alloc false 7 [.p (.int .i64 0),.p (.int .i64 0),.p (.int .i64 0),.p (.int .i64 0),.p (.str []),.p (.str []),.p (.str []),.p (.str []),.p (.list [])] []) 4,⟨none,.store 9 true (.t 7) (.t 18),none,5,[]⟩] false [0,5,7,11,12] [7]) (.seq (.region [
 oM 19 5 0,oN 20 (.bin .sub (.t 19) (iC 1)) 1,oN 21 (fA 8 7) 2,oN 22 (lD 21) 3,oN 23 (.len 1 (.t 22)) 4,oN 24 (.bin .sub (.t 20) (.t 23)) 5,oN 25 (fA 7 7) 6,oN 26 (lD 25) 7,oN 27 (.len 0 (.t 26)) 8,oN 28 (fA 5 7) 9,oN 29 (lD 28) 10,oN 30 (.len 0 (.t 29)) 11,oN 31 (.bin .add (.t 27) (.t 30)) 12,oN 32 (fA 4 7) 13,oN 33 (lD 32) 14,oN 34 (.len 0 (.t 33)) 15,oN 35 (.bin .add (.t 31) (.t 34)) 16,oN 36 (fA 6 7) 17,oN 37 (lD 36) 18,oN 38 (.len 0 (.t 37)) 19,oN 39 (.bin .add (.t 35) (.t 38)) 20,oN 40 (.bin .quo (.t 39) (iC 4096)) 21,oN 41 (.bin .sub (.t 24) (.t 40)) 22,oM 5 41 23] false [0,5,7,11,12] [7]) (.seq (.region [
 oM 42 5 0,oN 43 (.bin .lss (.t 42) (iC 0)) 1] false [0,5,7,11,12,43] [7]) (.seq (.cond (.t 43) (.seq (rN [
 oN 4 (.move (.c (.bool false))) 0] [4]) (kB [4] .ret)) (.keep [0,5,7,11,12] [7] .skip)) (.keep [0,5,7,11,12] [7] (.seq (.region [
 oN 44 (fA 8 7) 0,oN 45 (lD 44) 1,oN 46 (.len 1 (.t 45)) 2,oN 47 (.move (iC 0)) 3] false [0,5,7,11,12,46,47] [7]) (.seq (.block 2 (.seq (.keep [0,5,7,11,12,46,47] [7] (.loop B12x1)) (kS [0,5,11,12]))) (kS [0,5,11,12])))))))))) (kB [0,5,11,12] (.seq (rN [
 oN 69 (.bin .add (.t 12) (iC 1)) 0,oM 12 69 1] [0,5,11,12]) (kS [0,5,11,12])))))))
def F12:LFunc:={ nparams:=2,results:=[.tmp 4],pure:=true,body :=
 (.seq (rN [
 oN 4 (.move (.c (.bool false))) 0] [0,1]) (.seq (rN [
 oM 9 1 0,oM 5 9 1] [0,5]) (.seq (rN [
 oM 10 0 0,oN 11 (.len 1 (.t 10)) 1,oN 12 (.move (iC 0)) 2] [0,5,11,12]) (.seq (.block 0 (.seq (kB [0,5,11,12] (.loop B12x0)) (kS [5]))) (kB [5] (.seq (rN [
 oM 70 5 0,oN 71 (.bin .geq (.t 70) (iC 0)) 1,oM 4 71 2] [4]) (kB [4] .ret))))))) }
theorem ok12:fnSoundB Go.Proofs.Tryz.prog 12 F12=true:=by decide +kernel
def B13x1:LCode :=
 (.seq (rN [
 oN 48 (.bin .lss (.t 47) (.t 46)) 0] [0,3,10,11,46,47,48]) (.seq (.cond (.t 48) (kS [0,3,10,11,46,47]) (kB [0,10,11] (.exit 2))) (kB [0,3,10,11,46,47] (.seq (.block 3 (.seq (rN [
 oM 49 47 0,oM 5 49 1] [0,3,5,10,11,46,47]) (.seq (.region [
 oM 50 0 0,oM 51 3 1,oN 52 (.indexAddr 6 (.t 50) (.t 51)) 2,oN 53 (fA 3 52) 3,oN 54 (lD 53) 4,oN 55 (.eq .s true (.t 54) (.c (.str []))) 5,oM 56 55 6,oG 57 (.move (.t 0)) 56 true 7,oG 58 (.move (.t 5)) 56 true 8,oG 59 (.indexAddr 6 (.t 57) (.t 58)) 56 true 9,oG 60 (fA 1 59) 56 true 10,oG 61 (lD 60) 56 true 11,oG 62 (.move (.t 0)) 56 true 12,oG 63 (.move (.t 3)) 56 true 13,oG 64 (.indexAddr 6 (.t 62) (.t 63)) 56 true 14,oG 65 (fA 1 64) 56 true 15,oG 66 (lD 65) 56 true 16,oG 67 (.eq .i false (.t 61) (.t 66)) 56 true 17,oN 68 (.pick (.t 56) (.t 67) (.c (.bool false))) 18,oM 69 68 19,oG 70 (.move (.t 0)) 69 true 20,oG 71 (.move (.t 5)) 69 true 21,oG 72 (.indexAddr 6 (.t 70) (.t 71)) 69 true 22,oG 73 (fA 3 72) 69 true 23,oG 74 (lD 73) 69 true 24,oG 75 (.move (.t 0)) 69 true 25,oG 76 (.move (.t 3)) 69 true 26,oG 77 (.indexAddr 6 (.t 75) (.t 76)) 69 true 27,oG 78 (fA 3 77) 69 true 28,oG 79 (lD 78) 69 true 29,oG 80 (.eq .s false (.t 74) (.t 79)) 69 true 30,oN 81 (.pick (.t 69) (.t 80) (.c (.bool false))) 31] true [0,3,10,11,46,47,81] []) (.seq (.cond (.t 81) (.seq (rN [
 oN 2 (.move (iC 10)) 0] [2]) (kB [2] .ret)) (kS [0,3,10,11,46,47])) (kS [0,3,10,11,46,47]))))) (kB [0,3,10,11,46,47] (.seq (rN [
 oN 82 (.bin .add (.t 47) (iC 1)) 0,oM 47 82 1] [0,3,10,11,46,47]) (kS [0,3,10,11,46,47])))))))
def B13x0:LCode :=
 (.seq (rN [
 oN 12 (.bin .lss (.t 11) (.t 10)) 0] [0,10,11,12]) (.seq (.cond (.t 12) (kS [0,10,11]) (kB [] (.exit 0))) (kB [0,10,11] (.seq (.block 1 (.seq (rN [
 oM 13 11 0,oM 3 13 1] [0,3,10,11]) (.seq (rN [
 oM 14 3 0,oN 15 (.eq .i false (.t 14) (iC 4096)) 1] [0,3,10,11,15]) (.seq (.cond (.t 15) (.seq (rN [
 oN 2 (.move (iC 12)) 0] [2]) (kB [2] .ret)) (kS [0,3,10,11])) (kB [0,3,10,11] (.seq (rN [
 oM 16 0 0,oM 17 3 1,oN 18 (.bin .add (.t 17) (iC 1)) 2,oN 19 (.pcall 51 [(.t 16,.as),(.t 18,.as)]) 3,oN 20 (.bin .gtr (.t 19) (iC 64)) 4] [0,3,10,11,20]) (.seq (.cond (.t 20) (.seq (rN [
 oN 2 (.move (iC 11)) 0] [2]) (kB [2] .ret)) (kS [0,3,10,11])) (kB [0,3,10,11] (.seq (.region [
 oM 21 0 0,oM 22 3 1,oN 23 (.indexAddr 6 (.t 21) (.t 22)) 2,oN 24 (fA 2 23) 3,oN 25 (lD 24) 4,oM 26 0 5,oM 27 3 6,oN 28 (.indexAddr 6 (.t 26) (.t 27)) 7,oN 29 (fA 3 28) 8,oN 30 (lD 29) 9,oM 31 0 10,oM 32 3 11,oN 33 (.indexAddr 6 (.t 31) (.t 32)) 12,oN 34 (fA 4 33) 13,oN 35 (lD 34) 14,oM 36 0 15,oM 37 3 16,oN 38 (.indexAddr 6 (.t 36) (.t 37)) 17,oN 39 (fA 5 38) 18,oN 40 (lD 39) 19,oN 41 (.build [.p (.str []),.p (.str []),.p (.str []),.p (.list []),.nils] [(0,1,.t 25),(1,1,.t 30),(2,1,.t 35),(3,1,.t 40)]) 20,oN 42 (.pcall 52 [(.t 41,.look)]) 21,oM 4 42 22] true [0,3,4,10,11] []) (.seq (rN [
 oM 43 4 0,oN 44 (.eq .i true (.t 43) (iC 0)) 1] [0,3,4,10,11,44]) (.seq (.cond (.t 44) (.seq (rN [
 oM 45 4 0,oM 2 45 1] [2]) (kB [2] .ret)) (kS [0,3,10,11])) (kB [0,3,10,11] (.seq (rN [
 oM 46 3 0,oN 47 (.move (iC 0)) 1] [0,3,10,11,46,47]) (.seq (.block 2 (.seq (kB [0,3,10,11,46,47] (.loop B13x1)) (kS [0,10,11]))) (kS [0,10,11]))))))))))))))) (kB [0,10,11] (.seq (rN [
 oN 83 (.bin .add (.t 11) (iC 1)) 0,oM 11 83 1] [0,10,11]) (kS [0,10,11])))))))
def F13:LFunc:={ nparams:=1,results:=[.tmp 2],pure:=true,body :=
 (.seq (rN [
 oN 2 (.move (iC 0)) 0] [0]) (.seq (rN [
 oM 6 0 0,oN 7 (.pcall 50 [(.t 6,.as)]) 1,oN 8 (.un .not (.t 7)) 2] [0,8]) (.seq (.cond (.t 8) (.seq (rN [
 oN 2 (.move (iC 2)) 0] [2]) (kB [2] .ret)) (kS [0])) (kB [0] (.seq (rN [
 oM 9 0 0,oN 10 (.len 1 (.t 9)) 1,oN 11 (.move (iC 0)) 2] [0,10,11]) (.seq (.block 0 (.seq (kB [0,10,11] (.loop B13x0)) (kS []))) (kB [] (.seq (rN [
 oN 2 (.move (iC 0)) 0] [2]) (kB [2] .ret))))))))) }
theorem ok13:fnSoundB Go.Proofs.Tryz.prog 13 F13=true:=by decide +kernel
def F18:LFunc:={ nparams:=1,results:=[.tmp 2],pure:=true,body :=
 (.seq (.region [
 oN 1 (.box false 1 (.t 0)) 0,oN 2 (.move (iC 0)) 1] false [1] [1]) (.seq (.region [
 oN 5 (fA 0 1) 0,oN 6 (lD 5) 1,oN 7 (.bin .lss (.t 6) (iC 1)) 2,oM 8 7 3,oG 9 (fA 0 1) 8 false 4,oG 10 (lD 9) 8 false 5,oG 11 (.bin .gtr (.t 10) (iC 7)) 8 false 6,oN 12 (.pick (.t 8) (.c (.bool true)) (.t 11)) 7] false [1,12] [1]) (.seq (.cond (.t 12) (.seq (rN [
 oN 2 (.move (iC 6)) 0] [2]) (kB [2] .ret)) (.keep [1] [1] .skip)) (.keep [1] [1] (.seq (.region [
 oN 13 (fA 1 1) 0,oN 14 (lD 13) 1,oN 15 (.pcall 61 [(.t 14,.as)]) 2,oM 16 15 3,oG 17 (fA 2 1) 16 false 4,oG 18 (lD 17) 16 false 5,oG 19 (.pcall 61 [(.t 18,.as)]) 16 false 6,oN 20 (.pick (.t 16) (.c (.bool true)) (.t 19)) 7,oM 21 20 8,oG 22 (fA 3 1) 21 false 9,oG 23 (lD 22) 21 false 10,oG 24 (.pcall 61 [(.t 23,.as)]) 21 false 11,oN 25 (.pick (.t 21) (.c (.bool true)) (.t 24)) 12] false [1,25] [1]) (.seq (.cond (.t 25) (.seq (rN [
 oN 2 (.move (iC 5)) 0] [2]) (kB [2] .ret)) (.keep [1] [1] .skip)) (.keep [1] [1] (.seq (.region [
 oN 26 (.load 9 true (.t 1)) 0,oN 27 (.pcall 62 [(.t 26,.as)]) 1] false [1,27] [1]) (.seq (.cond (.t 27) (.seq (rN [
 oN 2 (.move (iC 2)) 0] [2]) (kB [2] .ret)) (.keep [1] [1] .skip)) (.keep [1] [1] (.seq (.region [
 oN 28 (fA 0 1) 0,oN 29 (lD 28) 1,oN 30 (.eq .i false (.t 29) (iC 1)) 2,oM 31 30 3,oG 32 (fA 4 1) 31 true 4,oG 33 (lD 32) 31 true 5,oG 34 (.pcall 63 [(.t 33,.as),(.c (.bool false),.as)]) 31 true 6,oG 35 (.un .not (.t 34)) 31 true 7,oN 36 (.pick (.t 31) (.t 35) (.c (.bool false))) 8] false [1,36] [1]) (.seq (.cond (.t 36) (.seq (rN [
 oN 2 (.move (iC 7)) 0] [2]) (kB [2] .ret)) (.keep [1] [1] .skip)) (.keep [1] [1] (.seq (.region [
 oN 37 (fA 0 1) 0,oN 38 (lD 37) 1,oN 39 (.eq .i false (.t 38) (iC 5)) 2,oM 40 39 3,oG 41 (fA 0 1) 40 false 4,oG 42 (lD 41) 40 false 5,oG 43 (.eq .i false (.t 42) (iC 6)) 40 false 6,oN 44 (.pick (.t 40) (.c (.bool true)) (.t 43)) 7,oM 45 44 8,oG 46 (fA 6 1) 45 true 9,oG 47 (lD 46) 45 true 10,oG 48 (.pcall 63 [(.t 47,.as),(.c (.bool true),.as)]) 45 true 11,oG 49 (.un .not (.t 48)) 45 true 12,oN 50 (.pick (.t 45) (.t 49) (.c (.bool false))) 13] false [1,50] [1]) (.seq (.cond (.t 50) (.seq (rN [
 oN 2 (.move (iC 8)) 0] [2]) (kB [2] .ret)) (.keep [1] [1] .skip)) (.keep [1] [1] (.seq (.region [
 oN 51 (fA 5 1) 0,oN 52 (lD 51) 1,oN 53 (.len 0 (.t 52)) 2,oN 54 (.bin .gtr (.t 53) (iC 65536)) 3,oM 55 54 4,oG 56 (fA 7 1) 55 false 5,oG 57 (lD 56) 55 false 6,oG 58 (.len 0 (.t 57)) 55 false 7,oG 59 (.bin .gtr (.t 58) (iC 65536)) 55 false 8,oN 60 (.pick (.t 55) (.c (.bool true)) (.t 59)) 9] false [1,60] [1]) (.seq (.cond (.t 60) (.seq (rN [
 oN 2 (.move (iC 3)) 0] [2]) (kB [2] .ret)) (.keep [1] [1] .skip)) (.keep [1] [1] (.seq (rN [
 oN 62 (fA 8 1) 0,oN 63 (lD 62) 1,oN 64 (.pcall 64 [(.t 63,.as)]) 2,oM 61 64 3,oN 65 (.extract (.t 61) 0) 4,oN 66 (.extract (.t 61) 1) 5,oM 3 65 6,oM 4 66 7] [4]) (.seq (rN [
 oM 67 4 0,oM 2 67 1] [2]) (kB [2] .ret)))))))))))))))))))))) }
theorem ok18:fnSoundB Go.Proofs.Tryz.prog 18 F18=true:=by decide +kernel
def B20x0:LCode :=
 (.seq (rN [
 oN 14 (.bin .lss (.t 13) (.t 12)) 0] [0,1,12,13,14]) (.seq (.cond (.t 14) (kS [0,1,12,13]) (kB [0,1] (.exit 0))) (kB [0,1,12,13] (.seq (.block 1 (.seq (rN [
 oM 15 13 0,oM 5 15 1] [0,1,5,12,13]) (.seq (.region [
 oM 16 0 0,oM 17 5 1,oN 18 (.indexAddr 6 (.t 16) (.t 17)) 2,oN 19 (fA 0 18) 3,oN 20 (lD 19) 4,oM 21 1 5,oM 22 5 6,oN 23 (.indexAddr 6 (.t 21) (.t 22)) 7,oN 24 (fA 0 23) 8,oN 25 (lD 24) 9,oN 26 (.eq .i true (.t 20) (.t 25)) 10] true [0,1,12,13,26] []) (.seq (.cond (.t 26) (.seq (rN [
 oN 4 (.move (.c (.bool false))) 0] [4]) (kB [4] .ret)) (kS [0,1,12,13])) (kS [0,1,12,13]))))) (kB [0,1,12,13] (.seq (rN [
 oN 27 (.bin .add (.t 13) (iC 1)) 0,oM 13 27 1] [0,1,12,13]) (kS [0,1,12,13])))))))
def F20:LFunc:={ nparams:=2,results:=[.tmp 4],pure:=true,body :=
 (.seq (rN [
 oN 4 (.move (.c (.bool false))) 0] [0,1]) (.seq (rN [
 oM 6 0 0,oN 7 (.len 1 (.t 6)) 1,oM 8 1 2,oN 9 (.len 1 (.t 8)) 3,oN 10 (.eq .i true (.t 7) (.t 9)) 4] [0,1,10]) (.seq (.cond (.t 10) (.seq (rN [
 oN 4 (.move (.c (.bool false))) 0] [4]) (kB [4] .ret)) (kS [0,1])) (kB [0,1] (.seq (rN [
 oM 11 0 0,oN 12 (.len 1 (.t 11)) 1,oN 13 (.move (iC 0)) 2] [0,1,12,13]) (.seq (.block 0 (.seq (kB [0,1,12,13] (.loop B20x0)) (kS [0,1]))) (kB [0,1] (.seq (rN [
 oM 28 0 0,oM 29 1 1,oN 30 (.pcall 38 [(.t 28,.as),(.t 29,.as)]) 2,oM 4 30 3] [4]) (kB [4] .ret))))))))) }
theorem ok20:fnSoundB Go.Proofs.Tryz.prog 20 F20=true:=by decide +kernel
def F25:LFunc:={ nparams:=0,results:=[.tmp 0],pure:=true,body :=
 (.seq (rN [
 oN 0 (.move (.c (.bool false))) 0] []) (.seq (rN [
 oN 10 (.call 26 [(.c (.int .i64 7),.as)]) 0,oM 1 10 1] [1]) (.seq (rN [
 oM 12 1 0,oN 13 (.build [.p (.int .i64 0),.p (.int .i64 0),.p (.str []),.p (.str []),.p (.str []),.p (.list [])] [(2,1,.c (.str [112]))]) 1,oN 14 (.row 6 [.t 13]) 2,oN 15 (.call 28 [(.t 12,.as),(.t 14,.freeze)]) 3,oM 11 15 4,oN 16 (.extract (.t 11) 0) 5,oN 17 (.extract (.t 11) 1) 6,oM 2 16 7,oM 3 17 8] [1,2,3]) (.seq (rN [
 oM 19 1 0,oM 20 2 1,oN 21 (.build [.p (.int .i64 0),.p (.int .i64 0),.p (.int .i64 0),.p (.int .i64 0),.p (.str []),.p (.str []),.p (.str []),.p (.str []),.p (.list [])] [(0,1,.c (.int .i64 1)),(4,1,.c (.str [98]))]) 2,oN 22 (.build [.p (.int .i64 0),.p (.int .i64 0),.p (.int .i64 0),.p (.int .i64 0),.p (.str []),.p (.str []),.p (.str []),.p (.str []),.p (.list [])] [(0,1,.c (.int .i64 2)),(1,1,.c (.int .i64 2)),(2,1,.c (.int .i64 1))]) 3,oN 23 (.row 9 [.t 21,.t 22]) 4,oN 24 (.call 30 [(.t 19,.as),(.t 20,.as),(.t 23,.freeze)]) 5,oM 18 24 6,oN 25 (.extract (.t 18) 0) 7,oN 26 (.extract (.t 18) 1) 8,oN 27 (.extract (.t 18) 2) 9,oM 4 25 10,oM 5 26 11,oM 6 27 12] [1,3,4,5,6]) (.seq (rN [
 oM 29 1 0,oM 30 4 1,oN 31 (.build [.p (.int .i64 0),.p (.int .i64 0),.p (.int .i64 0),.p (.int .i64 0),.p (.str []),.p (.str []),.p (.str []),.p (.str []),.p (.list [])] [(0,1,.c (.int .i64 4)),(1,1,.c (.int .i64 3))]) 2,oN 32 (.row 9 [.t 31]) 3,oN 33 (.call 30 [(.t 29,.as),(.t 30,.as),(.t 32,.freeze)]) 4,oM 28 33 5,oN 34 (.extract (.t 28) 0) 6,oN 35 (.extract (.t 28) 1) 7,oN 36 (.extract (.t 28) 2) 8,oM 7 34 9,oM 8 35 10,oM 9 36 11] [1,3,4,5,6,8,9]) (.seq (rN [
 oM 37 3 0,oN 38 (.eq .i false (.t 37) (iC 0)) 1,oM 39 38 2,oG 40 (.move (.t 6)) 39 true 3,oG 41 (.eq .i false (.t 40) (iC 0)) 39 true 4,oN 42 (.pick (.t 39) (.t 41) (.c (.bool false))) 5,oM 43 42 6,oG 44 (.move (.t 5)) 43 true 7,oG 45 (.eq .i false (.t 44) (iC 2)) 43 true 8,oN 46 (.pick (.t 43) (.t 45) (.c (.bool false))) 9,oM 47 46 10,oG 48 (.move (.t 4)) 47 true 11,oG 49 (.row 1 [.c (.int .i64 0),.c (.int .i64 7),.c (.int .i64 8)]) 47 true 12,oG 50 (.pcall 32 [(.t 48,.look),(.t 49,.look)]) 47 true 13,oN 51 (.pick (.t 47) (.t 50) (.c (.bool false))) 14,oM 52 51 15,oG 53 (.move (.t 1)) 52 true 16,oG 54 (.call 36 [(.t 53,.as)]) 52 true 17,oG 55 (.move (.t 4)) 52 true 18,oG 56 (.pcall 32 [(.t 54,.look),(.t 55,.look)]) 52 true 19,oN 57 (.pick (.t 52) (.t 56) (.c (.bool false))) 20,oM 58 57 21,oG 59 (.move (.t 8)) 58 true 22,oG 60 (.eq .i false (.t 59) (iC 0)) 58 true 23,oN 61 (.pick (.t 58) (.t 60) (.c (.bool false))) 24,oM 62 61 25,oG 63 (.move (.t 9)) 62 true 26,oG 64 (.eq .i false (.t 63) (iC 13)) 62 true 27,oN 65 (.pick (.t 62) (.t 64) (.c (.bool false))) 28,oM 0 65 29] [0]) (kB [0] .ret))))))) }
theorem ok25:fnSoundB Go.Proofs.Tryz.prog 25 F25=true:=by decide +kernel
def F26:LFunc:={ nparams:=1,results:=[.tmp 2],pure:=false,body :=
 (.seq (rN [
 oN 2 (.move (.c (.nilp))) 0] [0]) (.seq (rN [
 oM 3 0 0,oN 4 (.bin .lss (.t 3) (iC 1)) 1,oM 5 4 2,oG 6 (.move (.t 0)) 5 false 3,oG 7 (.bin .gtr (.t 6) (iC 4294967296)) 5 false 4,oN 8 (.pick (.t 5) (.c (.bool true)) (.t 7)) 5] [0,8]) (.seq (.cond (.t 8) (.seq (rN [
 oN 2 (.move (.c (.nilp))) 0] [2]) (kB [2] .ret)) (kS [0])) (kB [0] (.seq (rN [
 oN 9 (.makeMap true 9) 0,oN 10 (.call 73 [(.c (.int .i64 0),.as)]) 1,oN 11 (.build [.p (.nilp),.p (.str []),.p (.str []),.p (.str []),.p (.list [])] [(0,1,.t 10)]) 2,oN 12 (.box true 12 (.t 11)) 3,⟨none,.mapUpdate 1 (.t 9) (iC 0) (.t 12),none,4,[]⟩,oM 13 9 5,oM 14 0 6,oN 15 (.build [.p (.nilm),.p (.int .i64 0)] [(0,1,.t 13),(1,1,.t 14)]) 7,oN 16 (.box true 16 (.t 15)) 8,oM 2 16 9] [2]) (kB [2] .ret)))))) }
theorem ok26:fnSoundB Go.Proofs.Tryz.prog 26 F26=true:=by decide +kernel
def F27:LFunc:={ nparams:=1,results:=[.tmp 2],pure:=false,body :=
 (.seq (rN [
 oN 2 (.move (.c (.nilp))) 0] [0]) (.seq (rN [
 oN 3 (.build [.p (.int .i64 0),.p (.int .i64 0),.nils,.p (.str []),.p (.str []),.p (.str []),.p (.list [])] [(1,1,.c (.int .i64 (-1)))]) 0,oN 4 (.rowOwn true 4 7 [.t 3]) 1,oM 5 0 2,oN 6 (.build [.nils,.p (.int .i64 0)] [(0,1,.t 4),(1,1,.t 5)]) 3,oN 7 (.box true 7 (.t 6)) 4,oM 2 7 5] [2]) (kB [2] .ret))) }
theorem ok27:fnSoundB Go.Proofs.Tryz.prog 27 F27=true:=by decide +kernel
def B28x0:LCode :=
 (.seq (rN [
 oN 29 (.bin .lss (.t 28) (.t 27)) 0] [0,7,26,27,28,29]) (.seq (.cond (.t 29) (kS [0,7,26,27,28]) (kB [7] (.exit 0))) (kB [0,7,26,27,28] (.seq (.block 1 (.seq (.region [
 oN 30 (.indexAddr 6 (.t 26) (.t 28)) 0,oN 31 (.load 6 true (.t 30)) 1,oN 9 (.alloc false 9 [.p (.int .i64 0),.p (.int .i64 0),.p (.str []),.p (.str []),.p (.str []),.p (.list [])] []) 2,⟨none,.store 6 true (.t 9) (.t 31),none,3,[]⟩] false [0,7,9,26,27,28] [9]) (.seq (.region [
 oM 33 0 0,oN 34 (fA 2 9) 1,oN 35 (lD 34) 2,oN 36 (fA 3 9) 3,oN 37 (lD 36) 4,oN 38 (fA 4 9) 5,oN 39 (lD 38) 6,oN 40 (fA 5 9) 7,oN 41 (lD 40) 8,oN 42 (.call 74 [(.t 33,.as),(.t 35,.as),(.t 37,.as),(.t 39,.as),(.t 41,.as)]) 9,oM 32 42 10,oN 43 (.extract (.t 32) 0) 11,oN 44 (.extract (.t 32) 1) 12,oM 10 43 13,oM 11 44 14] false [0,7,9,10,11,26,27,28] [9]) (.seq (.region [
 oM 45 11 0,oN 46 (.eq .i false (.t 45) (iC 0)) 1] false [0,7,9,10,11,26,27,28,46] [9]) (.seq (.cond (.t 46) (.seq (rN [
 oM 47 0 0,oM 48 10 1,oM 49 7 2,oN 50 (fA 1 9) 3,oN 51 (lD 50) 4,oN 52 (.indexAddr 1 (.t 49) (.t 51)) 5,oN 53 (lD 52) 6,oN 54 (.call 75 [(.t 47,.as),(.t 48,.as),(.t 53,.as),(.c (.int .i64 0),.as)]) 7,oM 11 54 8] [0,7,10,11,26,27,28]) (kS [0,7,10,11,26,27,28])) (kS [0,7,10,11,26,27,28])) (kB [0,7,10,11,26,27,28] (.seq (rN [
 oM 55 11 0,oN 56 (.eq .i true (.t 55) (iC 0)) 1] [0,7,10,11,26,27,28,56]) (.seq (.cond (.t 56) (.seq (rN [
 oM 57 11 0,oN 4 (.move (.c (.list []))) 1,oM 5 57 2] [4,5]) (kB [4,5] .ret)) (kS [0,7,10,26,27,28])) (kB [0,7,10,26,27,28] (.seq (rN [
 oM 58 7 0,oM 59 10 1,oN 60 (.row 1 [.t 59]) 2,oN 61 (.append true 1000 1 8 (.t 58) (.t 60)) 3,oM 7 61 4] [0,7,26,27,28]) (kS [0,7,26,27,28]))))))))))) (kB [0,7,26,27,28] (.seq (rN [
 oN 62 (.bin .add (.t 28) (iC 1)) 0,oM 28 62 1] [0,7,26,27,28]) (kS [0,7,26,27,28])))))))
def F28:LFunc:={ nparams:=2,results:=[.tmp 4,.tmp 5],pure:=false,body :=
 (.seq (rN [
 oN 4 (.move (.c (.list []))) 0,oN 5 (.move (iC 0)) 1] [0,1]) (.seq (rN [
 oM 12 0 0,oN 13 (.eq .ptr false (.t 12) (.c (.nilp))) 1] [0,1,13]) (.seq (.cond (.t 13) (.seq (rN [
 oN 4 (.move (.c (.list []))) 0,oN 5 (.move (iC 1)) 1] [4,5]) (kB [4,5] .ret)) (kS [0,1])) (kB [0,1] (.seq (rN [
 oM 14 1 0,oN 15 (.pcall 55 [(.t 14,.as)]) 1,oM 6 15 2] [0,1,6]) (.seq (rN [
 oM 16 6 0,oN 17 (.eq .i true (.t 16) (iC 0)) 1] [0,1,6,17]) (.seq (.cond (.t 17) (.seq (rN [
 oM 18 6 0,oN 4 (.move (.c (.list []))) 1,oM 5 18 2] [4,5]) (kB [4,5] .ret)) (kS [0,1])) (kB [0,1] (.seq (rN [
 oM 19 0 0,oN 20 (.call 35 [(.t 19,.as)]) 1,oM 21 1 2,oN 22 (.len 1 (.t 21)) 3,oN 23 (.bin .add (.t 20) (.t 22)) 4,oN 24 (.bin .gtr (.t 23) (iC 4294967296)) 5] [0,1,24]) (.seq (.cond (.t 24) (.seq (rN [
 oN 4 (.move (.c (.list []))) 0,oN 5 (.move (iC 21)) 1] [4,5]) (kB [4,5] .ret)) (kS [0,1])) (kB [0,1] (.seq (rN [
 oN 25 (.rowOwn true 25 1 [.c (.int .i64 0)]) 0,oM 7 25 1] [0,1,7]) (.seq (rN [
 oM 26 1 0,oN 27 (.len 1 (.t 26)) 1,oN 28 (.move (iC 0)) 2] [0,7,26,27,28]) (.seq (.block 0 (.seq (kB [0,7,26,27,28] (.loop B28x0)) (kS [7]))) (kB [7] (.seq (rN [
 oM 63 7 0,oM 4 63 1,oN 5 (.move (iC 0)) 2] [4,5]) (kB [4,5] .ret))))))))))))))))) }
theorem ok28:fnSoundB Go.Proofs.Tryz.prog 28 F28=true:=by decide +kernel
def B29x0:LCode :=
 (.seq (rN [
 oN 23 (.bin .lss (.t 22) (.t 21)) 0] [0,1,6,21,22,23]) (.seq (.cond (.t 23) (kS [0,1,6,21,22]) (kB [6] (.exit 0))) (kB [0,1,6,21,22] (.seq (.block 1 (.seq (rN [
 oM 24 22 0,oM 7 24 1] [0,1,6,7,21,22]) (.seq (.region [
 oM 25 1 0,oM 26 7 1,oN 27 (.indexAddr 6 (.t 25) (.t 26)) 2,oN 28 (.load 6 true (.t 27)) 3,oN 8 (.alloc false 8 [.p (.int .i64 0),.p (.int .i64 0),.p (.str []),.p (.str []),.p (.str []),.p (.list [])] []) 4,⟨none,.store 6 true (.t 8) (.t 28),none,5,[]⟩] false [0,1,6,8,21,22] [8]) (.seq (.region [
 oM 30 0 0,oN 31 (fA 2 8) 1,oN 32 (lD 31) 2,oN 33 (fA 3 8) 3,oN 34 (lD 33) 4,oN 35 (fA 4 8) 5,oN 36 (lD 35) 6,oN 37 (fA 5 8) 7,oN 38 (lD 37) 8,oN 39 (.call 76 [(.t 30,.as),(.t 32,.as),(.t 34,.as),(.t 36,.as),(.t 38,.as)]) 9,oM 29 39 10,oN 40 (.extract (.t 29) 0) 11,oN 41 (.extract (.t 29) 1) 12,oM 9 40 13,oM 10 41 14] false [0,1,6,8,9,21,22] [8]) (.seq (rN [
 oM 42 0 0,oM 43 9 1,oM 44 6 2,oN 45 (fA 1 8) 3,oN 46 (lD 45) 4,oN 47 (.indexAddr 1 (.t 44) (.t 46)) 5,oN 48 (lD 47) 6,oN 49 (.call 77 [(.t 42,.as),(.t 43,.as),(.t 48,.as),(.c (.int .i64 0),.as)]) 7] [0,1,6,9,21,22]) (.seq (rN [
 oM 50 6 0,oM 51 9 1,oN 52 (.row 1 [.t 51]) 2,oN 53 (.append true 1000 1 8 (.t 50) (.t 52)) 3,oM 6 53 4] [0,1,6,21,22]) (kS [0,1,6,21,22]))))))) (kB [0,1,6,21,22] (.seq (rN [
 oN 54 (.bin .add (.t 22) (iC 1)) 0,oM 22 54 1] [0,1,6,21,22]) (kS [0,1,6,21,22])))))))
def F29:LFunc:={ nparams:=2,results:=[.tmp 4,.tmp 5],pure:=false,body :=
 (.seq (rN [
 oN 4 (.move (.c (.list []))) 0,oN 5 (.move (iC 0)) 1] [0,1]) (.seq (rN [
 oM 11 0 0,oN 12 (.nilCheck (.t 11)) 1,oN 13 (fA 1 12) 2,oN 14 (lD 13) 3,oM 15 1 4,oN 16 (.len 1 (.t 15)) 5,oN 17 (.bin .add (.t 14) (.t 16)) 6,oN 18 (.bin .gtr (.t 17) (iC 4294967296)) 7] [0,1,18]) (.seq (.cond (.t 18) (.seq (rN [
 oN 4 (.move (.c (.list []))) 0,oN 5 (.move (iC 21)) 1] [4,5]) (kB [4,5] .ret)) (kS [0,1])) (kB [0,1] (.seq (rN [
 oN 19 (.rowOwn true 19 1 [.c (.int .i64 0)]) 0,oM 6 19 1] [0,1,6]) (.seq (rN [
 oM 20 1 0,oN 21 (.len 1 (.t 20)) 1,oN 22 (.move (iC 0)) 2] [0,1,6,21,22]) (.seq (.block 0 (.seq (kB [0,1,6,21,22] (.loop B29x0)) (kS [6]))) (kB [6] (.seq (rN [
 oM 55 6 0,oM 4 55 1,oN 5 (.move (iC 0)) 2] [4,5]) (kB [4,5] .ret)))))))))) }
theorem ok29:fnSoundB Go.Proofs.Tryz.prog 29 F29=true:=by decide +kernel
def B30x0:LCode :=
 (.seq (rN [
 oN 26 (.bin .lss (.t 25) (.t 24)) 0] [2,9,10,23,24,25,26]) (.seq (.cond (.t 26) (kS [2,9,10,23,24,25]) (kB [2,9] (.exit 0))) (kB [2,9,10,23,24,25] (.seq (.block 1 (.seq (.region [
 oM 27 25 0,oN 28 (.indexAddr 9 (.t 23) (.t 25)) 1,oN 29 (.load 9 true (.t 28)) 2,oN 12 (.alloc false 12 [.p (.int .i64 0),.p (.int .i64 0),.p (.int .i64 0),.p (.int .i64 0),.p (.str []),.p (.str []),.p (.str []),.p (.str []),.p (.list [])] []) 3,oM 11 27 4,⟨none,.store 9 true (.t 12) (.t 29),none,5,[]⟩] false [2,9,10,11,12,23,24,25] [12]) (.seq (.region [
 oN 30 (.load 9 true (.t 12)) 0,oN 31 (.pcall 65 [(.t 30,.as)]) 1,oM 13 31 2] false [2,9,10,11,12,13,23,24,25] [12]) (.seq (.region [
 oM 32 13 0,oN 33 (.eq .i false (.t 32) (iC 0)) 1] false [2,9,10,11,12,13,23,24,25,33] [12]) (.seq (.cond (.t 33) (.seq (rN [
 oM 34 10 0,oN 35 (.load 9 true (.t 12)) 1,oN 36 (.callv (.t 34) [(.t 35,.as)]) 2,oM 13 36 3] [2,9,10,11,13,23,24,25]) (kS [2,9,10,11,13,23,24,25])) (kS [2,9,10,11,13,23,24,25])) (kB [2,9,10,11,13,23,24,25] (.seq (rN [
 oM 37 13 0,oN 38 (.eq .i true (.t 37) (iC 0)) 1] [2,9,10,11,13,23,24,25,38]) (.seq (.cond (.t 38) (.seq (rN [
 oM 39 11 0,oM 40 13 1,oN 6 (.move (.c (.list []))) 2,oM 7 39 3,oM 8 40 4] [6,7,8]) (kB [6,7,8] .ret)) (kS [2,9,10,23,24,25])) (kS [2,9,10,23,24,25]))))))))) (kB [2,9,10,23,24,25] (.seq (rN [
 oN 41 (.bin .add (.t 25) (iC 1)) 0,oM 25 41 1] [2,9,10,23,24,25]) (kS [2,9,10,23,24,25])))))))
def F30:LFunc:={ nparams:=3,results:=[.tmp 6,.tmp 7,.tmp 8],pure:=false,body :=
 (.seq (rN [
 oN 6 (.move (.c (.list []))) 0,oN 7 (.move (iC 0)) 1,oN 8 (.move (iC 0)) 2] [0,1,2]) (.seq (rN [
 oM 14 0 0,oN 15 (.eq .ptr false (.t 14) (.c (.nilp))) 1] [0,1,2,15]) (.seq (.cond (.t 15) (.seq (rN [
 oN 6 (.move (.c (.list []))) 0,oN 7 (.move (iC 0)) 1,oN 8 (.move (iC 1)) 2] [6,7,8]) (kB [6,7,8] .ret)) (kS [0,1,2])) (kB [0,1,2] (.seq (rN [
 oM 16 0 0,oM 17 1 1,oN 18 (.call 78 [(.t 17,.as)]) 2,oN 19 (.build [.p (.nilp),.nils] [(0,1,.t 16),(1,1,.t 18)]) 3,oN 20 (.box true 20 (.t 19)) 4,oM 9 20 5] [2,9]) (.seq (rN [
 oM 21 9 0,oN 22 (.makeBound 79 [.t 21]) 1,oM 10 22 2] [2,9,10]) (.seq (rN [
 oM 23 2 0,oN 24 (.len 1 (.t 23)) 1,oN 25 (.move (iC 0)) 2] [2,9,10,23,24,25]) (.seq (.block 0 (.seq (kB [2,9,10,23,24,25] (.loop B30x0)) (kS [2,9]))) (kB [2,9] (.seq (rN [
 oM 42 9 0,oN 43 (.nilCheck (.t 42)) 1,oN 44 (fA 1 43) 2,oN 45 (lD 44) 3,oM 46 2 4,oN 47 (.len 1 (.t 46)) 5,oM 6 45 6,oM 7 47 7,oN 8 (.move (iC 0)) 8] [6,7,8]) (kB [6,7,8] .ret))))))))))) }
theorem ok30:fnSoundB Go.Proofs.Tryz.prog 30 F30=true:=by decide +kernel
def B31x0:LCode :=
 (.seq (rN [
 oN 22 (.bin .lss (.t 21) (.t 20)) 0] [0,2,9,20,21,22]) (.seq (.cond (.t 22) (kS [0,2,9,20,21]) (kB [2,9] (.exit 0))) (kB [0,2,9,20,21] (.seq (.block 1 (.seq (rN [
 oM 23 21 0,oM 10 23 1] [0,2,9,10,20,21]) (.seq (rN [
 oM 24 2 0,oM 25 10 1,oN 26 (.indexAddr 9 (.t 24) (.t 25)) 2,oN 27 (.load 9 true (.t 26)) 3,oN 28 (.pcall 18 [(.t 27,.as)]) 4,oM 11 28 5] [0,2,9,10,11,20,21]) (.seq (rN [
 oM 29 11 0,oN 30 (.eq .i true (.t 29) (iC 0)) 1] [0,2,9,10,11,20,21,30]) (.seq (.cond (.t 30) (.seq (rN [
 oM 31 10 0,oM 32 11 1,oN 6 (.move (.c (.list []))) 2,oM 7 31 3,oM 8 32 4] [6,7,8]) (kB [6,7,8] .ret)) (kS [0,2,9,10,20,21])) (kB [0,2,9,10,20,21] (.seq (.region [
 oM 34 2 0,oM 35 10 1,oN 36 (.indexAddr 9 (.t 34) (.t 35)) 2,oN 37 (.load 9 true (.t 36)) 3,oM 38 9 4,oN 39 (.call 80 [(.t 37,.as),(.t 38,.as)]) 5,oM 33 39 6,oN 40 (.extract (.t 33) 0) 7,oN 41 (.extract (.t 33) 1) 8,oN 12 (.alloc false 12 [.p (.int .i64 0),.p (.int .i64 0),.p (.int .i64 0),.p (.int .i64 0),.p (.str []),.p (.str []),.p (.str []),.p (.str []),.p (.list [])] []) 9,⟨none,.store 9 true (.t 12) (.t 40),none,10,[]⟩,oM 13 41 11] false [0,2,9,10,12,13,20,21] [12]) (.seq (.region [
 oM 42 13 0,oN 43 (.un .not (.t 42)) 1] false [0,2,9,10,12,20,21,43] [12]) (.seq (.cond (.t 43) (.seq (rN [
 oM 44 10 0,oN 6 (.move (.c (.list []))) 1,oM 7 44 2,oN 8 (.move (iC 13)) 3] [6,7,8]) (kB [6,7,8] .ret)) (.keep [0,2,9,10,12,20,21] [12] .skip)) (.keep [0,2,9,10,12,20,21] [12] (.seq (.region [
 oM 46 0 0,oN 47 (.load 9 true (.t 12)) 1,oN 48 (.call 81 [(.t 46,.as),(.t 47,.as)]) 2,oM 45 48 3,oN 49 (.extract (.t 45) 0) 4,oN 50 (.extract (.t 45) 1) 5,oM 14 49 6,oM 15 50 7] false [0,2,9,10,12,14,15,20,21] [12]) (.seq (.region [
 oM 51 15 0,oN 52 (.eq .i true (.t 51) (iC 0)) 1] false [0,2,9,10,12,14,15,20,21,52] [12]) (.seq (.cond (.t 52) (.seq (rN [
 oM 53 10 0,oM 54 15 1,oN 6 (.move (.c (.list []))) 2,oM 7 53 3,oM 8 54 4] [6,7,8]) (kB [6,7,8] .ret)) (.keep [0,2,9,12,14,20,21] [12] .skip)) (.keep [0,2,9,12,14,20,21] [12] (.seq (rN [
 oN 55 (fA 0 12) 0,oN 56 (lD 55) 1,oN 57 (.eq .i false (.t 56) (iC 1)) 2] [0,2,9,14,20,21,57]) (.seq (.cond (.t 57) (.seq (rN [
 oM 58 9 0,oM 59 14 1,oN 60 (.row 1 [.t 59]) 2,oN 61 (.append true 1002 1 8 (.t 58) (.t 60)) 3,oM 9 61 4] [0,2,9,20,21]) (kS [0,2,9,20,21])) (kS [0,2,9,20,21])) (kS [0,2,9,20,21]))))))))))))))))) (kB [0,2,9,20,21] (.seq (rN [
 oN 62 (.bin .add (.t 21) (iC 1)) 0,oM 21 62 1] [0,2,9,20,21]) (kS [0,2,9,20,21])))))))
def F31:LFunc:={ nparams:=3,results:=[.tmp 6,.tmp 7,.tmp 8],pure:=false,body :=
 (.seq (rN [
 oN 6 (.move (.c (.list []))) 0,oN 7 (.move (iC 0)) 1,oN 8 (.move (iC 0)) 2] [0,1,2]) (.seq (rN [
 oN 9 (.nilown true 1000 1) 0] [0,1,2,9]) (.seq (rN [
 oM 16 9 0,oM 17 1 1,oN 18 (.append true 1001 1 8 (.t 16) (.t 17)) 2,oM 9 18 3] [0,2,9]) (.seq (rN [
 oM 19 2 0,oN 20 (.len 1 (.t 19)) 1,oN 21 (.move (iC 0)) 2] [0,2,9,20,21]) (.seq (.block 0 (.seq (kB [0,2,9,20,21] (.loop B31x0)) (kS [2,9]))) (kB [2,9] (.seq (rN [
 oM 63 9 0,oM 64 2 1,oN 65 (.len 1 (.t 64)) 2,oM 6 63 3,oM 7 65 4,oN 8 (.move (iC 0)) 5] [6,7,8]) (kB [6,7,8] .ret)))))))) }
theorem ok31:fnSoundB Go.Proofs.Tryz.prog 31 F31=true:=by decide +kernel
def B32x0:LCode :=
 (.seq (rN [
 oN 14 (.bin .lss (.t 13) (.t 12)) 0] [0,1,12,13,14]) (.seq (.cond (.t 14) (kS [0,1,12,13]) (kB [] (.exit 0))) (kB [0,1,12,13] (.seq (.block 1 (.seq (rN [
 oM 15 13 0,oM 5 15 1] [0,1,5,12,13]) (.seq (.region [
 oM 16 0 0,oM 17 5 1,oN 18 (.indexAddr 1 (.t 16) (.t 17)) 2,oN 19 (lD 18) 3,oM 20 1 4,oM 21 5 5,oN 22 (.indexAddr 1 (.t 20) (.t 21)) 6,oN 23 (lD 22) 7,oN 24 (.eq .i true (.t 19) (.t 23)) 8] true [0,1,12,13,24] []) (.seq (.cond (.t 24) (.seq (rN [
 oN 4 (.move (.c (.bool false))) 0] [4]) (kB [4] .ret)) (kS [0,1,12,13])) (kS [0,1,12,13]))))) (kB [0,1,12,13] (.seq (rN [
 oN 25 (.bin .add (.t 13) (iC 1)) 0,oM 13 25 1] [0,1,12,13]) (kS [0,1,12,13])))))))
def F32:LFunc:={ nparams:=2,results:=[.tmp 4],pure:=true,body :=
 (.seq (rN [
 oN 4 (.move (.c (.bool false))) 0] [0,1]) (.seq (rN [
 oM 6 0 0,oN 7 (.len 1 (.t 6)) 1,oM 8 1 2,oN 9 (.len 1 (.t 8)) 3,oN 10 (.eq .i true (.t 7) (.t 9)) 4] [0,1,10]) (.seq (.cond (.t 10) (.seq (rN [
 oN 4 (.move (.c (.bool false))) 0] [4]) (kB [4] .ret)) (kS [0,1])) (kB [0,1] (.seq (rN [
 oM 11 0 0,oN 12 (.len 1 (.t 11)) 1,oN 13 (.move (iC 0)) 2] [0,1,12,13]) (.seq (.block 0 (.seq (kB [0,1,12,13] (.loop B32x0)) (kS []))) (kB [] (.seq (rN [
 oN 4 (.move (.c (.bool true))) 0] [4]) (kB [4] .ret))))))))) }
theorem ok32:fnSoundB Go.Proofs.Tryz.prog 32 F32=true:=by decide +kernel
def F33:LFunc:={ nparams:=1,results:=[.tmp 2],pure:=false,body :=
 (.seq (rN [
 oN 1 (.box true 1 (.t 0)) 0,oN 2 (.move (.c (.list []))) 1] [1]) (.seq (rN [
 oN 3 (.alloc true 3 [.p (.list [])] [(0,1000,6)]) 0] [1,3]) (.seq (rN [
 oN 5 (lD 1) 0,oN 6 (.eq .ptr false (.t 5) (.c (.nilp))) 1] [1,3,6]) (.seq (.cond (.t 6) (.seq (rN [
 oN 7 (lD 3) 0,oM 2 7 1] [2]) (kB [2] .ret)) (kS [1,3])) (kB [1,3] (.seq (rN [
 oN 4 (.alloc true 4 [.p (.nilf)] []) 0] [1,3,4]) (.seq (rN [
 oN 8 (.makeFunc 82 [.t 1,.t 3,.t 4]) 0,⟨none,.store 1 false (.t 4) (.t 8),none,1,[]⟩] [1,3,4]) (.seq (.draw [
 oN 9 (lD 4) 0,oN 10 (lD 1) 1,oN 11 (.nilCheck (.t 10)) 2,oN 12 (fA 0 11) 3,oN 13 (lD 12) 4,oN 14 (.lookup 1 (.nilp) false (.t 13) (iC 0)) 5,oN 15 (.nilCheck (.t 14)) 6,oN 16 (fA 0 15) 7,oN 17 (lD 16) 8,oN 18 (.callv (.t 9) [(.t 17,.as),(.c (.int .i64 0),.as)]) 9] [3] []) (.seq (rN [
 oN 19 (lD 3) 0,oM 2 19 1] [2]) (kB [2] .ret)))))))))) }
theorem ok33:fnSoundB Go.Proofs.Tryz.prog 33 F33=true:=by decide +kernel
def F34:LFunc:={ nparams:=1,results:=[.tmp 2],pure:=false,body :=
 (.seq (rN [
 oN 2 (.move (.c (.list []))) 0] [0]) (.seq (rN [
 oM 3 0 0,oN 4 (.call 86 [(.t 3,.as),(.c (.list []),.fresh 6),(.c (.int .i64 0),.as),(.c (.int .i64 0),.as)]) 1,oM 2 4 2] [2]) (kB [2] .ret))) }
theorem ok34:fnSoundB Go.Proofs.Tryz.prog 34 F34=true:=by decide +kernel
def F35:LFunc:={ nparams:=1,results:=[.tmp 2],pure:=false,body :=
 (.seq (rN [
 oN 2 (.move (iC 0)) 0] [0]) (.seq (rN [
 oM 3 0 0,oN 4 (.eq .ptr false (.t 3) (.c (.nilp))) 1] [0,4]) (.seq (.cond (.t 4) (.seq (rN [
 oN 2 (.move (iC 0)) 0] [2]) (kB [2] .ret)) (kS [0])) (kB [0] (.seq (rN [
 oM 5 0 0,oN 6 (.nilCheck (.t 5)) 1,oN 7 (fA 1 6) 2,oN 8 (lD 7) 3,oM 2 8 4] [2]) (kB [2] .ret)))))) }
theorem ok35:fnSoundB Go.Proofs.Tryz.prog 35 F35=true:=by decide +kernel
def B36x0:LCode :=
 (.seq (rN [
 oN 13 (.bin .lss (.t 12) (.t 11)) 0] [3,10,11,12,13]) (.seq (.cond (.t 13) (kS [3,10,11,12]) (kB [3] (.exit 0))) (kB [3,10,11,12] (.seq (.block 1 (.seq (.region [
 oN 14 (.indexAddr 6 (.t 10) (.t 12)) 0,oN 15 (.load 6 true (.t 14)) 1,oN 5 (.alloc false 5 [.p (.int .i64 0),.p (.int .i64 0),.p (.str []),.p (.str []),.p (.str []),.p (.list [])] []) 2,⟨none,.store 6 true (.t 5) (.t 15),none,3,[]⟩] false [3,5,10,11,12] [5]) (.seq (rN [
 oM 16 3 0,oN 17 (fA 0 5) 1,oN 18 (lD 17) 2,oN 19 (.row 1 [.t 18]) 3,oN 20 (.append true 1000 1 8 (.t 16) (.t 19)) 4,oM 3 20 5] [3,10,11,12]) (kS [3,10,11,12])))) (kB [3,10,11,12] (.seq (rN [
 oN 21 (.bin .add (.t 12) (iC 1)) 0,oM 12 21 1] [3,10,11,12]) (kS [3,10,11,12])))))))
def F36:LFunc:={ nparams:=1,results:=[.tmp 2],pure:=false,body :=
 (.seq (rN [
 oN 2 (.move (.c (.list []))) 0] [0]) (.seq (rN [
 oM 6 0 0,oN 7 (.eq .ptr false (.t 6) (.c (.nilp))) 1] [0,7]) (.seq (.cond (.t 7) (.seq (rN [
 oN 2 (.move (.c (.list []))) 0] [2]) (kB [2] .ret)) (kS [0])) (kB [0] (.seq (rN [
 oN 8 (.rowOwn true 8 1 [.c (.int .i64 0)]) 0,oM 3 8 1] [0,3]) (.seq (rN [
 oM 9 0 0,oN 10 (.call 33 [(.t 9,.as)]) 1,oN 11 (.len 1 (.t 10)) 2,oN 12 (.move (iC 0)) 3] [3,10,11,12]) (.seq (.block 0 (.seq (kB [3,10,11,12] (.loop B36x0)) (kS [3]))) (kB [3] (.seq (rN [
 oM 22 3 0,oM 2 22 1] [2]) (kB [2] .ret)))))))))) }
theorem ok36:fnSoundB Go.Proofs.Tryz.prog 36 F36=true:=by decide +kernel
def B38x0:LCode :=
 (.seq (rN [
 oN 16 (.bin .lss (.t 15) (.t 14)) 0] [0,1,14,15,16]) (.seq (.cond (.t 16) (kS [0,1,14,15]) (kB [] (.exit 0))) (kB [0,1,14,15] (.seq (.block 1 (.seq (rN [
 oM 17 15 0,oM 5 17 1] [0,1,5,14,15]) (.seq (.region [
 oM 18 0 0,oM 19 5 1,oN 20 (.indexAddr 6 (.t 18) (.t 19)) 2,oN 21 (.load 6 true (.t 20)) 3,oN 6 (.alloc false 6 [.p (.int .i64 0),.p (.int .i64 0),.p (.str []),.p (.str []),.p (.str []),.p (.list [])] []) 4,⟨none,.store 6 true (.t 6) (.t 21),none,5,[]⟩] false [0,1,5,6,14,15] [6]) (.seq (.region [
 oM 22 1 0,oM 23 5 1,oN 24 (.indexAddr 6 (.t 22) (.t 23)) 2,oN 25 (.load 6 true (.t 24)) 3,oN 7 (.alloc false 7 [.p (.int .i64 0),.p (.int .i64 0),.p (.str []),.p (.str []),.p (.str []),.p (.list [])] []) 4,⟨none,.store 6 true (.t 7) (.t 25),none,5,[]⟩] false [0,1,6,7,14,15] [6,7]) (.seq (rN [
 oN 26 (fA 1 6) 0,oN 27 (lD 26) 1,oN 28 (fA 1 7) 2,oN 29 (lD 28) 3,oN 30 (.eq .i true (.t 27) (.t 29)) 4,oM 31 30 5,oG 32 (fA 2 6) 31 false 6,oG 33 (lD 32) 31 false 7,oG 34 (fA 2 7) 31 false 8,oG 35 (lD 34) 31 false 9,oG 36 (.eq .s true (.t 33) (.t 35)) 31 false 10,oN 37 (.pick (.t 31) (.c (.bool true)) (.t 36)) 11,oM 38 37 12,oG 39 (fA 3 6) 38 false 13,oG 40 (lD 39) 38 false 14,oG 41 (fA 3 7) 38 false 15,oG 42 (lD 41) 38 false 16,oG 43 (.eq .s true (.t 40) (.t 42)) 38 false 17,oN 44 (.pick (.t 38) (.c (.bool true)) (.t 43)) 18,oM 45 44 19,oG 46 (fA 4 6) 45 false 20,oG 47 (lD 46) 45 false 21,oG 48 (fA 4 7) 45 false 22,oG 49 (lD 48) 45 false 23,oG 50 (.eq .s true (.t 47) (.t 49)) 45 false 24,oN 51 (.pick (.t 45) (.c (.bool true)) (.t 50)) 25,oM 52 51 26,oG 53 (fA 5 6) 52 false 27,oG 54 (lD 53) 52 false 28,oG 55 (fA 5 7) 52 false 29,oG 56 (lD 55) 52 false 30,oG 57 (.pcall 87 [(.t 54,.as),(.t 56,.as)]) 52 false 31,oG 58 (.un .not (.t 57)) 52 false 32,oN 59 (.pick (.t 52) (.c (.bool true)) (.t 58)) 33] [0,1,14,15,59]) (.seq (.cond (.t 59) (.seq (rN [
 oN 4 (.move (.c (.bool false))) 0] [4]) (kB [4] .ret)) (kS [0,1,14,15])) (kS [0,1,14,15]))))))) (kB [0,1,14,15] (.seq (rN [
 oN 60 (.bin .add (.t 15) (iC 1)) 0,oM 15 60 1] [0,1,14,15]) (kS [0,1,14,15])))))))
def F38:LFunc:={ nparams:=2,results:=[.tmp 4],pure:=true,body :=
 (.seq (rN [
 oN 4 (.move (.c (.bool false))) 0] [0,1]) (.seq (rN [
 oM 8 0 0,oN 9 (.len 1 (.t 8)) 1,oM 10 1 2,oN 11 (.len 1 (.t 10)) 3,oN 12 (.eq .i true (.t 9) (.t 11)) 4] [0,1,12]) (.seq (.cond (.t 12) (.seq (rN [
 oN 4 (.move (.c (.bool false))) 0] [4]) (kB [4] .ret)) (kS [0,1])) (kB [0,1] (.seq (rN [
 oM 13 0 0,oN 14 (.len 1 (.t 13)) 1,oN 15 (.move (iC 0)) 2] [0,1,14,15]) (.seq (.block 0 (.seq (kB [0,1,14,15] (.loop B38x0)) (kS []))) (kB [] (.seq (rN [
 oN 4 (.move (.c (.bool true))) 0] [4]) (kB [4] .ret))))))))) }
theorem ok38:fnSoundB Go.Proofs.Tryz.prog 38 F38=true:=by decide +kernel
def B50x0:LCode :=
 (.seq (rN [
 oN 7 (.bin .lss (.t 6) (.t 5)) 0] [0,5,6,7]) (.seq (.cond (.t 7) (kS [0,5,6]) (kB [] (.exit 0))) (kB [0,5,6] (.seq (.block 1 (.seq (rN [
 oM 8 6 0,oM 3 8 1] [0,3,5,6]) (.seq (rN [
 oM 9 3 0,oN 10 (.eq .i false (.t 9) (iC 0)) 1,oM 11 10 2,oG 12 (.move (.t 0)) 11 true 3,oG 13 (.move (.t 3)) 11 true 4,oG 14 (.indexAddr 6 (.t 12) (.t 13)) 11 true 5,oG 15 (fA 1 14) 11 true 6,oG 16 (lD 15) 11 true 7,oG 17 (.eq .i true (.t 16) (iC 0)) 11 true 8,oN 18 (.pick (.t 11) (.t 17) (.c (.bool false))) 9,oM 19 18 10,oG 20 (.move (.t 3)) 19 false 11,oG 21 (.bin .gtr (.t 20) (iC 0)) 19 false 12,oG 22 (.move (.t 21)) 19 false 13,oG 23 (.move (.t 0)) 22 true 14,oG 24 (.move (.t 3)) 22 true 15,oG 25 (.indexAddr 6 (.t 23) (.t 24)) 22 true 16,oG 26 (fA 1 25) 22 true 17,oG 27 (lD 26) 22 true 18,oG 28 (.bin .lss (.t 27) (iC 1)) 22 true 19,oG 29 (.move (.t 28)) 22 true 20,oG 30 (.move (.t 0)) 29 false 21,oG 31 (.move (.t 3)) 29 false 22,oG 32 (.move (.t 0)) 29 false 23,oG 33 (.move (.t 3)) 29 false 24,oG 34 (.indexAddr 6 (.t 32) (.t 33)) 29 false 25,oG 35 (fA 1 34) 29 false 26,oG 36 (lD 35) 29 false 27,oG 37 (.pcall 104 [(.t 30,.as),(.t 31,.as),(.t 36,.as)]) 29 false 28,oG 38 (.un .not (.t 37)) 29 false 29,oG 39 (.pick (.t 29) (.c (.bool true)) (.t 38)) 22 true 30,oG 40 (.pick (.t 22) (.t 39) (.c (.bool false))) 19 false 31,oN 41 (.pick (.t 19) (.c (.bool true)) (.t 40)) 32] [0,5,6,41]) (.seq (.cond (.t 41) (.seq (rN [
 oN 2 (.move (.c (.bool false))) 0] [2]) (kB [2] .ret)) (kS [0,5,6])) (kS [0,5,6]))))) (kB [0,5,6] (.seq (rN [
 oN 42 (.bin .add (.t 6) (iC 1)) 0,oM 6 42 1] [0,5,6]) (kS [0,5,6])))))))
def F50:LFunc:={ nparams:=1,results:=[.tmp 2],pure:=true,body :=
 (.seq (rN [
 oN 2 (.move (.c (.bool false))) 0] [0]) (.seq (rN [
 oM 4 0 0,oN 5 (.len 1 (.t 4)) 1,oN 6 (.move (iC 0)) 2] [0,5,6]) (.seq (.block 0 (.seq (kB [0,5,6] (.loop B50x0)) (kS []))) (kB [] (.seq (rN [
 oN 2 (.move (.c (.bool true))) 0] [2]) (kB [2] .ret)))))) }
theorem ok50:fnSoundB Go.Proofs.Tryz.prog 50 F50=true:=by decide +kernel
def B51x0:LCode :=
 (.seq (rN [
 oM 6 1 0,oN 7 (.bin .gtr (.t 6) (iC 0)) 1] [0,1,5,7]) (.seq (.cond (.t 7) (kS [0,1,5]) (kB [5] (.exit 0))) (kB [0,1,5] (.seq (.block 1 (.seq (rN [
 oM 8 5 0,oN 9 (.bin .add (.t 8) (iC 1)) 1,oM 5 9 2] [0,1,5]) (.seq (rN [
 oM 10 0 0,oM 11 1 1,oN 12 (.bin .sub (.t 11) (iC 1)) 2,oN 13 (.indexAddr 6 (.t 10) (.t 12)) 3,oN 14 (fA 1 13) 4,oN 15 (lD 14) 5,oM 1 15 6] [0,1,5]) (kS [0,1,5])))) (kS [0,1,5])))))
def F51:LFunc:={ nparams:=2,results:=[.tmp 4],pure:=true,body :=
 (.seq (rN [
 oN 4 (.move (iC 0)) 0] [0,1]) (.seq (rN [
 oN 5 (.move (iC 0)) 0] [0,1,5]) (.seq (.block 0 (.seq (kB [0,1,5] (.loop B51x0)) (kS [5]))) (kB [5] (.seq (rN [
 oM 16 5 0,oM 4 16 1] [4]) (kB [4] .ret)))))) }
theorem ok51:fnSoundB Go.Proofs.Tryz.prog 51 F51=true:=by decide +kernel
def F52:LFunc:={ nparams:=1,results:=[.tmp 2],pure:=true,body :=
 (.seq (.region [
 oN 1 (.box false 1 (.t 0)) 0,oN 2 (.move (iC 0)) 1] false [1] [1]) (.seq (.region [
 oN 5 (fA 0 1) 0,oN 6 (lD 5) 1,oN 7 (.pcall 63 [(.t 6,.as),(.c (.bool false),.as)]) 2,oN 8 (.un .not (.t 7)) 3] false [1,8] [1]) (.seq (.cond (.t 8) (.seq (rN [
 oN 2 (.move (iC 7)) 0] [2]) (kB [2] .ret)) (.keep [1] [1] .skip)) (.keep [1] [1] (.seq (.region [
 oN 9 (fA 1 1) 0,oN 10 (lD 9) 1,oN 11 (.len 0 (.t 10)) 2,oN 12 (.bin .gtr (.t 11) (iC 65536)) 3,oM 13 12 4,oG 14 (fA 2 1) 13 false 5,oG 15 (lD 14) 13 false 6,oG 16 (.len 0 (.t 15)) 13 false 7,oG 17 (.bin .gtr (.t 16) (iC 65536)) 13 false 8,oN 18 (.pick (.t 13) (.c (.bool true)) (.t 17)) 9] false [1,18] [1]) (.seq (.cond (.t 18) (.seq (rN [
 oN 2 (.move (iC 3)) 0] [2]) (kB [2] .ret)) (.keep [1] [1] .skip)) (.keep [1] [1] (.seq (rN [
 oN 20 (fA 3 1) 0,oN 21 (lD 20) 1,oN 22 (.pcall 64 [(.t 21,.as)]) 2,oM 19 22 3,oN 23 (.extract (.t 19) 0) 4,oN 24 (.extract (.t 19) 1) 5,oM 3 23 6,oM 4 24 7] [4]) (.seq (rN [
 oM 25 4 0,oM 2 25 1] [2]) (kB [2] .ret)))))))))) }
theorem ok52:fnSoundB Go.Proofs.Tryz.prog 52 F52=true:=by decide +kernel
def F55:LFunc:={ nparams:=1,results:=[.tmp 2],pure:=true,body :=
 (.seq (rN [
 oN 2 (.move (iC 0)) 0] [0]) (.seq (rN [
 oM 5 0 0,oN 6 (.len 1 (.t 5)) 1,oN 7 (.eq .i false (.t 6) (iC 0)) 2] [0,7]) (.seq (.cond (.t 7) (.seq (rN [
 oN 2 (.move (iC 0)) 0] [2]) (kB [2] .ret)) (kS [0])) (kB [0] (.seq (rN [
 oM 9 0 0,oN 10 (.pcall 105 [(.t 9,.as)]) 1,oM 8 10 2,oN 11 (.extract (.t 8) 0) 3,oN 12 (.extract (.t 8) 1) 4,oN 3 (.alloc false 3 [.p (.str []),.p (.str []),.p (.str []),.p (.list []),.p (.list [])] []) 5,⟨none,.store 5 true (.t 3) (.t 11),none,6,[]⟩,oM 4 12 7] [4]) (.seq (rN [
 oM 13 4 0,oM 2 13 1] [2]) (kB [2] .ret))))))) }
theorem ok55:fnSoundB Go.Proofs.Tryz.prog 55 F55=true:=by decide +kernel
def F61:LFunc:={ nparams:=1,results:=[.tmp 2],pure:=true,body :=
 (.seq (rN [
 oN 2 (.move (.c (.bool false))) 0] [0]) (.seq (rN [
 oM 3 0 0,oN 4 (.bin .lss (.t 3) (iC 0)) 1,oM 5 4 2,oG 6 (.move (.t 0)) 5 false 3,oG 7 (.bin .gtr (.t 6) (iC 4294967295)) 5 false 4,oN 8 (.pick (.t 5) (.c (.bool true)) (.t 7)) 5,oM 2 8 6] [2]) (kB [2] .ret))) }
theorem ok61:fnSoundB Go.Proofs.Tryz.prog 61 F61=true:=by decide +kernel
def F62:LFunc:={ nparams:=1,results:=[.tmp 2],pure:=true,body :=
 (.seq (.region [
 oN 1 (.box false 1 (.t 0)) 0,oN 2 (.move (.c (.bool false))) 1] false [1] [1]) (.seq (.region [
 oN 4 (fA 0 1) 0,oN 5 (lD 4) 1,oM 3 5 2] false [1,3] [1]) (.seq (.region [
 oM 6 3 0,oN 7 (.eq .i true (.t 6) (iC 1)) 1,oM 8 7 2,oG 9 (fA 4 1) 8 true 3,oG 10 (lD 9) 8 true 4,oG 11 (.eq .s true (.t 10) (.c (.str []))) 8 true 5,oG 12 (.move (.t 11)) 8 true 6,oG 13 (fA 5 1) 12 false 7,oG 14 (lD 13) 12 false 8,oG 15 (.eq .s true (.t 14) (.c (.str []))) 12 false 9,oG 16 (.pick (.t 12) (.c (.bool true)) (.t 15)) 8 true 10,oG 17 (.move (.t 16)) 8 true 11,oG 18 (fA 8 1) 17 false 12,oG 19 (lD 18) 17 false 13,oG 20 (.len 1 (.t 19)) 17 false 14,oG 21 (.bin .gtr (.t 20) (iC 0)) 17 false 15,oG 22 (.pick (.t 17) (.c (.bool true)) (.t 21)) 8 true 16,oN 23 (.pick (.t 8) (.t 22) (.c (.bool false))) 17] false [1,3,23] [1]) (.seq (.cond (.t 23) (.seq (rN [
 oN 2 (.move (.c (.bool true))) 0] [2]) (kB [2] .ret)) (.keep [1,3] [1] .skip)) (.keep [1,3] [1] (.seq (.region [
 oM 24 3 0,oN 25 (.eq .i false (.t 24) (iC 1)) 1,oM 26 25 2,oG 27 (fA 1 1) 26 true 3,oG 28 (lD 27) 26 true 4,oG 29 (.eq .i true (.t 28) (iC 0)) 26 true 5,oN 30 (.pick (.t 26) (.t 29) (.c (.bool false))) 6,oM 31 30 7,oG 32 (.move (.t 3)) 31 false 8,oG 33 (.eq .i true (.t 32) (iC 2)) 31 false 9,oG 34 (.move (.t 33)) 31 false 10,oG 35 (fA 2 1) 34 true 11,oG 36 (lD 35) 34 true 12,oG 37 (.eq .i true (.t 36) (iC 0)) 34 true 13,oG 38 (.pick (.t 34) (.t 37) (.c (.bool false))) 31 false 14,oN 39 (.pick (.t 31) (.c (.bool true)) (.t 38)) 15,oM 40 39 16,oG 41 (.move (.t 3)) 40 false 17,oG 42 (.eq .i true (.t 41) (iC 2)) 40 false 18,oG 43 (.move (.t 42)) 40 false 19,oG 44 (.move (.t 3)) 43 true 20,oG 45 (.eq .i true (.t 44) (iC 3)) 43 true 21,oG 46 (.pick (.t 43) (.t 45) (.c (.bool false))) 40 false 22,oG 47 (.move (.t 46)) 40 false 23,oG 48 (fA 3 1) 47 true 24,oG 49 (lD 48) 47 true 25,oG 50 (.eq .i true (.t 49) (iC 0)) 47 true 26,oG 51 (.pick (.t 47) (.t 50) (.c (.bool false))) 40 false 27,oN 52 (.pick (.t 40) (.c (.bool true)) (.t 51)) 28] false [1,3,52] [1]) (.seq (.cond (.t 52) (.seq (rN [
 oN 2 (.move (.c (.bool true))) 0] [2]) (kB [2] .ret)) (.keep [1,3] [1] .skip)) (.keep [1,3] [1] (.seq (rN [
 oM 53 3 0,oN 54 (.eq .i true (.t 53) (iC 5)) 1,oM 55 54 2,oG 56 (.move (.t 3)) 55 true 3,oG 57 (.eq .i true (.t 56) (iC 6)) 55 true 4,oN 58 (.pick (.t 55) (.t 57) (.c (.bool false))) 5,oM 59 58 6,oG 60 (fA 6 1) 59 true 7,oG 61 (lD 60) 59 true 8,oG 62 (.eq .s true (.t 61) (.c (.str []))) 59 true 9,oN 63 (.pick (.t 59) (.t 62) (.c (.bool false))) 10,oM 64 63 11,oG 65 (.move (.t 3)) 64 false 12,oG 66 (.eq .i true (.t 65) (iC 1)) 64 false 13,oG 67 (.move (.t 66)) 64 false 14,oG 68 (.move (.t 3)) 67 true 15,oG 69 (.eq .i true (.t 68) (iC 5)) 67 true 16,oG 70 (.pick (.t 67) (.t 69) (.c (.bool false))) 64 false 17,oG 71 (.move (.t 70)) 64 false 18,oG 72 (.move (.t 3)) 71 true 19,oG 73 (.eq .i true (.t 72) (iC 7)) 71 true 20,oG 74 (.pick (.t 71) (.t 73) (.c (.bool false))) 64 false 21,oG 75 (.move (.t 74)) 64 false 22,oG 76 (fA 7 1) 75 true 23,oG 77 (lD 76) 75 true 24,oG 78 (.eq .s true (.t 77) (.c (.str []))) 75 true 25,oG 79 (.pick (.t 75) (.t 78) (.c (.bool false))) 64 false 26,oN 80 (.pick (.t 64) (.c (.bool true)) (.t 79)) 27,oM 2 80 28] [2]) (kB [2] .ret)))))))))) }
theorem ok62:fnSoundB Go.Proofs.Tryz.prog 62 F62=true:=by decide +kernel
def B63x0:LCode :=
 (.seq (rN [
 oM 24 5 0,oM 25 0 1,oN 26 (.len 0 (.t 25)) 2,oN 27 (.bin .lss (.t 24) (.t 26)) 3] [0,1,5,27]) (.seq (.cond (.t 27) (kS [0,1,5]) (kB [] (.exit 0))) (kB [0,1,5] (.seq (.block 1 (.seq (rN [
 oM 30 0 0,oM 31 5 1,oN 32 (.index (.t 30) (.t 31)) 2,oM 33 1 3,oN 34 (.pcall 111 [(.t 32,.as),(.t 33,.as)]) 4,oN 35 (.un .not (.t 34)) 5] [0,1,5,35]) (.seq (.cond (.t 35) (.seq (rN [
 oN 4 (.move (.c (.bool false))) 0] [4]) (kB [4] .ret)) (kS [0,1,5])) (kS [0,1,5])))) (kB [0,1,5] (.seq (rN [
 oM 28 5 0,oN 29 (.bin .add (.t 28) (iC 1)) 1,oM 5 29 2] [0,1,5]) (kS [0,1,5])))))))
def F63:LFunc:={ nparams:=2,results:=[.tmp 4],pure:=true,body :=
 (.seq (rN [
 oN 4 (.move (.c (.bool false))) 0] [0,1]) (.seq (rN [
 oM 6 0 0,oN 7 (.len 0 (.t 6)) 1,oN 8 (.bin .lss (.t 7) (iC 1)) 2,oM 9 8 3,oG 10 (.move (.t 0)) 9 false 4,oG 11 (.len 0 (.t 10)) 9 false 5,oG 12 (.bin .gtr (.t 11) (iC 32)) 9 false 6,oN 13 (.pick (.t 9) (.c (.bool true)) (.t 12)) 7,oM 14 13 8,oG 15 (.move (.t 0)) 14 false 9,oG 16 (.index (.t 15) (iC 0)) 14 false 10,oG 17 (.bin .lss (.t 16) (.c (.int .u8 97))) 14 false 11,oN 18 (.pick (.t 14) (.c (.bool true)) (.t 17)) 12,oM 19 18 13,oG 20 (.move (.t 0)) 19 false 14,oG 21 (.index (.t 20) (iC 0)) 19 false 15,oG 22 (.bin .gtr (.t 21) (.c (.int .u8 122))) 19 false 16,oN 23 (.pick (.t 19) (.c (.bool true)) (.t 22)) 17] [0,1,23]) (.seq (.cond (.t 23) (.seq (rN [
 oN 4 (.move (.c (.bool false))) 0] [4]) (kB [4] .ret)) (kS [0,1])) (kB [0,1] (.seq (rN [
 oN 5 (.move (iC 1)) 0] [0,1,5]) (.seq (.block 0 (.seq (kB [0,1,5] (.loop B63x0)) (kS []))) (kB [] (.seq (rN [
 oN 4 (.move (.c (.bool true))) 0] [4]) (kB [4] .ret))))))))) }
theorem ok63:fnSoundB Go.Proofs.Tryz.prog 63 F63=true:=by decide +kernel
def B64x0:LCode :=
 (.seq (rN [
 oN 8 (.bin .lss (.t 7) (.t 6)) 0] [0,6,7,8]) (.seq (.cond (.t 8) (kS [0,6,7]) (kB [] (.exit 0))) (kB [0,6,7] (.seq (.block 1 (.seq (rN [
 oM 9 7 0,oM 4 9 1] [0,4,6,7]) (.seq (rN [
 oM 10 4 0,oN 11 (.eq .i false (.t 10) (iC 64)) 1] [0,4,6,7,11]) (.seq (.cond (.t 11) (.seq (rN [
 oM 12 4 0,oM 2 12 1,oN 3 (.move (iC 12)) 2] [2,3]) (kB [2,3] .ret)) (kS [0,4,6,7])) (kB [0,4,6,7] (.seq (rN [
 oM 13 0 0,oM 14 4 1,oN 15 (.indexAddr 2 (.t 13) (.t 14)) 2,oN 16 (fA 0 15) 3,oN 17 (lD 16) 4,oN 18 (.pcall 63 [(.t 17,.as),(.c (.bool true),.as)]) 5,oN 19 (.un .not (.t 18)) 6] [0,4,6,7,19]) (.seq (.cond (.t 19) (.seq (rN [
 oM 20 4 0,oM 2 20 1,oN 3 (.move (iC 8)) 2] [2,3]) (kB [2,3] .ret)) (kS [0,4,6,7])) (kB [0,4,6,7] (.seq (rN [
 oM 21 0 0,oM 22 4 1,oN 23 (.indexAddr 2 (.t 21) (.t 22)) 2,oN 24 (fA 1 23) 3,oN 25 (lD 24) 4,oN 26 (.len 0 (.t 25)) 5,oN 27 (.bin .gtr (.t 26) (iC 65536)) 6] [0,4,6,7,27]) (.seq (.cond (.t 27) (.seq (rN [
 oM 28 4 0,oM 2 28 1,oN 3 (.move (iC 3)) 2] [2,3]) (kB [2,3] .ret)) (kS [0,4,6,7])) (kB [0,4,6,7] (.seq (.region [
 oM 29 4 0,oN 30 (.bin .gtr (.t 29) (iC 0)) 1,oM 31 30 2,oG 32 (.move (.t 0)) 31 true 3,oG 33 (.move (.t 4)) 31 true 4,oG 34 (.bin .sub (.t 33) (iC 1)) 31 true 5,oG 35 (.indexAddr 2 (.t 32) (.t 34)) 31 true 6,oG 36 (fA 0 35) 31 true 7,oG 37 (lD 36) 31 true 8,oG 38 (.move (.t 0)) 31 true 9,oG 39 (.move (.t 4)) 31 true 10,oG 40 (.indexAddr 2 (.t 38) (.t 39)) 31 true 11,oG 41 (fA 0 40) 31 true 12,oG 42 (lD 41) 31 true 13,oG 43 (.eq .s false (.t 37) (.t 42)) 31 true 14,oN 44 (.pick (.t 31) (.t 43) (.c (.bool false))) 15] true [0,4,6,7,44] []) (.seq (.cond (.t 44) (.seq (rN [
 oM 45 4 0,oM 2 45 1,oN 3 (.move (iC 10)) 2] [2,3]) (kB [2,3] .ret)) (kS [0,4,6,7])) (kB [0,4,6,7] (.seq (.region [
 oM 46 4 0,oN 47 (.bin .gtr (.t 46) (iC 0)) 1,oM 48 47 2,oG 49 (.move (.t 0)) 48 true 3,oG 50 (.move (.t 4)) 48 true 4,oG 51 (.bin .sub (.t 50) (iC 1)) 48 true 5,oG 52 (.indexAddr 2 (.t 49) (.t 51)) 48 true 6,oG 53 (fA 0 52) 48 true 7,oG 54 (lD 53) 48 true 8,oG 55 (.move (.t 0)) 48 true 9,oG 56 (.move (.t 4)) 48 true 10,oG 57 (.indexAddr 2 (.t 55) (.t 56)) 48 true 11,oG 58 (fA 0 57) 48 true 12,oG 59 (lD 58) 48 true 13,oG 60 (.pcall 112 [(.t 54,.as),(.t 59,.as)]) 48 true 14,oG 61 (.bin .gtr (.t 60) (iC 0)) 48 true 15,oN 62 (.pick (.t 48) (.t 61) (.c (.bool false))) 16] true [0,4,6,7,62] []) (.seq (.cond (.t 62) (.seq (rN [
 oM 63 4 0,oM 2 63 1,oN 3 (.move (iC 9)) 2] [2,3]) (kB [2,3] .ret)) (kS [0,6,7])) (kS [0,6,7]))))))))))))))))) (kB [0,6,7] (.seq (rN [
 oN 64 (.bin .add (.t 7) (iC 1)) 0,oM 7 64 1] [0,6,7]) (kS [0,6,7])))))))
def F64:LFunc:={ nparams:=1,results:=[.tmp 2,.tmp 3],pure:=true,body :=
 (.seq (rN [
 oN 2 (.move (iC 0)) 0,oN 3 (.move (iC 0)) 1] [0]) (.seq (rN [
 oM 5 0 0,oN 6 (.len 1 (.t 5)) 1,oN 7 (.move (iC 0)) 2] [0,6,7]) (.seq (.block 0 (.seq (kB [0,6,7] (.loop B64x0)) (kS []))) (kB [] (.seq (rN [
 oN 2 (.move (iC 0)) 0,oN 3 (.move (iC 0)) 1] [2,3]) (kB [2,3] .ret)))))) }
theorem ok64:fnSoundB Go.Proofs.Tryz.prog 64 F64=true:=by decide +kernel
def F65:LFunc:={ nparams:=1,results:=[.tmp 2],pure:=true,body :=
 (.seq (.region [
 oN 1 (.box false 1 (.t 0)) 0,oN 2 (.move (iC 0)) 1] false [1] [1]) (.seq (.block 0 (.seq (.region [
 oN 6 (fA 0 1) 0,oN 7 (lD 6) 1,oN 8 (.bin .lss (.t 7) (iC 1)) 2,oM 9 8 3,oG 10 (fA 0 1) 9 false 4,oG 11 (lD 10) 9 false 5,oG 12 (.bin .gtr (.t 11) (iC 7)) 9 false 6,oN 13 (.pick (.t 9) (.c (.bool true)) (.t 12)) 7,oM 5 13 8] false [1,5] [1]) (.seq (.cond (.t 5) (.seq (rN [
 oN 2 (.move (iC 6)) 0] [2]) (kB [2] .ret)) (.seq (.region [
 oN 15 (fA 1 1) 0,oN 16 (lD 15) 1,oN 17 (.pcall 113 [(.t 16,.as)]) 2,oN 18 (.un .not (.t 17)) 3,oM 19 18 4,oG 20 (fA 2 1) 19 false 5,oG 21 (lD 20) 19 false 6,oG 22 (.pcall 113 [(.t 21,.as)]) 19 false 7,oG 23 (.un .not (.t 22)) 19 false 8,oN 24 (.pick (.t 19) (.c (.bool true)) (.t 23)) 9,oM 25 24 10,oG 26 (fA 3 1) 25 false 11,oG 27 (lD 26) 25 false 12,oG 28 (.pcall 113 [(.t 27,.as)]) 25 false 13,oG 29 (.un .not (.t 28)) 25 false 14,oN 30 (.pick (.t 25) (.c (.bool true)) (.t 29)) 15,oM 14 30 16] false [1,14] [1]) (.seq (.cond (.t 14) (.seq (rN [
 oN 2 (.move (iC 5)) 0] [2]) (kB [2] .ret)) (.seq (.region [
 oN 32 (.load 9 true (.t 1)) 0,oN 33 (.load 9 true (.t 1)) 1,oN 34 (.pcall 115 [(.t 33,.as)]) 2,oN 35 (.pcall 114 [(.t 32,.as),(.t 34,.as)]) 3,oN 36 (.un .not (.t 35)) 4,oM 31 36 5] true [1,31] [1]) (.seq (.cond (.t 31) (.seq (rN [
 oN 2 (.move (iC 2)) 0] [2]) (kB [2] .ret)) (.seq (.region [
 oN 38 (fA 0 1) 0,oN 39 (lD 38) 1,oN 40 (.eq .i false (.t 39) (iC 1)) 2,oM 41 40 3,oG 42 (fA 4 1) 41 true 4,oG 43 (lD 42) 41 true 5,oG 44 (.pcall 116 [(.t 43,.as)]) 41 true 6,oG 45 (.un .not (.t 44)) 41 true 7,oN 46 (.pick (.t 41) (.t 45) (.c (.bool false))) 8,oM 37 46 9] false [1,37] [1]) (.seq (.cond (.t 37) (.seq (rN [
 oN 2 (.move (iC 7)) 0] [2]) (kB [2] .ret)) (.seq (.region [
 oN 48 (fA 0 1) 0,oN 49 (lD 48) 1,oN 50 (.eq .i false (.t 49) (iC 5)) 2,oM 51 50 3,oG 52 (fA 0 1) 51 false 4,oG 53 (lD 52) 51 false 5,oG 54 (.eq .i false (.t 53) (iC 6)) 51 false 6,oN 55 (.pick (.t 51) (.c (.bool true)) (.t 54)) 7,oM 56 55 8,oG 57 (fA 6 1) 56 true 9,oG 58 (lD 57) 56 true 10,oG 59 (.pcall 117 [(.t 58,.as)]) 56 true 11,oG 60 (.un .not (.t 59)) 56 true 12,oN 61 (.pick (.t 56) (.t 60) (.c (.bool false))) 13,oM 47 61 14] false [1,47] [1]) (.seq (.cond (.t 47) (.seq (rN [
 oN 2 (.move (iC 8)) 0] [2]) (kB [2] .ret)) (.seq (.region [
 oN 63 (fA 5 1) 0,oN 64 (lD 63) 1,oN 65 (.pcall 118 [(.t 64,.as)]) 2,oN 66 (.un .not (.t 65)) 3,oM 67 66 4,oG 68 (fA 7 1) 67 false 5,oG 69 (lD 68) 67 false 6,oG 70 (.pcall 118 [(.t 69,.as)]) 67 false 7,oG 71 (.un .not (.t 70)) 67 false 8,oN 72 (.pick (.t 67) (.c (.bool true)) (.t 71)) 9,oM 62 72 10] false [1,62] [1]) (.seq (.cond (.t 62) (.seq (rN [
 oN 2 (.move (iC 3)) 0] [2]) (kB [2] .ret)) (.keep [1] [1] .skip)) (.keep [1] [1] .skip)))) (.keep [1] [1] .skip)))) (.keep [1] [1] .skip)))) (.keep [1] [1] .skip)))) (.keep [1] [1] .skip)))) (.keep [1] [1] .skip)))) (.keep [1] [1] (.seq (rN [
 oN 74 (fA 8 1) 0,oN 75 (lD 74) 1,oN 76 (.pcall 119 [(.t 75,.as)]) 2,oM 73 76 3,oN 77 (.extract (.t 73) 0) 4,oN 78 (.extract (.t 73) 1) 5,oM 3 77 6,oM 4 78 7] [4]) (.seq (rN [
 oM 79 4 0,oM 2 79 1] [2]) (kB [2] .ret)))))) }
theorem ok65:fnSoundB Go.Proofs.Tryz.prog 65 F65=true:=by decide +kernel
def F73:LFunc:={ nparams:=1,results:=[.tmp 2],pure:=false,body :=
 (.seq (rN [
 oN 2 (.move (.c (.nilp))) 0] [0]) (.seq (rN [
 oM 3 0 0,oN 4 (.build [.p (.int .i64 0),.p (.nilp),.p (.nilp),.p (.nilp),.p (.nilp),.p (.nilp)] [(0,1,.t 3)]) 1,oN 5 (.box true 5 (.t 4)) 2,oM 2 5 3] [2]) (kB [2] .ret))) }
theorem ok73:fnSoundB Go.Proofs.Tryz.prog 73 F73=true:=by decide +kernel
def F74:LFunc:={ nparams:=5,results:=[.tmp 10,.tmp 11],pure:=false,body :=
 (.seq (rN [
 oN 10 (.move (iC 0)) 0,oN 11 (.move (iC 0)) 1] [0,1,2,3,4]) (.seq (.block 0 (.seq (rN [
 oM 16 0 0,oN 17 (.eq .ptr false (.t 16) (.c (.nilp))) 1,oM 15 17 2] [0,1,2,3,4,15]) (.seq (.cond (.t 15) (.seq (rN [
 oN 10 (.move (iC 0)) 0,oN 11 (.move (iC 1)) 1] [10,11]) (kB [10,11] .ret)) (.seq (rN [
 oM 19 1 0,oN 20 (.pcall 116 [(.t 19,.as)]) 1,oN 21 (.un .not (.t 20)) 2,oM 18 21 3] [0,1,2,3,4,18]) (.seq (.cond (.t 18) (.seq (rN [
 oN 10 (.move (iC 0)) 0,oN 11 (.move (iC 7)) 1] [10,11]) (kB [10,11] .ret)) (.seq (rN [
 oM 23 2 0,oN 24 (.pcall 118 [(.t 23,.as)]) 1,oN 25 (.un .not (.t 24)) 2,oM 26 25 3,oG 27 (.move (.t 3)) 26 false 4,oG 28 (.pcall 118 [(.t 27,.as)]) 26 false 5,oG 29 (.un .not (.t 28)) 26 false 6,oN 30 (.pick (.t 26) (.c (.bool true)) (.t 29)) 7,oM 22 30 8] [0,1,2,3,4,22]) (.seq (.cond (.t 22) (.seq (rN [
 oN 10 (.move (iC 0)) 0,oN 11 (.move (iC 3)) 1] [10,11]) (kB [10,11] .ret)) (kS [0,1,2,3,4])) (kS [0,1,2,3,4])))) (kS [0,1,2,3,4])))) (kS [0,1,2,3,4])))) (kB [0,1,2,3,4] (.seq (rN [
 oM 32 4 0,oN 33 (.pcall 119 [(.t 32,.as)]) 1,oM 31 33 2,oN 34 (.extract (.t 31) 0) 3,oN 35 (.extract (.t 31) 1) 4,oM 12 34 5,oM 13 35 6] [0,1,2,3,4,13]) (.seq (rN [
 oM 36 13 0,oN 37 (.eq .i true (.t 36) (iC 0)) 1] [0,1,2,3,4,13,37]) (.seq (.cond (.t 37) (.seq (rN [
 oM 38 13 0,oN 10 (.move (iC 0)) 1,oM 11 38 2] [10,11]) (kB [10,11] .ret)) (kS [0,1,2,3,4])) (kB [0,1,2,3,4] (.seq (rN [
 oM 39 0 0,oN 40 (.nilCheck (.t 39)) 1,oN 41 (fA 1 40) 2,oN 42 (lD 41) 3,oN 43 (.bin .gtr (.t 42) (iC 4294967295)) 4] [0,1,2,3,4,43]) (.seq (.cond (.t 43) (.seq (rN [
 oN 10 (.move (iC 0)) 0,oN 11 (.move (iC 21)) 1] [10,11]) (kB [10,11] .ret)) (kS [0,1,2,3,4])) (kB [0,1,2,3,4] (.seq (rN [
 oM 44 0 0,oN 45 (.nilCheck (.t 44)) 1,oN 46 (fA 1 45) 2,oN 47 (lD 46) 3,oM 14 47 4] [0,1,2,3,4,14]) (.seq (rN [
 oM 48 0 0,oN 49 (.nilCheck (.t 48)) 1,oN 50 (fA 1 49) 2,oN 51 (lD 50) 3,oN 52 (.bin .add (.t 51) (iC 1)) 4,oN 53 (.nilCheck (.t 48)) 5,oN 54 (fA 1 53) 6,⟨none,.store 1 false (.t 54) (.t 52),none,7,[]⟩] [0,1,2,3,4,14]) (.seq (.draw [
 oM 55 0 0,oN 56 (.nilCheck (.t 55)) 1,oN 57 (fA 0 56) 2,oN 58 (lD 57) 3,oM 59 14 4,oM 60 14 5,oM 62 1 7,oM 63 2 8,oM 64 3 9,oM 65 4 10,⟨some 61,.call 73 [(.t 60,.as)],none,6,[3]⟩,oN 66 (.pcall 56 [(.t 65,.as)]) 11,oN 67 (.build [.p (.nilp),.p (.str []),.p (.str []),.p (.str []),.p (.list [])] [(0,1,.t 61),(1,1,.t 62),(2,1,.t 63),(3,1,.t 64),(4,1,.t 66)]) 12,⟨some 68,.box true 68 (.t 67),none,13,[3]⟩,⟨none,.mapUpdate 1 (.t 58) (.t 59) (.t 68),none,14,[]⟩] [14] []) (.seq (rN [
 oM 69 14 0,oM 10 69 1,oN 11 (.move (iC 0)) 2] [10,11]) (kB [10,11] .ret))))))))))))))) }
theorem ok74:fnSoundB Go.Proofs.Tryz.prog 74 F74=true:=by decide +kernel
def F75:LFunc:={ nparams:=4,results:=[.tmp 8],pure:=false,body :=
 (.seq (rN [
 oN 8 (.move (iC 0)) 0] [0,1,2,3]) (.seq (rN [
 oM 14 0 0,oM 15 1 1,oN 16 (.call 127 [(.t 14,.as),(.t 15,.as)]) 2,oM 13 16 3,oN 17 (.extract (.t 13) 0) 4,oN 18 (.extract (.t 13) 1) 5,oM 9 17 6,oM 10 18 7] [0,2,3,9,10]) (.seq (rN [
 oM 19 10 0,oN 20 (.eq .i true (.t 19) (iC 0)) 1] [0,2,3,9,10,20]) (.seq (.cond (.t 20) (.seq (rN [
 oM 21 10 0,oM 8 21 1] [8]) (kB [8] .ret)) (kS [0,2,3,9])) (kB [0,2,3,9] (.seq (rN [
 oM 23 0 0,oM 24 3 1,oN 25 (.call 128 [(.t 23,.as),(.t 24,.as)]) 2,oM 22 25 3,oN 26 (.extract (.t 22) 0) 4,oN 27 (.extract (.t 22) 1) 5,oM 11 26 6,oM 10 27 7] [0,2,9,10,11]) (.seq (rN [
 oM 28 0 0,oN 29 (.nilCheck (.t 28)) 1,oN 30 (fA 0 29) 2,oN 31 (lD 30) 3,oM 32 2 4,oN 33 (.lookup 1 (.nilp) false (.t 31) (.t 32)) 5,oM 12 33 6] [9,10,11,12]) (.seq (rN [
 oM 34 10 0,oN 35 (.eq .i true (.t 34) (iC 0)) 1,oM 36 35 2,oG 37 (.move (.t 12)) 36 false 3,oG 38 (.eq .ptr false (.t 37) (.c (.nilp))) 36 false 4,oN 39 (.pick (.t 36) (.c (.bool true)) (.t 38)) 5] [9,11,12,39]) (.seq (.cond (.t 39) (.seq (rN [
 oN 8 (.move (iC 13)) 0] [8]) (kB [8] .ret)) (kS [9,11,12])) (kB [9,11,12] (.seq (.draw [
 oM 40 12 0,oN 41 (.nilCheck (.t 40)) 1,oN 42 (fA 0 41) 2,oN 43 (lD 42) 3,oM 44 9 4,oN 45 (.nilCheck (.t 44)) 5,oN 46 (fA 0 45) 6,oN 47 (lD 46) 7,oM 48 11 8,oN 49 (.call 129 [(.t 43,.as),(.t 47,.as),(.t 48,.as)]) 9,oM 8 49 10] [8] []) (kB [8] .ret)))))))))))) }
theorem ok75:fnSoundB Go.Proofs.Tryz.prog 75 F75=true:=by decide +kernel
def F76:LFunc:={ nparams:=5,results:=[.tmp 10,.tmp 11],pure:=false,body :=
 (.seq (rN [
 oN 10 (.move (iC 0)) 0,oN 11 (.move (iC 0)) 1] [0,1,2,3,4]) (.seq (rN [
 oM 14 1 0,oN 15 (.pcall 63 [(.t 14,.as),(.c (.bool false),.as)]) 1,oN 16 (.un .not (.t 15)) 2] [0,1,2,3,4,16]) (.seq (.cond (.t 16) (.seq (rN [
 oN 10 (.move (iC 0)) 0,oN 11 (.move (iC 7)) 1] [10,11]) (kB [10,11] .ret)) (kS [0,1,2,3,4])) (kB [0,1,2,3,4] (.seq (rN [
 oM 17 2 0,oN 18 (.len 0 (.t 17)) 1,oN 19 (.bin .gtr (.t 18) (iC 65536)) 2,oM 20 19 3,oG 21 (.move (.t 3)) 20 false 4,oG 22 (.len 0 (.t 21)) 20 false 5,oG 23 (.bin .gtr (.t 22) (iC 65536)) 20 false 6,oN 24 (.pick (.t 20) (.c (.bool true)) (.t 23)) 7] [0,1,2,3,4,24]) (.seq (.cond (.t 24) (.seq (rN [
 oN 10 (.move (iC 0)) 0,oN 11 (.move (iC 3)) 1] [10,11]) (kB [10,11] .ret)) (kS [0,1,2,3,4])) (kB [0,1,2,3,4] (.seq (rN [
 oM 26 4 0,oN 27 (.pcall 64 [(.t 26,.as)]) 1,oM 25 27 2,oN 28 (.extract (.t 25) 0) 3,oN 29 (.extract (.t 25) 1) 4,oM 12 28 5,oM 13 29 6] [0,1,2,3,4,13]) (.seq (rN [
 oM 30 13 0,oN 31 (.eq .i true (.t 30) (iC 0)) 1] [0,1,2,3,4,13,31]) (.seq (.cond (.t 31) (.seq (rN [
 oM 32 13 0,oN 10 (.move (iC 0)) 1,oM 11 32 2] [10,11]) (kB [10,11] .ret)) (kS [0,1,2,3,4])) (kB [0,1,2,3,4] (.seq (rN [
 oM 33 0 0,oN 34 (.nilCheck (.t 33)) 1,oN 35 (fA 1 34) 2,oN 36 (lD 35) 3,oN 37 (.bin .gtr (.t 36) (iC 4294967295)) 4] [0,1,2,3,4,37]) (.seq (.cond (.t 37) (.seq (rN [
 oN 10 (.move (iC 0)) 0,oN 11 (.move (iC 21)) 1] [10,11]) (kB [10,11] .ret)) (kS [0,1,2,3,4])) (kB [0,1,2,3,4] (.seq (.draw [
 oM 38 0 0,oM 39 0 1,oN 40 (.nilCheck (.t 39)) 2,oN 41 (fA 0 40) 3,oN 42 (lD 41) 4,oM 43 0 5,oN 44 (.nilCheck (.t 43)) 6,oN 45 (fA 1 44) 7,oN 46 (lD 45) 8,oM 47 1 9,oM 48 2 10,oM 49 3 11,oM 50 4 12,oN 51 (.build [.p (.int .i64 0),.p (.int .i64 0),.nils,.p (.str []),.p (.str []),.p (.str []),.p (.list [])] [(0,1,.t 46),(1,1,.c (.int .i64 (-1))),(3,1,.t 47),(4,1,.t 48),(5,1,.t 49),(6,1,.t 50)]) 13,oN 52 (.row 7 [.t 51]) 14,oN 53 (.append true 1000 7 112 (.t 42) (.t 52)) 15,oN 54 (.nilCheck (.t 38)) 16,oN 55 (fA 0 54) 17,⟨none,.store 1 false (.t 55) (.t 53),none,18,[]⟩] [0] []) (.seq (rN [
 oM 56 0 0,oN 57 (.nilCheck (.t 56)) 1,oN 58 (fA 1 57) 2,oN 59 (lD 58) 3,oN 60 (.bin .add (.t 59) (iC 1)) 4,oN 61 (.nilCheck (.t 56)) 5,oN 62 (fA 1 61) 6,⟨none,.store 1 false (.t 62) (.t 60),none,7,[]⟩] [0]) (.seq (rN [
 oM 63 0 0,oN 64 (.nilCheck (.t 63)) 1,oN 65 (fA 1 64) 2,oN 66 (lD 65) 3,oN 67 (.bin .sub (.t 66) (iC 1)) 4,oM 10 67 5,oN 11 (.move (iC 0)) 6] [10,11]) (kB [10,11] .ret)))))))))))))))))) }
theorem ok76:fnSoundB Go.Proofs.Tryz.prog 76 F76=true:=by decide +kernel
def F77:LFunc:={ nparams:=4,results:=[.tmp 8],pure:=false,body :=
 (.seq (rN [
 oN 8 (.move (iC 0)) 0] [0,1,2,3]) (.seq (rN [
 oM 10 0 0,oM 11 1 1,oN 12 (.call 130 [(.t 10,.as),(.t 11,.as)]) 2,oM 9 12 3] [0,1,2,3,9]) (.seq (rN [
 oM 13 9 0,oN 14 (.eq .i true (.t 13) (iC 0)) 1] [0,1,2,3,9,14]) (.seq (.cond (.t 14) (.seq (rN [
 oM 15 9 0,oM 8 15 1] [8]) (kB [8] .ret)) (kS [0,1,2,3])) (kB [0,1,2,3] (.seq (rN [
 oM 16 0 0,oM 17 2 1,oN 18 (.call 131 [(.t 16,.as),(.t 17,.as)]) 2,oN 19 (.bin .lss (.t 18) (iC 0)) 3,oM 20 19 4,oG 21 (.move (.t 0)) 20 false 5,oG 22 (.move (.t 3)) 20 false 6,oG 23 (.call 131 [(.t 21,.as),(.t 22,.as)]) 20 false 7,oG 24 (.bin .lss (.t 23) (iC 0)) 20 false 8,oN 25 (.pick (.t 20) (.c (.bool true)) (.t 24)) 9] [0,1,2,3,25]) (.seq (.cond (.t 25) (.seq (rN [
 oN 8 (.move (iC 13)) 0] [8]) (kB [8] .ret)) (kS [0,1,2,3])) (kB [0,1,2,3] (.seq (.draw [
 oM 26 0 0,oN 27 (.nilCheck (.t 26)) 1,oN 28 (fA 0 27) 2,oN 29 (lD 28) 3,oM 30 0 4,oM 31 1 5,⟨some 32,.call 131 [(.t 30,.as),(.t 31,.as)],none,6,[3]⟩,oN 33 (.indexAddr 7 (.t 29) (.t 32)) 7,oN 34 (fA 1 33) 8,oN 35 (lD 34) 9,oN 36 (.bin .geq (.t 35) (iC 0)) 10] [0,1,2,3,36] []) (.seq (.cond (.t 36) (.seq (rN [
 oN 8 (.move (iC 15)) 0] [8]) (kB [8] .ret)) (kS [0,1,2,3])) (kB [0,1,2,3] (.seq (rN [
 oM 37 0 0,oM 38 2 1,oM 39 1 2,oN 40 (.call 132 [(.t 37,.as),(.t 38,.as),(.t 39,.as)]) 3] [0,1,2,3,40]) (.seq (.cond (.t 40) (.seq (rN [
 oN 8 (.move (iC 17)) 0] [8]) (kB [8] .ret)) (kS [0,1,2,3])) (kB [0,1,2,3] (.seq (.draw [
 oM 41 3 0,oN 42 (.eq .i true (.t 41) (iC 0)) 1,oM 43 42 2,oG 44 (.move (.t 0)) 43 true 3,oG 45 (.nilCheck (.t 44)) 43 true 4,oG 46 (fA 0 45) 43 true 5,oG 47 (lD 46) 43 true 6,oG 48 (.move (.t 0)) 43 true 7,oG 49 (.move (.t 3)) 43 true 8,oG 54 (.move (.t 2)) 43 true 13,⟨some 50,.call 131 [(.t 48,.as),(.t 49,.as)],some (43,true),9,[6]⟩,oG 51 (.indexAddr 7 (.t 47) (.t 50)) 43 true 10,oG 52 (fA 1 51) 43 true 11,oG 53 (lD 52) 43 true 12,oG 55 (.eq .i true (.t 53) (.t 54)) 43 true 14,oN 56 (.pick (.t 43) (.t 55) (.c (.bool false))) 15] [0,1,2,3,56] []) (.seq (.cond (.t 56) (.seq (rN [
 oN 8 (.move (iC 18)) 0] [8]) (kB [8] .ret)) (kS [0,1,2,3])) (kB [0,1,2,3] (.seq (.draw [
 oM 57 0 0,oM 58 2 1,oM 59 0 2,oN 60 (.nilCheck (.t 59)) 3,oN 61 (fA 0 60) 4,oN 62 (lD 61) 5,oM 63 0 6,oM 64 2 7,oM 69 1 12,oM 70 3 13,⟨some 65,.call 131 [(.t 63,.as),(.t 64,.as)],none,8,[5]⟩,oN 66 (.indexAddr 7 (.t 62) (.t 65)) 9,oN 67 (fA 2 66) 10,oN 68 (lD 67) 11,oN 71 (.pcall 134 [(.t 68,.freeze),(.t 69,.as),(.t 70,.as)]) 14,oN 72 (.call 133 [(.t 57,.as),(.t 58,.as),(.t 71,.as)]) 15] [0,1,2] []) (.seq (.draw [
 oM 73 0 0,oN 74 (.nilCheck (.t 73)) 1,oN 75 (fA 0 74) 2,oN 76 (lD 75) 3,oM 77 0 4,oM 78 1 5,oM 80 2 7,⟨some 79,.call 131 [(.t 77,.as),(.t 78,.as)],none,6,[3]⟩,oN 81 (.indexAddr 7 (.t 76) (.t 79)) 8,oN 82 (fA 1 81) 9,⟨none,.store 1 false (.t 82) (.t 80),none,10,[]⟩] [] []) (.seq (rN [
 oN 8 (.move (iC 0)) 0] [8]) (kB [8] .ret))))))))))))))))))))) }
theorem ok77:fnSoundB Go.Proofs.Tryz.prog 77 F77=true:=by decide +kernel
def F79:LFunc:={ nparams:=2,results:=[.tmp 4],pure:=false,body :=
 (.seq (.region [
 oN 3 (.box false 3 (.t 1)) 0,oN 4 (.move (iC 0)) 1] false [0,3] [3]) (.seq (.region [
 oN 8 (fA 0 3) 0,oN 9 (lD 8) 1,oN 10 (.eq .i false (.t 9) (iC 1)) 2] false [0,3,10] [3]) (.seq (.cond (.t 10) (.seq (.draw [
 oM 12 0 0,oN 13 (.nilCheck (.t 12)) 1,oN 14 (fA 0 13) 2,oN 15 (lD 14) 3,oN 16 (fA 4 3) 4,oN 17 (lD 16) 5,oN 18 (fA 5 3) 6,oN 19 (lD 18) 7,oN 20 (fA 7 3) 8,oN 21 (lD 20) 9,oN 22 (fA 8 3) 10,oN 23 (lD 22) 11,oN 24 (.call 74 [(.t 15,.as),(.t 17,.as),(.t 19,.as),(.t 21,.as),(.t 23,.as)]) 12,oM 11 24 13,oN 25 (.extract (.t 11) 0) 14,oN 26 (.extract (.t 11) 1) 15,oM 5 25 16,oM 6 26 17] [0,5,6] []) (.seq (rN [
 oM 27 6 0,oN 28 (.eq .i false (.t 27) (iC 0)) 1] [0,5,6,28]) (.seq (.cond (.t 28) (.seq (rN [
 oM 29 0 0,oM 30 0 1,oN 31 (.nilCheck (.t 30)) 2,oN 32 (fA 1 31) 3,oN 33 (lD 32) 4,oM 34 5 5,oN 35 (.row 1 [.t 34]) 6,oN 36 (.append true 1000 1 8 (.t 33) (.t 35)) 7,oN 37 (.nilCheck (.t 29)) 8,oN 38 (fA 1 37) 9,⟨none,.store 1 false (.t 38) (.t 36),none,10,[]⟩] [6]) (kS [6])) (kS [6])) (kB [6] (.seq (rN [
 oM 39 6 0,oM 4 39 1] [4]) (kB [4] .ret)))))) (.keep [0,3] [3] .skip)) (.keep [0,3] [3] (.seq (.region [
 oM 40 0 0,oN 41 (fA 1 3) 1,oN 42 (lD 41) 2,oN 43 (fA 2 3) 3,oN 44 (lD 43) 4,oN 45 (fA 3 3) 5,oN 46 (lD 45) 6,oN 47 (.row 1 [.t 42,.t 44,.t 46]) 7,oN 48 (.call 135 [(.t 40,.as),(.t 47,.freeze)]) 8,oN 49 (.un .not (.t 48)) 9] false [0,3,49] [3]) (.seq (.cond (.t 49) (.seq (rN [
 oN 4 (.move (iC 13)) 0] [4]) (kB [4] .ret)) (.keep [0,3] [3] .skip)) (.keep [0,3] [3] (.seq (.region [
 oM 50 0 0,oN 51 (fA 1 3) 1,oN 52 (lD 51) 2,oN 53 (.call 136 [(.t 50,.as),(.t 52,.as)]) 3,oM 7 53 4] false [0,3,7] [3]) (.seq (.region [
 oN 54 (fA 0 3) 0,oN 55 (lD 54) 1] false [0,3,7,55] [3]) (.seq (.block 0 (.seq (.region [
 oN 57 (.eq .i false (.t 55) (iC 2)) 0,oM 56 57 1] false [0,3,7,55,56] [3]) (.seq (.cond (.t 56) (.seq (.draw [
 oM 58 0 0,oN 59 (.nilCheck (.t 58)) 1,oN 60 (fA 0 59) 2,oN 61 (lD 60) 3,oM 62 7 4,oM 63 0 5,oN 64 (fA 2 3) 6,oN 65 (lD 64) 7,oM 67 0 9,oN 68 (fA 3 3) 10,oN 69 (lD 68) 11,⟨some 66,.call 136 [(.t 63,.as),(.t 65,.as)],none,8,[3,11]⟩,⟨some 70,.call 137 [(.t 67,.as),(.t 69,.as)],none,12,[3]⟩,oN 71 (.call 75 [(.t 61,.as),(.t 62,.as),(.t 66,.as),(.t 70,.as)]) 13,oM 4 71 14] [4] []) (kB [4] .ret)) (.seq (.region [
 oN 73 (.eq .i false (.t 55) (iC 3)) 0,oM 72 73 1] false [0,3,7,55,72] [3]) (.seq (.cond (.t 72) (.seq (.draw [
 oM 74 0 0,oN 75 (.nilCheck (.t 74)) 1,oN 76 (fA 0 75) 2,oN 77 (lD 76) 3,oM 78 7 4,oM 79 0 5,oN 80 (fA 3 3) 6,oN 81 (lD 80) 7,⟨some 82,.call 137 [(.t 79,.as),(.t 81,.as)],none,8,[3]⟩,oN 83 (.call 106 [(.t 77,.as),(.t 78,.as),(.t 82,.as)]) 9,oM 4 83 10] [4] []) (kB [4] .ret)) (.seq (.region [
 oN 85 (.eq .i false (.t 55) (iC 4)) 0,oM 84 85 1] false [0,3,7,55,84] [3]) (.seq (.cond (.t 84) (.seq (rN [
 oM 86 0 0,oN 87 (.nilCheck (.t 86)) 1,oN 88 (fA 0 87) 2,oN 89 (lD 88) 3,oM 90 7 4,oN 91 (.call 107 [(.t 89,.as),(.t 90,.as)]) 5,oM 4 91 6] [4]) (kB [4] .ret)) (.seq (.region [
 oN 93 (.eq .i false (.t 55) (iC 5)) 0,oM 92 93 1] false [0,3,7,55,92] [3]) (.seq (.cond (.t 92) (.seq (.draw [
 oM 94 0 0,oN 95 (.nilCheck (.t 94)) 1,oN 96 (fA 0 95) 2,oN 97 (lD 96) 3,oM 98 7 4,oN 99 (fA 6 3) 5,oN 100 (lD 99) 6,oN 101 (fA 7 3) 7,oN 102 (lD 101) 8,oN 103 (.call 108 [(.t 97,.as),(.t 98,.as),(.t 100,.as),(.t 102,.as)]) 9,oM 4 103 10] [4] []) (kB [4] .ret)) (.seq (.region [
 oN 105 (.eq .i false (.t 55) (iC 6)) 0,oM 104 105 1] false [0,3,7,104] [3]) (.seq (.cond (.t 104) (.seq (.draw [
 oM 106 0 0,oN 107 (.nilCheck (.t 106)) 1,oN 108 (fA 0 107) 2,oN 109 (lD 108) 3,oM 110 7 4,oN 111 (fA 6 3) 5,oN 112 (lD 111) 6,oN 113 (.call 109 [(.t 109,.as),(.t 110,.as),(.t 112,.as)]) 7,oM 4 113 8] [4] []) (kB [4] .ret)) (.keep [0,3,7] [3] .skip)) (.keep [0,3,7] [3] .skip)))) (.keep [0,3,7] [3] .skip)))) (.keep [0,3,7] [3] .skip)))) (.keep [0,3,7] [3] .skip)))) (.keep [0,3,7] [3] .skip)))) (.keep [0,3,7] [3] (.seq (.draw [
 oM 114 0 0,oN 115 (.nilCheck (.t 114)) 1,oN 116 (fA 0 115) 2,oN 117 (lD 116) 3,oM 118 7 4,oN 119 (fA 7 3) 5,oN 120 (lD 119) 6,oN 121 (.call 110 [(.t 117,.as),(.t 118,.as),(.t 120,.as)]) 7,oM 4 121 8] [4] []) (kB [4] .ret))))))))))))) }
theorem ok79:fnSoundB Go.Proofs.Tryz.prog 79 F79=true:=by decide +kernel
def F80:LFunc:={ nparams:=2,results:=[.cell 4 9 true,.tmp 5],pure:=false,body :=
 (.seq (.region [
 oN 2 (.box false 2 (.t 0)) 0,oN 4 (.alloc false 4 [.p (.int .i64 0),.p (.int .i64 0),.p (.int .i64 0),.p (.int .i64 0),.p (.str []),.p (.str []),.p (.str []),.p (.str []),.p (.list [])] []) 1,oN 5 (.move (.c (.bool false))) 2] false [1,2,4] [2,4]) (.seq (.region [
 oN 12 (fA 0 2) 0,oN 13 (lD 12) 1,oN 14 (.eq .i false (.t 13) (iC 1)) 2] false [1,2,4,14] [2,4]) (.seq (.cond (.t 14) (.seq (.region [
 oN 15 (.load 9 true (.t 2)) 0,⟨none,.store 9 true (.t 4) (.t 15),none,1,[]⟩,oN 5 (.move (.c (.bool true))) 2] false [4,5] [4]) (.keep [4,5] [4] .ret)) (.keep [1,2,4] [2,4] .skip)) (.keep [1,2,4] [2,4] (.seq (.region [
 oM 17 1 0,oN 18 (fA 1 2) 1,oN 19 (lD 18) 2,oN 20 (.call 138 [(.t 17,.as),(.t 19,.as)]) 3,oM 16 20 4,oN 21 (.extract (.t 16) 0) 5,oN 22 (.extract (.t 16) 1) 6,oM 6 21 7,oM 7 22 8] false [1,2,4,6,7] [2,4]) (.seq (.region [
 oM 24 1 0,oN 25 (fA 2 2) 1,oN 26 (lD 25) 2,oN 27 (.call 138 [(.t 24,.as),(.t 26,.as)]) 3,oM 23 27 4,oN 28 (.extract (.t 23) 0) 5,oN 29 (.extract (.t 23) 1) 6,oM 8 28 7,oM 9 29 8] false [1,2,4,6,7,8,9] [2,4]) (.seq (.region [
 oM 31 1 0,oN 32 (fA 3 2) 1,oN 33 (lD 32) 2,oN 34 (.call 138 [(.t 31,.as),(.t 33,.as)]) 3,oM 30 34 4,oN 35 (.extract (.t 30) 0) 5,oN 36 (.extract (.t 30) 1) 6,oM 10 35 7,oM 11 36 8] false [2,4,6,7,8,9,10,11] [2,4]) (.seq (.region [
 oN 37 (fA 3 2) 0,oN 38 (lD 37) 1,oN 39 (.eq .i false (.t 38) (iC 0)) 2] false [2,4,6,7,8,9,10,11,39] [2,4]) (.seq (.cond (.t 39) (.seq (.region [
 oN 10 (.move (iC 0)) 0] false [2,4,6,7,8,9,10] [2,4]) (.seq (.region [
 oN 11 (.move (.c (.bool true))) 0] false [2,4,6,7,8,9,10,11] [2,4]) (.keep [2,4,6,7,8,9,10,11] [2,4] .skip))) (.keep [2,4,6,7,8,9,10,11] [2,4] .skip)) (.keep [2,4,6,7,8,9,10,11] [2,4] (.seq (.region [
 oN 40 (fA 0 2) 0,oN 41 (lD 40) 1,oN 42 (.eq .i true (.t 41) (iC 2)) 2] false [2,4,6,7,8,9,10,11,42] [2,4]) (.seq (.cond (.t 42) (.seq (.region [
 oN 8 (.move (iC 0)) 0] false [2,4,6,7,8,10,11] [2,4]) (.seq (.region [
 oN 9 (.move (.c (.bool true))) 0] false [2,4,6,7,8,9,10,11] [2,4]) (.keep [2,4,6,7,8,9,10,11] [2,4] .skip))) (.keep [2,4,6,7,8,9,10,11] [2,4] .skip)) (.keep [2,4,6,7,8,9,10,11] [2,4] (.seq (.region [
 oM 43 6 0,oN 44 (fA 1 2) 1,⟨none,.store 1 false (.t 44) (.t 43),none,2,[]⟩] false [2,4,7,8,9,10,11] [2,4]) (.seq (.region [
 oM 45 8 0,oN 46 (fA 2 2) 1,⟨none,.store 1 false (.t 46) (.t 45),none,2,[]⟩] false [2,4,7,9,10,11] [2,4]) (.seq (.region [
 oM 47 10 0,oN 48 (fA 3 2) 1,⟨none,.store 1 false (.t 48) (.t 47),none,2,[]⟩] false [2,4,7,9,11] [2,4]) (.seq (.region [
 oN 49 (.load 9 true (.t 2)) 0,oM 50 7 1,oM 51 50 2,oG 52 (.move (.t 9)) 51 true 3,oN 53 (.pick (.t 51) (.t 52) (.c (.bool false))) 4,oM 54 53 5,oG 55 (.move (.t 11)) 54 true 6,oN 56 (.pick (.t 54) (.t 55) (.c (.bool false))) 7,⟨none,.store 9 true (.t 4) (.t 49),none,8,[]⟩,oM 5 56 9] false [4,5] [4]) (.keep [4,5] [4] .ret)))))))))))))))))) }
theorem ok80:fnSoundB Go.Proofs.Tryz.prog 80 F80=true:=by decide +kernel
def F81:LFunc:={ nparams:=2,results:=[.tmp 4,.tmp 5],pure:=false,body :=
 (.seq (.region [
 oN 3 (.box false 3 (.t 1)) 0,oN 4 (.move (iC 0)) 1,oN 5 (.move (iC 0)) 2] false [0,3] [3]) (.seq (.region [
 oN 6 (fA 0 3) 0,oN 7 (lD 6) 1] false [0,3,7] [3]) (.seq (.block 0 (.seq (.region [
 oN 9 (.eq .i false (.t 7) (iC 1)) 0,oM 8 9 1] false [0,3,7,8] [3]) (.seq (.cond (.t 8) (.seq (rN [
 oM 10 0 0,oN 11 (fA 4 3) 1,oN 12 (lD 11) 2,oN 13 (fA 5 3) 3,oN 14 (lD 13) 4,oN 15 (fA 7 3) 5,oN 16 (lD 15) 6,oN 17 (fA 8 3) 7,oN 18 (lD 17) 8,oN 19 (.call 76 [(.t 10,.as),(.t 12,.as),(.t 14,.as),(.t 16,.as),(.t 18,.as)]) 9,oN 20 (.extract (.t 19) 0) 10,oN 21 (.extract (.t 19) 1) 11,oM 4 20 12,oM 5 21 13] [4,5]) (kB [4,5] .ret)) (.seq (.region [
 oN 23 (.eq .i false (.t 7) (iC 2)) 0,oM 22 23 1] false [0,3,7,22] [3]) (.seq (.cond (.t 22) (.seq (rN [
 oM 24 0 0,oN 25 (fA 1 3) 1,oN 26 (lD 25) 2,oN 27 (fA 2 3) 3,oN 28 (lD 27) 4,oN 29 (fA 3 3) 5,oN 30 (lD 29) 6,oN 31 (.call 77 [(.t 24,.as),(.t 26,.as),(.t 28,.as),(.t 30,.as)]) 7,oN 4 (.move (iC 0)) 8,oM 5 31 9] [4,5]) (kB [4,5] .ret)) (.seq (.region [
 oN 33 (.eq .i false (.t 7) (iC 3)) 0,oM 32 33 1] false [0,3,7,32] [3]) (.seq (.cond (.t 32) (.seq (rN [
 oM 34 0 0,oN 35 (fA 1 3) 1,oN 36 (lD 35) 2,oN 37 (fA 3 3) 3,oN 38 (lD 37) 4,oN 39 (.call 139 [(.t 34,.as),(.t 36,.as),(.t 38,.as)]) 5,oN 4 (.move (iC 0)) 6,oM 5 39 7] [4,5]) (kB [4,5] .ret)) (.seq (.region [
 oN 41 (.eq .i false (.t 7) (iC 4)) 0,oM 40 41 1] false [0,3,7,40] [3]) (.seq (.cond (.t 40) (.seq (rN [
 oM 42 0 0,oN 43 (fA 1 3) 1,oN 44 (lD 43) 2,oN 45 (.call 140 [(.t 42,.as),(.t 44,.as)]) 3,oN 4 (.move (iC 0)) 4,oM 5 45 5] [4,5]) (kB [4,5] .ret)) (.seq (.region [
 oN 47 (.eq .i false (.t 7) (iC 5)) 0,oM 46 47 1] false [0,3,7,46] [3]) (.seq (.cond (.t 46) (.seq (rN [
 oM 48 0 0,oN 49 (fA 1 3) 1,oN 50 (lD 49) 2,oN 51 (fA 6 3) 3,oN 52 (lD 51) 4,oN 53 (fA 7 3) 5,oN 54 (lD 53) 6,oN 55 (.call 141 [(.t 48,.as),(.t 50,.as),(.t 52,.as),(.t 54,.as)]) 7,oN 4 (.move (iC 0)) 8,oM 5 55 9] [4,5]) (kB [4,5] .ret)) (.seq (.region [
 oN 57 (.eq .i false (.t 7) (iC 6)) 0,oM 56 57 1] false [0,3,7,56] [3]) (.seq (.cond (.t 56) (.seq (rN [
 oM 58 0 0,oN 59 (fA 1 3) 1,oN 60 (lD 59) 2,oN 61 (fA 6 3) 3,oN 62 (lD 61) 4,oN 63 (.call 142 [(.t 58,.as),(.t 60,.as),(.t 62,.as)]) 5,oN 4 (.move (iC 0)) 6,oM 5 63 7] [4,5]) (kB [4,5] .ret)) (.seq (.region [
 oN 65 (.eq .i false (.t 7) (iC 7)) 0,oM 64 65 1] false [0,3,64] [3]) (.seq (.cond (.t 64) (.seq (rN [
 oM 66 0 0,oN 67 (fA 1 3) 1,oN 68 (lD 67) 2,oN 69 (fA 7 3) 3,oN 70 (lD 69) 4,oN 71 (.call 143 [(.t 66,.as),(.t 68,.as),(.t 70,.as)]) 5,oN 4 (.move (iC 0)) 6,oM 5 71 7] [4,5]) (kB [4,5] .ret)) (kS [])) (kS [])))) (kS [])))) (kS [])))) (kS [])))) (kS [])))) (kS [])))) (kS [])))) (kB [] (.seq (rN [
 oN 4 (.move (iC 0)) 0,oN 5 (.move (iC 0)) 1] [4,5]) (kB [4,5] .ret)))))) }
theorem ok81:fnSoundB Go.Proofs.Tryz.prog 81 F81=true:=by decide +kernel
def B82x0:LCode :=
 (.seq (rN [
 oM 11 7 0,oN 12 (.eq .ptr true (.t 11) (.c (.nilp))) 1] [1,2,3,4,7,12]) (.seq (.cond (.t 12) (kS [1,2,3,4,7]) (kB [] (.exit 0))) (kB [1,2,3,4,7] (.seq (.block 1 (.seq (.draw [
 oN 15 (lD 2) 0,oN 16 (.nilCheck (.t 15)) 1,oN 17 (fA 0 16) 2,oN 18 (lD 17) 3,oM 19 7 4,⟨some 20,.call 85 [(.t 19,.as)],none,5,[0,3]⟩,oN 21 (.lookup 1 (.nilp) false (.t 18) (.t 20)) 6,oM 8 21 7] [1,2,3,4,7,8] []) (.seq (.draw [
 oN 22 (lD 3) 0,oM 23 7 1,oM 25 1 3,oM 26 8 4,oN 27 (.nilCheck (.t 26)) 5,oN 28 (fA 1 27) 6,oN 29 (lD 28) 7,oM 30 8 8,oN 31 (.nilCheck (.t 30)) 9,oN 32 (fA 2 31) 10,oN 33 (lD 32) 11,oM 34 8 12,oN 35 (.nilCheck (.t 34)) 13,oN 36 (fA 3 35) 14,oN 37 (lD 36) 15,oM 38 8 16,oN 39 (.nilCheck (.t 38)) 17,oN 40 (fA 4 39) 18,oN 41 (lD 40) 19,⟨some 24,.call 85 [(.t 23,.as)],none,2,[0,7,11,15,19]⟩,oN 42 (.pcall 56 [(.t 41,.as)]) 20,oN 43 (.build [.p (.int .i64 0),.p (.int .i64 0),.p (.str []),.p (.str []),.p (.str []),.p (.list [])] [(0,1,.t 24),(1,1,.t 25),(2,1,.t 29),(3,1,.t 33),(4,1,.t 37),(5,1,.t 42)]) 21,oN 44 (.row 6 [.t 43]) 22,oN 45 (.append true 1000 6 88 (.t 22) (.t 44)) 23,⟨none,.store 1 false (.t 3) (.t 45),none,24,[]⟩] [1,2,3,4,7] []) (.seq (rN [
 oN 46 (lD 4) 0,oM 47 7 1,oN 48 (lD 3) 2,oN 49 (.len 1 (.t 48)) 3,oN 50 (.callv (.t 46) [(.t 47,.as),(.t 49,.as)]) 4] [1,2,3,4,7]) (kS [1,2,3,4,7]))))) (kB [1,2,3,4,7] (.seq (rN [
 oM 13 7 0,oN 14 (.call 84 [(.t 13,.as)]) 1,oM 7 14 2] [1,2,3,4,7]) (kS [1,2,3,4,7])))))))
def F82:LFunc:={ nparams:=5,results:=[],pure:=false,body :=
 (.seq (rN [
 oM 9 0 0,oN 10 (.call 83 [(.t 9,.as)]) 1,oM 7 10 2] [1,2,3,4,7]) (.seq (.block 0 (.seq (kB [1,2,3,4,7] (.loop B82x0)) (kS []))) (kS []))) }
theorem ok82:fnSoundB Go.Proofs.Tryz.prog 82 F82=true:=by decide +kernel
def F83:LFunc:={ nparams:=1,results:=[.tmp 2],pure:=false,body :=
 (.seq (rN [
 oN 2 (.move (.c (.nilp))) 0] [0]) (.seq (rN [
 oM 3 0 0,oN 4 (.eq .ptr false (.t 3) (.c (.nilp))) 1] [0,4]) (.seq (.cond (.t 4) (.seq (rN [
 oN 2 (.move (.c (.nilp))) 0] [2]) (kB [2] .ret)) (kS [0])) (kB [0] (.seq (rN [
 oM 5 0 0,oN 6 (.nilCheck (.t 5)) 1,oN 7 (fA 2 6) 2,oN 8 (lD 7) 3,oM 2 8 4] [2]) (kB [2] .ret)))))) }
theorem ok83:fnSoundB Go.Proofs.Tryz.prog 83 F83=true:=by decide +kernel
def F84:LFunc:={ nparams:=1,results:=[.tmp 2],pure:=false,body :=
 (.seq (rN [
 oN 2 (.move (.c (.nilp))) 0] [0]) (.seq (rN [
 oM 3 0 0,oN 4 (.eq .ptr false (.t 3) (.c (.nilp))) 1] [0,4]) (.seq (.cond (.t 4) (.seq (rN [
 oN 2 (.move (.c (.nilp))) 0] [2]) (kB [2] .ret)) (kS [0])) (kB [0] (.seq (rN [
 oM 5 0 0,oN 6 (.nilCheck (.t 5)) 1,oN 7 (fA 5 6) 2,oN 8 (lD 7) 3,oM 2 8 4] [2]) (kB [2] .ret)))))) }
theorem ok84:fnSoundB Go.Proofs.Tryz.prog 84 F84=true:=by decide +kernel
def F85:LFunc:={ nparams:=1,results:=[.tmp 2],pure:=false,body :=
 (.seq (rN [
 oN 2 (.move (iC 0)) 0] [0]) (.seq (rN [
 oM 3 0 0,oN 4 (.eq .ptr false (.t 3) (.c (.nilp))) 1] [0,4]) (.seq (.cond (.t 4) (.seq (rN [
 oN 2 (.move (iC 0)) 0] [2]) (kB [2] .ret)) (kS [0])) (kB [0] (.seq (rN [
 oM 5 0 0,oN 6 (.nilCheck (.t 5)) 1,oN 7 (fA 0 6) 2,oN 8 (lD 7) 3,oM 2 8 4] [2]) (kB [2] .ret)))))) }
theorem ok85:fnSoundB Go.Proofs.Tryz.prog 85 F85=true:=by decide +kernel
def B86x0:LCode :=
 (.seq (rN [
 oN 25 (.bin .lss (.t 24) (.t 23)) 0] [0,1,3,9,23,24,25]) (.seq (.cond (.t 25) (kS [0,1,3,9,23,24]) (kB [1] (.exit 0))) (kB [0,1,3,9,23,24] (.seq (.block 1 (.seq (rN [
 oM 26 24 0,oM 10 26 1] [0,1,3,9,10,23,24]) (.seq (.draw [
 oM 27 0 0,oN 28 (.nilCheck (.t 27)) 1,oN 29 (fA 0 28) 2,oN 30 (lD 29) 3,oM 31 0 4,oM 32 9 5,oM 33 10 6,oN 34 (.indexAddr 1 (.t 32) (.t 33)) 7,oN 35 (lD 34) 8,oN 36 (.rcall 131 [.t 31,.t 35]) 9,oN 37 (.indexAddr 7 (.t 30) (.t 36)) 10,oN 38 (.load 7 true (.t 37)) 11,⟨some 11,.alloc false 11 [.p (.int .i64 0),.p (.int .i64 0),.p (.list []),.p (.str []),.p (.str []),.p (.str []),.p (.list [])] [],none,12,[3,7,8,9,10,11]⟩,⟨none,.store 7 true (.t 11) (.t 38),none,13,[]⟩] [0,1,3,9,10,11,23,24] [11]) (.seq (rN [
 oM 39 1 0,oN 40 (fA 0 11) 1,oN 41 (lD 40) 2,oM 42 3 3,oN 43 (fA 3 11) 4,oN 44 (lD 43) 5,oN 45 (fA 4 11) 6,oN 46 (lD 45) 7,oN 47 (fA 5 11) 8,oN 48 (lD 47) 9,oN 49 (fA 6 11) 10,oN 50 (lD 49) 11,oN 51 (.build [.p (.int .i64 0),.p (.int .i64 0),.p (.str []),.p (.str []),.p (.str []),.p (.list [])] [(0,1,.t 41),(1,1,.t 42),(2,1,.t 44),(3,1,.t 46),(4,1,.t 48),(5,1,.t 50)]) 12,oN 52 (.row 6 [.t 51]) 13,oN 53 (.append true 1000 6 88 (.t 39) (.t 52)) 14,oM 1 53 15] [0,1,3,9,10,23,24]) (.seq (rN [
 oM 54 0 0,oM 55 1 1,oM 56 9 2,oM 57 10 3,oN 58 (.indexAddr 1 (.t 56) (.t 57)) 4,oN 59 (lD 58) 5,oM 60 1 6,oN 61 (.len 1 (.t 60)) 7,oN 62 (.call 86 [(.t 54,.as),(.t 55,.as),(.t 59,.as),(.t 61,.as)]) 8,oM 1 62 9] [0,1,3,9,23,24]) (kS [0,1,3,9,23,24])))))) (kB [0,1,3,9,23,24] (.seq (rN [
 oN 63 (.bin .add (.t 24) (iC 1)) 0,oM 24 63 1] [0,1,3,9,23,24]) (kS [0,1,3,9,23,24])))))))
def F86:LFunc:={ nparams:=4,results:=[.tmp 8],pure:=false,body :=
 (.seq (rN [
 oN 8 (.move (.c (.list []))) 0] [0,1,2,3]) (.seq (.draw [
 oM 12 0 0,oN 13 (.nilCheck (.t 12)) 1,oN 14 (fA 0 13) 2,oN 15 (lD 14) 3,oM 16 0 4,oM 17 2 5,⟨some 18,.call 131 [(.t 16,.as),(.t 17,.as)],none,6,[3]⟩,oN 19 (.indexAddr 7 (.t 15) (.t 18)) 7,oN 20 (fA 2 19) 8,oN 21 (lD 20) 9,oM 9 21 10] [0,1,3,9] []) (.seq (rN [
 oM 22 9 0,oN 23 (.len 1 (.t 22)) 1,oN 24 (.move (iC 0)) 2] [0,1,3,9,23,24]) (.seq (.block 0 (.seq (kB [0,1,3,9,23,24] (.loop B86x0)) (kS [1]))) (kB [1] (.seq (rN [
 oM 64 1 0,oM 8 64 1] [8]) (kB [8] .ret))))))) }
theorem ok86:fnSoundB Go.Proofs.Tryz.prog 86 F86=true:=by decide +kernel
def B87x0:LCode :=
 (.seq (rN [
 oN 14 (.bin .lss (.t 13) (.t 12)) 0] [0,1,12,13,14]) (.seq (.cond (.t 14) (kS [0,1,12,13]) (kB [] (.exit 0))) (kB [0,1,12,13] (.seq (.block 1 (.seq (rN [
 oM 15 13 0,oM 5 15 1] [0,1,5,12,13]) (.seq (.region [
 oM 16 0 0,oM 17 5 1,oN 18 (.indexAddr 2 (.t 16) (.t 17)) 2,oN 19 (.load 2 true (.t 18)) 3,oM 20 1 4,oM 21 5 5,oN 22 (.indexAddr 2 (.t 20) (.t 21)) 6,oN 23 (.load 2 true (.t 22)) 7,oN 24 (.eq (.st [2,2]) true (.t 19) (.t 23)) 8] true [0,1,12,13,24] []) (.seq (.cond (.t 24) (.seq (rN [
 oN 4 (.move (.c (.bool false))) 0] [4]) (kB [4] .ret)) (kS [0,1,12,13])) (kS [0,1,12,13]))))) (kB [0,1,12,13] (.seq (rN [
 oN 25 (.bin .add (.t 13) (iC 1)) 0,oM 13 25 1] [0,1,12,13]) (kS [0,1,12,13])))))))
def F87:LFunc:={ nparams:=2,results:=[.tmp 4],pure:=true,body :=
 (.seq (rN [
 oN 4 (.move (.c (.bool false))) 0] [0,1]) (.seq (rN [
 oM 6 0 0,oN 7 (.len 1 (.t 6)) 1,oM 8 1 2,oN 9 (.len 1 (.t 8)) 3,oN 10 (.eq .i true (.t 7) (.t 9)) 4] [0,1,10]) (.seq (.cond (.t 10) (.seq (rN [
 oN 4 (.move (.c (.bool false))) 0] [4]) (kB [4] .ret)) (kS [0,1])) (kB [0,1] (.seq (rN [
 oM 11 0 0,oN 12 (.len 1 (.t 11)) 1,oN 13 (.move (iC 0)) 2] [0,1,12,13]) (.seq (.block 0 (.seq (kB [0,1,12,13] (.loop B87x0)) (kS []))) (kB [] (.seq (rN [
 oN 4 (.move (.c (.bool true))) 0] [4]) (kB [4] .ret))))))))) }
theorem ok87:fnSoundB Go.Proofs.Tryz.prog 87 F87=true:=by decide +kernel
def F93:LFunc:={ nparams:=1,results:=[.tmp 2],pure:=false,body :=
 (.seq (rN [
 oN 2 (.move (.c (.nilp))) 0] [0]) (.seq (rN [
 oM 3 0 0,oN 4 (.eq .ptr false (.t 3) (.c (.nilp))) 1] [0,4]) (.seq (.cond (.t 4) (.seq (rN [
 oN 2 (.move (.c (.nilp))) 0] [2]) (kB [2] .ret)) (kS [0])) (kB [0] (.seq (rN [
 oM 5 0 0,oN 6 (.nilCheck (.t 5)) 1,oN 7 (fA 1 6) 2,oN 8 (lD 7) 3,oM 2 8 4] [2]) (kB [2] .ret)))))) }
theorem ok93:fnSoundB Go.Proofs.Tryz.prog 93 F93=true:=by decide +kernel
def B104x0:LCode :=
 (.seq (rN [
 oM 9 7 0,oN 10 (.bin .gtr (.t 9) (iC 0)) 1] [0,2,7,10]) (.seq (.cond (.t 10) (kS [0,2,7]) (kB [] (.exit 0))) (kB [0,2,7] (.seq (.block 1 (.seq (rN [
 oM 11 7 0,oM 12 2 1,oN 13 (.eq .i false (.t 11) (.t 12)) 2] [0,2,7,13]) (.seq (.cond (.t 13) (.seq (rN [
 oN 6 (.move (.c (.bool true))) 0] [6]) (kB [6] .ret)) (kS [0,2,7])) (kB [0,2,7] (.seq (rN [
 oM 14 0 0,oM 15 7 1,oN 16 (.bin .sub (.t 15) (iC 1)) 2,oN 17 (.indexAddr 6 (.t 14) (.t 16)) 3,oN 18 (fA 1 17) 4,oN 19 (lD 18) 5,oM 7 19 6] [0,2,7]) (kS [0,2,7])))))) (kS [0,2,7])))))
def F104:LFunc:={ nparams:=3,results:=[.tmp 6],pure:=true,body :=
 (.seq (rN [
 oN 6 (.move (.c (.bool false))) 0] [0,1,2]) (.seq (rN [
 oM 8 1 0,oM 7 8 1] [0,2,7]) (.seq (.block 0 (.seq (kB [0,2,7] (.loop B104x0)) (kS []))) (kB [] (.seq (rN [
 oN 6 (.move (.c (.bool false))) 0] [6]) (kB [6] .ret)))))) }
theorem ok104:fnSoundB Go.Proofs.Tryz.prog 104 F104=true:=by decide +kernel
def F105:LFunc:={ nparams:=1,results:=[.cell 2 5 true,.tmp 3],pure:=true,body :=
 (.seq (.region [
 oN 2 (.alloc false 2 [.p (.str []),.p (.str []),.p (.str []),.p (.list []),.p (.list [])] []) 0,oN 3 (.move (iC 0)) 1] false [0,2] [2,1000,1001,1002]) (.seq (.block 0 (.seq (.region [
 oM 9 0 0,oN 10 (.len 1 (.t 9)) 1,oN 11 (.eq .i false (.t 10) (iC 0)) 2,oM 8 11 3] false [0,2,8] [2,1000,1001,1002]) (.seq (.cond (.t 8) (.seq (.region [
 oN 12 (.build [.p (.str []),.p (.str []),.p (.str []),.p (.list []),.nils] []) 0,⟨none,.store 5 true (.t 2) (.t 12),none,1,[]⟩,oN 3 (.move (iC 23)) 2] false [2,3] [2,1000,1001,1002]) (.keep [2,3] [2,1000,1001,1002] .ret)) (.seq (.region [
 oM 14 0 0,oN 15 (.pcall 158 [(.t 14,.as)]) 1,oN 16 (.un .not (.t 15)) 2,oM 13 16 3] false [0,2,13] [2,1000,1001,1002]) (.seq (.cond (.t 13) (.seq (.region [
 oN 17 (.build [.p (.str []),.p (.str []),.p (.str []),.p (.list []),.nils] []) 0,⟨none,.store 5 true (.t 2) (.t 17),none,1,[]⟩,oN 3 (.move (iC 2)) 2] false [2,3] [2,1000,1001,1002]) (.keep [2,3] [2,1000,1001,1002] .ret)) (.keep [0,2] [2,1000,1001,1002] .skip)) (.keep [0,2] [2,1000,1001,1002] .skip)))) (.keep [0,2] [2,1000,1001,1002] .skip)))) (.keep [0,2] [2,1000,1001,1002] (.seq (.region [
 oM 18 0 0,oN 19 (.pcall 159 [(.t 18,.as)]) 1] false [0,2,19] [2,1000,1001,1002]) (.seq (.cond (.t 19) (.seq (.region [
 oM 20 0 0,oN 21 (.pcall 160 [(.t 20,.as)]) 1,oM 0 21 2] false [0,2] [2,1000,1001,1002]) (.keep [0,2] [2,1000,1001,1002] .skip)) (.keep [0,2] [2,1000,1001,1002] .skip)) (.keep [0,2] [2,1000,1001,1002] (.seq (.region [
 oM 23 0 0,oN 24 (.pcall 161 [(.t 23,.as),(.c (.int .i64 0),.as)]) 1,oM 22 24 2,oN 25 (.extract (.t 22) 0) 3,oN 26 (.extract (.t 22) 1) 4,oN 4 (.alloc false 4 [.p (.str []),.p (.str []),.p (.str []),.p (.list []),.p (.list [])] []) 5,⟨none,.store 5 true (.t 4) (.t 25),none,6,[]⟩,oM 5 26 7] false [2,4] [2,4,1000,1001,1002]) (.seq (.region [
 oN 28 (.load 5 true (.t 4)) 0,oN 29 (.pcall 162 [(.t 28,.as)]) 1,oM 27 29 2,oN 30 (.extract (.t 27) 0) 3,oN 31 (.extract (.t 27) 1) 4,oM 6 30 5,oM 7 31 6] false [2,4,7] [2,4,1000,1001,1002]) (.seq (.region [
 oM 32 7 0,oN 33 (.eq .i true (.t 32) (iC 0)) 1] false [2,4,7,33] [2,4,1000,1001,1002]) (.seq (.cond (.t 33) (.seq (.region [
 oN 34 (.build [.p (.str []),.p (.str []),.p (.str []),.p (.list []),.nils] []) 0,oM 35 7 1,⟨none,.store 5 true (.t 2) (.t 34),none,2,[]⟩,oM 3 35 3] false [2,3] [2,1000,1001,1002]) (.keep [2,3] [2,1000,1001,1002] .ret)) (.keep [2,4] [2,4,1000,1001,1002] .skip)) (.keep [2,4] [2,4,1000,1001,1002] (.seq (.region [
 oN 36 (.load 5 true (.t 4)) 0,⟨none,.store 5 true (.t 2) (.t 36),none,1,[]⟩,oN 3 (.move (iC 0)) 2] false [2,3] [2,1000,1001,1002]) (.keep [2,3] [2,1000,1001,1002] .ret))))))))))))) }
theorem ok105:fnSoundB Go.Proofs.Tryz.prog 105 F105=true:=by decide +kernel
def F106:LFunc:={ nparams:=3,results:=[.tmp 6],pure:=false,body :=
 (.seq (rN [
 oN 6 (.move (iC 0)) 0] [0,1,2]) (.seq (rN [
 oM 12 0 0,oM 13 1 1,oN 14 (.call 127 [(.t 12,.as),(.t 13,.as)]) 2,oM 11 14 3,oN 15 (.extract (.t 11) 0) 4,oN 16 (.extract (.t 11) 1) 5,oM 7 15 6,oM 8 16 7] [0,2,7,8]) (.seq (rN [
 oM 17 8 0,oN 18 (.eq .i true (.t 17) (iC 0)) 1] [0,2,7,8,18]) (.seq (.cond (.t 18) (.seq (rN [
 oM 19 8 0,oM 6 19 1] [6]) (kB [6] .ret)) (kS [0,2,7])) (kB [0,2,7] (.seq (rN [
 oM 21 0 0,oM 22 2 1,oN 23 (.call 128 [(.t 21,.as),(.t 22,.as)]) 2,oM 20 23 3,oN 24 (.extract (.t 20) 0) 4,oN 25 (.extract (.t 20) 1) 5,oM 9 24 6,oM 8 25 7] [7,8,9]) (.seq (rN [
 oM 26 7 0,oN 27 (.nilCheck (.t 26)) 1,oN 28 (fA 0 27) 2,oN 29 (lD 28) 3,oN 30 (.call 93 [(.t 29,.as)]) 4,oM 10 30 5] [7,8,9,10]) (.seq (.block 0 (.seq (rN [
 oM 32 8 0,oN 33 (.eq .i true (.t 32) (iC 0)) 1,oM 31 33 2] [7,9,10,31]) (.seq (.cond (.t 31) (.seq (rN [
 oN 6 (.move (iC 13)) 0] [6]) (kB [6] .ret)) (.seq (rN [
 oM 35 10 0,oN 36 (.eq .ptr false (.t 35) (.c (.nilp))) 1,oM 34 36 2] [7,9,10,34]) (.seq (.cond (.t 34) (.seq (rN [
 oN 6 (.move (iC 16)) 0] [6]) (kB [6] .ret)) (.seq (rN [
 oM 38 9 0,oN 39 (.eq .ptr true (.t 38) (.c (.nilp))) 1,oM 40 39 2,oG 41 (.move (.t 9)) 40 true 3,oG 42 (.move (.t 7)) 40 true 4,oG 43 (.nilCheck (.t 42)) 40 true 5,oG 44 (fA 0 43) 40 true 6,oG 45 (lD 44) 40 true 7,oG 46 (.eq .ptr false (.t 41) (.t 45)) 40 true 8,oG 47 (.move (.t 46)) 40 true 9,oG 48 (.move (.t 9)) 47 false 10,oG 49 (.call 93 [(.t 48,.as)]) 47 false 11,oG 50 (.move (.t 10)) 47 false 12,oG 51 (.eq .ptr true (.t 49) (.t 50)) 47 false 13,oG 52 (.pick (.t 47) (.c (.bool true)) (.t 51)) 40 true 14,oN 53 (.pick (.t 40) (.t 52) (.c (.bool false))) 15,oM 37 53 16] [7,9,10,37]) (.seq (.cond (.t 37) (.seq (rN [
 oN 6 (.move (iC 18)) 0] [6]) (kB [6] .ret)) (kS [7,9,10])) (kS [7,9,10])))) (kS [7,9,10])))) (kS [7,9,10])))) (kB [7,9,10] (.seq (rN [
 oM 54 7 0,oN 55 (.nilCheck (.t 54)) 1,oN 56 (fA 0 55) 2,oN 57 (lD 56) 3,oN 58 (.call 163 [(.t 57,.as)]) 4] [7,9,10]) (.seq (rN [
 oM 59 10 0,oM 60 7 1,oN 61 (.nilCheck (.t 60)) 2,oN 62 (fA 0 61) 3,oN 63 (lD 62) 4,oM 64 9 5,oN 65 (.call 129 [(.t 59,.as),(.t 63,.as),(.t 64,.as)]) 6,oM 6 65 7] [6]) (kB [6] .ret)))))))))))) }
theorem ok106:fnSoundB Go.Proofs.Tryz.prog 106 F106=true:=by decide +kernel
def F107:LFunc:={ nparams:=2,results:=[.tmp 4],pure:=false,body :=
 (.seq (rN [
 oN 2 (.box true 2 (.t 0)) 0,oN 4 (.move (iC 0)) 1] [1,2]) (.seq (rN [
 oN 9 (lD 2) 0,oM 10 1 1,oN 11 (.call 127 [(.t 9,.as),(.t 10,.as)]) 2,oM 8 11 3,oN 12 (.extract (.t 8) 0) 4,oN 13 (.extract (.t 8) 1) 5,oM 5 12 6,oM 6 13 7] [2,5,6]) (.seq (rN [
 oM 14 6 0,oN 15 (.eq .i true (.t 14) (iC 0)) 1] [2,5,6,15]) (.seq (.cond (.t 15) (.seq (rN [
 oM 16 6 0,oM 4 16 1] [4]) (kB [4] .ret)) (kS [2,5])) (kB [2,5] (.seq (rN [
 oM 17 5 0,oN 18 (.nilCheck (.t 17)) 1,oN 19 (fA 0 18) 2,oN 20 (lD 19) 3,oN 21 (.call 163 [(.t 20,.as)]) 4] [2,5]) (.seq (rN [
 oN 7 (.alloc true 7 [.p (.nilf)] []) 0] [2,5,7]) (.seq (rN [
 oN 22 (.makeFunc 164 [.t 2,.t 7]) 0,⟨none,.store 1 false (.t 7) (.t 22),none,1,[]⟩] [5,7]) (.seq (.draw [
 oN 23 (lD 7) 0,oM 24 5 1,oN 25 (.nilCheck (.t 24)) 2,oN 26 (fA 0 25) 3,oN 27 (lD 26) 4,oN 28 (.callv (.t 23) [(.t 27,.as)]) 5] [] []) (.seq (rN [
 oN 4 (.move (iC 0)) 0] [4]) (kB [4] .ret))))))))))) }
theorem ok107:fnSoundB Go.Proofs.Tryz.prog 107 F107=true:=by decide +kernel
def F108:LFunc:={ nparams:=4,results:=[.tmp 8],pure:=false,body :=
 (.seq (rN [
 oN 8 (.move (iC 0)) 0] [0,1,2,3]) (.seq (rN [
 oM 13 0 0,oM 14 1 1,oN 15 (.call 127 [(.t 13,.as),(.t 14,.as)]) 2,oM 12 15 3,oN 16 (.extract (.t 12) 0) 4,oN 17 (.extract (.t 12) 1) 5,oM 9 16 6,oM 10 17 7] [2,3,9,10]) (.seq (.block 0 (.seq (rN [
 oM 19 10 0,oN 20 (.eq .i true (.t 19) (iC 0)) 1,oM 18 20 2] [2,3,9,10,18]) (.seq (.cond (.t 18) (.seq (rN [
 oM 21 10 0,oM 8 21 1] [8]) (kB [8] .ret)) (.seq (rN [
 oM 23 2 0,oN 24 (.pcall 117 [(.t 23,.as)]) 1,oN 25 (.un .not (.t 24)) 2,oM 22 25 3] [2,3,9,22]) (.seq (.cond (.t 22) (.seq (rN [
 oN 8 (.move (iC 8)) 0] [8]) (kB [8] .ret)) (.seq (rN [
 oM 27 3 0,oN 28 (.pcall 118 [(.t 27,.as)]) 1,oN 29 (.un .not (.t 28)) 2,oM 26 29 3] [2,3,9,26]) (.seq (.cond (.t 26) (.seq (rN [
 oN 8 (.move (iC 3)) 0] [8]) (kB [8] .ret)) (kS [2,3,9])) (kS [2,3,9])))) (kS [2,3,9])))) (kS [2,3,9])))) (kB [2,3,9] (.seq (rN [
 oM 30 9 0,oN 31 (.nilCheck (.t 30)) 1,oN 32 (fA 4 31) 2,oN 33 (lD 32) 3,oM 34 2 4,oM 35 3 5,oN 36 (.pcall 125 [(.t 33,.as),(.t 34,.as),(.t 35,.as)]) 6,oM 11 36 7] [9,11]) (.seq (rN [
 oM 37 11 0,oN 38 (.len 1 (.t 37)) 1,oN 39 (.bin .gtr (.t 38) (iC 64)) 2] [9,11,39]) (.seq (.cond (.t 39) (.seq (rN [
 oN 8 (.move (iC 12)) 0] [8]) (kB [8] .ret)) (kS [9,11])) (kB [9,11] (.seq (rN [
 oM 40 9 0,oM 41 11 1,oN 42 (.nilCheck (.t 40)) 2,oN 43 (fA 4 42) 3,⟨none,.store 1 false (.t 43) (.t 41),none,4,[]⟩] []) (.seq (rN [
 oN 8 (.move (iC 0)) 0] [8]) (kB [8] .ret))))))))))) }
theorem ok108:fnSoundB Go.Proofs.Tryz.prog 108 F108=true:=by decide +kernel
def F109:LFunc:={ nparams:=3,results:=[.tmp 6],pure:=false,body :=
 (.seq (rN [
 oN 6 (.move (iC 0)) 0] [0,1,2]) (.seq (rN [
 oM 12 0 0,oM 13 1 1,oN 14 (.call 127 [(.t 12,.as),(.t 13,.as)]) 2,oM 11 14 3,oN 15 (.extract (.t 11) 0) 4,oN 16 (.extract (.t 11) 1) 5,oM 7 15 6,oM 8 16 7] [2,7,8]) (.seq (rN [
 oM 17 8 0,oN 18 (.eq .i true (.t 17) (iC 0)) 1] [2,7,8,18]) (.seq (.cond (.t 18) (.seq (rN [
 oM 19 8 0,oM 6 19 1] [6]) (kB [6] .ret)) (kS [2,7])) (kB [2,7] (.seq (rN [
 oM 21 7 0,oN 22 (.nilCheck (.t 21)) 1,oN 23 (fA 4 22) 2,oN 24 (lD 23) 3,oM 25 2 4,oN 26 (.pcall 126 [(.t 24,.as),(.t 25,.as)]) 5,oM 20 26 6,oN 27 (.extract (.t 20) 0) 7,oN 28 (.extract (.t 20) 1) 8,oM 9 27 9,oM 10 28 10] [7,9,10]) (.seq (rN [
 oM 29 10 0,oN 30 (.un .not (.t 29)) 1] [7,9,30]) (.seq (.cond (.t 30) (.seq (rN [
 oN 6 (.move (iC 8)) 0] [6]) (kB [6] .ret)) (kS [7,9])) (kB [7,9] (.seq (rN [
 oM 31 7 0,oM 32 9 1,oN 33 (.nilCheck (.t 31)) 2,oN 34 (fA 4 33) 3,⟨none,.store 1 false (.t 34) (.t 32),none,4,[]⟩] []) (.seq (rN [
 oN 6 (.move (iC 0)) 0] [6]) (kB [6] .ret)))))))))))) }
theorem ok109:fnSoundB Go.Proofs.Tryz.prog 109 F109=true:=by decide +kernel
def F110:LFunc:={ nparams:=3,results:=[.tmp 6],pure:=false,body :=
 (.seq (rN [
 oN 6 (.move (iC 0)) 0] [0,1,2]) (.seq (rN [
 oM 10 0 0,oM 11 1 1,oN 12 (.call 127 [(.t 10,.as),(.t 11,.as)]) 2,oM 9 12 3,oN 13 (.extract (.t 9) 0) 4,oN 14 (.extract (.t 9) 1) 5,oM 7 13 6,oM 8 14 7] [2,7,8]) (.seq (.block 0 (.seq (rN [
 oM 16 8 0,oN 17 (.eq .i true (.t 16) (iC 0)) 1,oM 15 17 2] [2,7,8,15]) (.seq (.cond (.t 15) (.seq (rN [
 oM 18 8 0,oM 6 18 1] [6]) (kB [6] .ret)) (.seq (rN [
 oM 20 2 0,oN 21 (.pcall 118 [(.t 20,.as)]) 1,oN 22 (.un .not (.t 21)) 2,oM 19 22 3] [2,7,19]) (.seq (.cond (.t 19) (.seq (rN [
 oN 6 (.move (iC 3)) 0] [6]) (kB [6] .ret)) (kS [2,7])) (kS [2,7])))) (kS [2,7])))) (kB [2,7] (.seq (rN [
 oM 23 7 0,oM 24 2 1,oN 25 (.nilCheck (.t 23)) 2,oN 26 (fA 3 25) 3,⟨none,.store 1 false (.t 26) (.t 24),none,4,[]⟩] []) (.seq (rN [
 oN 6 (.move (iC 0)) 0] [6]) (kB [6] .ret))))))) }
theorem ok110:fnSoundB Go.Proofs.Tryz.prog 110 F110=true:=by decide +kernel
def F111:LFunc:={ nparams:=2,results:=[.tmp 4],pure:=true,body :=
 (.seq (rN [
 oN 4 (.move (.c (.bool false))) 0] [0,1]) (.seq (rN [
 oM 5 0 0,oN 6 (.bin .geq (.t 5) (.c (.int .u8 97))) 1,oM 7 6 2,oG 8 (.move (.t 0)) 7 true 3,oG 9 (.bin .leq (.t 8) (.c (.int .u8 122))) 7 true 4,oN 10 (.pick (.t 7) (.t 9) (.c (.bool false))) 5,oM 11 10 6,oG 12 (.move (.t 0)) 11 false 7,oG 13 (.bin .geq (.t 12) (.c (.int .u8 48))) 11 false 8,oG 14 (.move (.t 13)) 11 false 9,oG 15 (.move (.t 0)) 14 true 10,oG 16 (.bin .leq (.t 15) (.c (.int .u8 57))) 14 true 11,oG 17 (.pick (.t 14) (.t 16) (.c (.bool false))) 11 false 12,oN 18 (.pick (.t 11) (.c (.bool true)) (.t 17)) 13,oM 19 18 14,oG 20 (.move (.t 0)) 19 false 15,oG 21 (.eq .i false (.t 20) (.c (.int .u8 45))) 19 false 16,oN 22 (.pick (.t 19) (.c (.bool true)) (.t 21)) 17,oM 23 22 18,oG 24 (.move (.t 1)) 23 false 19,oG 25 (.move (.t 24)) 23 false 20,oG 26 (.move (.t 0)) 25 true 21,oG 27 (.eq .i false (.t 26) (.c (.int .u8 58))) 25 true 22,oG 28 (.move (.t 27)) 25 true 23,oG 29 (.move (.t 0)) 28 false 24,oG 30 (.eq .i false (.t 29) (.c (.int .u8 46))) 28 false 25,oG 31 (.pick (.t 28) (.c (.bool true)) (.t 30)) 25 true 26,oG 32 (.pick (.t 25) (.t 31) (.c (.bool false))) 23 false 27,oN 33 (.pick (.t 23) (.c (.bool true)) (.t 32)) 28,oM 4 33 29] [4]) (kB [4] .ret))) }
theorem ok111:fnSoundB Go.Proofs.Tryz.prog 111 F111=true:=by decide +kernel
def B112x0:LCode :=
 (.seq (rN [
 oM 6 5 0,oM 7 0 1,oN 8 (.len 0 (.t 7)) 2,oN 9 (.bin .lss (.t 6) (.t 8)) 3,oM 10 9 4,oG 11 (.move (.t 5)) 10 true 5,oG 12 (.move (.t 1)) 10 true 6,oG 13 (.len 0 (.t 12)) 10 true 7,oG 14 (.bin .lss (.t 11) (.t 13)) 10 true 8,oN 15 (.pick (.t 10) (.t 14) (.c (.bool false))) 9] [0,1,5,15]) (.seq (.cond (.t 15) (kS [0,1,5]) (kB [0,1] (.exit 0))) (kB [0,1,5] (.seq (.block 1 (.seq (.region [
 oM 18 0 0,oM 19 5 1,oN 20 (.index (.t 18) (.t 19)) 2,oM 21 1 3,oM 22 5 4,oN 23 (.index (.t 21) (.t 22)) 5,oN 24 (.bin .lss (.t 20) (.t 23)) 6] true [0,1,5,24] []) (.seq (.cond (.t 24) (.seq (rN [
 oN 4 (.move (iC (-1))) 0] [4]) (kB [4] .ret)) (kS [0,1,5])) (kB [0,1,5] (.seq (.region [
 oM 25 0 0,oM 26 5 1,oN 27 (.index (.t 25) (.t 26)) 2,oM 28 1 3,oM 29 5 4,oN 30 (.index (.t 28) (.t 29)) 5,oN 31 (.bin .gtr (.t 27) (.t 30)) 6] true [0,1,5,31] []) (.seq (.cond (.t 31) (.seq (rN [
 oN 4 (.move (iC 1)) 0] [4]) (kB [4] .ret)) (kS [0,1,5])) (kS [0,1,5]))))))) (kB [0,1,5] (.seq (rN [
 oM 16 5 0,oN 17 (.bin .add (.t 16) (iC 1)) 1,oM 5 17 2] [0,1,5]) (kS [0,1,5])))))))
def F112:LFunc:={ nparams:=2,results:=[.tmp 4],pure:=true,body :=
 (.seq (rN [
 oN 4 (.move (iC 0)) 0] [0,1]) (.seq (rN [
 oN 5 (.move (iC 0)) 0] [0,1,5]) (.seq (.block 0 (.seq (kB [0,1,5] (.loop B112x0)) (kS [0,1]))) (kB [0,1] (.seq (rN [
 oM 32 0 0,oN 33 (.len 0 (.t 32)) 1,oM 34 1 2,oN 35 (.len 0 (.t 34)) 3,oN 36 (.bin .lss (.t 33) (.t 35)) 4] [0,1,36]) (.seq (.cond (.t 36) (.seq (rN [
 oN 4 (.move (iC (-1))) 0] [4]) (kB [4] .ret)) (kS [0,1])) (kB [0,1] (.seq (rN [
 oM 37 0 0,oN 38 (.len 0 (.t 37)) 1,oM 39 1 2,oN 40 (.len 0 (.t 39)) 3,oN 41 (.bin .gtr (.t 38) (.t 40)) 4] [41]) (.seq (.cond (.t 41) (.seq (rN [
 oN 4 (.move (iC 1)) 0] [4]) (kB [4] .ret)) (kS [])) (kB [] (.seq (rN [
 oN 4 (.move (iC 0)) 0] [4]) (kB [4] .ret)))))))))))) }
theorem ok112:fnSoundB Go.Proofs.Tryz.prog 112 F112=true:=by decide +kernel
def F113:LFunc:={ nparams:=1,results:=[.tmp 2],pure:=true,body :=
 (.seq (rN [
 oN 2 (.move (.c (.bool false))) 0] [0]) (.seq (rN [
 oM 3 0 0,oN 4 (.bin .geq (.t 3) (iC 0)) 1,oM 5 4 2,oG 6 (.move (.t 0)) 5 true 3,oG 7 (.bin .leq (.t 6) (iC 4294967295)) 5 true 4,oN 8 (.pick (.t 5) (.t 7) (.c (.bool false))) 5,oM 2 8 6] [2]) (kB [2] .ret))) }
theorem ok113:fnSoundB Go.Proofs.Tryz.prog 113 F113=true:=by decide +kernel
def F114:LFunc:={ nparams:=2,results:=[.tmp 4],pure:=true,body :=
 (.seq (.region [
 oN 2 (.box false 2 (.t 0)) 0,oN 3 (.box false 3 (.t 1)) 1,oN 4 (.move (.c (.bool false))) 2] false [2,3] [2,3]) (.seq (.region [
 oN 6 (fA 8 2) 0,oN 7 (lD 6) 1,oN 8 (fA 8 3) 2,oN 9 (lD 8) 3,oN 10 (.pcall 165 [(.t 7,.as),(.t 9,.as)]) 4,oN 11 (.un .not (.t 10)) 5] false [2,3,11] [2,3]) (.seq (.cond (.t 11) (.seq (rN [
 oN 4 (.move (.c (.bool false))) 0] [4]) (kB [4] .ret)) (.keep [2,3] [2,3] .skip)) (.keep [2,3] [2,3] (.seq (.region [
 oN 5 (.move (.f 166)) 0] false [2,3,5] [2,3]) (.seq (.draw [
 oM 12 5 0,oN 13 (.load 9 true (.t 2)) 1,oM 15 5 3,oN 16 (.load 9 true (.t 3)) 4,⟨some 14,.callv (.t 12) [(.t 13,.as)],none,2,[4]⟩,oN 17 (.callv (.t 15) [(.t 16,.as)]) 5,oN 18 (.eq (.st [2,2,2,2,2,2,2,2,2]) false (.t 14) (.t 17)) 6,oM 4 18 7] [4] []) (kB [4] .ret))))))) }
theorem ok114:fnSoundB Go.Proofs.Tryz.prog 114 F114=true:=by decide +kernel
def F115:LFunc:={ nparams:=1,results:=[.cell 2 9 true],pure:=true,body :=
 (.seq (.region [
 oN 1 (.box false 1 (.t 0)) 0,oN 2 (.alloc false 2 [.p (.int .i64 0),.p (.int .i64 0),.p (.int .i64 0),.p (.int .i64 0),.p (.str []),.p (.str []),.p (.str []),.p (.str []),.p (.list [])] []) 1] false [1,2] [1,2]) (.seq (.region [
 oN 4 (fA 0 1) 0,oN 5 (lD 4) 1,oN 6 (.build [.p (.int .i64 0),.p (.int .i64 0),.p (.int .i64 0),.p (.int .i64 0),.p (.str []),.p (.str []),.p (.str []),.p (.str []),.p (.list [])] [(0,1,.t 5)]) 2,oN 3 (.alloc false 3 [.p (.int .i64 0),.p (.int .i64 0),.p (.int .i64 0),.p (.int .i64 0),.p (.str []),.p (.str []),.p (.str []),.p (.str []),.p (.list [])] []) 3,⟨none,.store 9 true (.t 3) (.t 6),none,4,[]⟩] false [1,2,3] [1,2,3]) (.seq (.region [
 oN 7 (fA 0 1) 0,oN 8 (lD 7) 1] false [1,2,3,8] [1,2,3]) (.seq (.block 0 (.seq (.block 6 (.seq (.block 5 (.seq (.block 4 (.seq (.block 3 (.seq (.block 2 (.seq (.block 1 (.seq (.region [
 oN 10 (.eq .i false (.t 8) (iC 1)) 0,oM 9 10 1] false [1,2,3,8,9] [1,2,3]) (.seq (.cond (.t 9) (.keep [1,2,3] [1,2,3] (.exit 1)) (.keep [1,2,3,8] [1,2,3] .skip)) (.keep [1,2,3,8] [1,2,3] (.seq (.region [
 oN 12 (.eq .i false (.t 8) (iC 2)) 0,oM 11 12 1] false [1,2,3,8,11] [1,2,3]) (.seq (.cond (.t 11) (.keep [1,2,3] [1,2,3] (.exit 2)) (.keep [1,2,3,8] [1,2,3] .skip)) (.keep [1,2,3,8] [1,2,3] (.seq (.region [
 oN 14 (.eq .i false (.t 8) (iC 3)) 0,oM 13 14 1] false [1,2,3,8,13] [1,2,3]) (.seq (.cond (.t 13) (.keep [1,2,3] [1,2,3] (.exit 3)) (.keep [1,2,3,8] [1,2,3] .skip)) (.keep [1,2,3,8] [1,2,3] (.seq (.region [
 oN 16 (.eq .i false (.t 8) (iC 5)) 0,oM 15 16 1] false [1,2,3,8,15] [1,2,3]) (.seq (.cond (.t 15) (.keep [1,2,3] [1,2,3] (.exit 4)) (.keep [1,2,3,8] [1,2,3] .skip)) (.keep [1,2,3,8] [1,2,3] (.seq (.region [
 oN 18 (.eq .i false (.t 8) (iC 7)) 0,oM 17 18 1] false [1,2,3,8,17] [1,2,3]) (.seq (.cond (.t 17) (.keep [1,2,3] [1,2,3] (.exit 5)) (.keep [1,2,3,8] [1,2,3] .skip)) (.keep [1,2,3,8] [1,2,3] (.seq (.region [
 oN 20 (.eq .i false (.t 8) (iC 6)) 0,oM 19 20 1] false [1,2,3,19] [1,2,3]) (.seq (.cond (.t 19) (.keep [1,2,3] [1,2,3] (.exit 6)) (.keep [1,2,3] [1,2,3] .skip)) (.keep [1,2,3] [1,2,3] (.exit 0)))))))))))))))))))) (.keep [1,2,3] [1,2,3] (.seq (.draw [
 oN 21 (fA 4 1) 0,oN 22 (lD 21) 1,oN 23 (fA 5 1) 2,oN 24 (lD 23) 3,oN 25 (fA 7 1) 4,oN 26 (lD 25) 5,oN 27 (fA 8 1) 6,oN 28 (lD 27) 7,oN 29 (fA 4 3) 8,⟨none,.store 1 false (.t 29) (.t 22),none,9,[3,5,7]⟩,oN 30 (fA 5 3) 10,⟨none,.store 1 false (.t 30) (.t 24),none,11,[5,7]⟩,oN 31 (fA 7 3) 12,⟨none,.store 1 false (.t 31) (.t 26),none,13,[7]⟩,oN 32 (fA 8 3) 14,⟨none,.store 1 false (.t 32) (.t 28),none,15,[]⟩] [2,3] [2,3]) (.seq (.region [
 oN 33 (.load 9 true (.t 3)) 0,⟨none,.store 9 true (.t 2) (.t 33),none,1,[]⟩] false [2] [2]) (.seq (.keep [2] [2] .ret) (.keep [1,2,3] [1,2,3] (.exit 0)))))))) (.keep [1,2,3] [1,2,3] (.seq (.region [
 oN 34 (fA 2 1) 0,oN 35 (lD 34) 1,oN 36 (fA 2 3) 2,⟨none,.store 1 false (.t 36) (.t 35),none,3,[]⟩] false [1,2,3] [1,2,3]) (.keep [1,2,3] [1,2,3] .skip))))) (.keep [1,2,3] [1,2,3] (.seq (.region [
 oN 37 (fA 3 1) 0,oN 38 (lD 37) 1,oN 39 (fA 3 3) 2,⟨none,.store 1 false (.t 39) (.t 38),none,3,[]⟩] false [1,2,3] [1,2,3]) (.keep [1,2,3] [1,2,3] (.exit 0)))))) (.keep [1,2,3] [1,2,3] (.seq (.region [
 oN 40 (fA 6 1) 0,oN 41 (lD 40) 1,oN 42 (fA 6 3) 2,⟨none,.store 1 false (.t 42) (.t 41),none,3,[]⟩] false [1,2,3] [1,2,3]) (.keep [1,2,3] [1,2,3] .skip))))) (.keep [1,2,3] [1,2,3] (.seq (.region [
 oN 43 (fA 7 1) 0,oN 44 (lD 43) 1,oN 45 (fA 7 3) 2,⟨none,.store 1 false (.t 45) (.t 44),none,3,[]⟩] false [1,2,3] [1,2,3]) (.keep [1,2,3] [1,2,3] (.exit 0)))))) (.keep [1,2,3] [1,2,3] (.seq (.region [
 oN 46 (fA 6 1) 0,oN 47 (lD 46) 1,oN 48 (fA 6 3) 2,⟨none,.store 1 false (.t 48) (.t 47),none,3,[]⟩] false [1,2,3] [1,2,3]) (.keep [1,2,3] [1,2,3] (.exit 0)))))) (.keep [1,2,3] [1,2,3] (.seq (.region [
 oN 49 (fA 1 1) 0,oN 50 (lD 49) 1,oN 51 (fA 1 3) 2,⟨none,.store 1 false (.t 51) (.t 50),none,3,[]⟩] false [2,3] [2,3]) (.seq (.region [
 oN 52 (.load 9 true (.t 3)) 0,⟨none,.store 9 true (.t 2) (.t 52),none,1,[]⟩] false [2] [2]) (.keep [2] [2] .ret)))))))) }
theorem ok115:fnSoundB Go.Proofs.Tryz.prog 115 F115=true:=by decide +kernel
def F116:LFunc:={ nparams:=1,results:=[.tmp 2],pure:=true,body :=
 (.seq (rN [
 oN 2 (.move (.c (.bool false))) 0] [0]) (.seq (rN [
 oM 3 0 0,oN 4 (.pcall 168 [(.t 3,.as),(.c (.str [45]),.as)]) 1,oM 2 4 2] [2]) (kB [2] .ret))) }
theorem ok116:fnSoundB Go.Proofs.Tryz.prog 116 F116=true:=by decide +kernel
def F117:LFunc:={ nparams:=1,results:=[.tmp 2],pure:=true,body :=
 (.seq (rN [
 oN 2 (.move (.c (.bool false))) 0] [0]) (.seq (rN [
 oM 3 0 0,oN 4 (.pcall 168 [(.t 3,.as),(.c (.str [45,58,46]),.as)]) 1,oM 2 4 2] [2]) (kB [2] .ret))) }
theorem ok117:fnSoundB Go.Proofs.Tryz.prog 117 F117=true:=by decide +kernel
def F118:LFunc:={ nparams:=1,results:=[.tmp 2],pure:=true,body :=
 (.seq (rN [
 oN 2 (.move (.c (.bool false))) 0] [0]) (.seq (rN [
 oM 3 0 0,oN 4 (.len 0 (.t 3)) 1,oN 5 (.bin .leq (.t 4) (iC 65536)) 2,oM 2 5 3] [2]) (kB [2] .ret))) }
theorem ok118:fnSoundB Go.Proofs.Tryz.prog 118 F118=true:=by decide +kernel
def B119x0:LCode :=
 (.seq (rN [
 oN 10 (.bin .lss (.t 9) (.t 8)) 0] [0,7,8,9,10]) (.seq (.cond (.t 10) (kS [0,7,8,9]) (kB [] (.exit 0))) (kB [0,7,8,9] (.seq (.block 1 (.seq (.region [
 oM 11 9 0,oN 12 (.indexAddr 2 (.t 7) (.t 9)) 1,oN 13 (.load 2 true (.t 12)) 2,oN 5 (.alloc false 5 [.p (.str []),.p (.str [])] []) 3,oM 4 11 4,⟨none,.store 2 true (.t 5) (.t 13),none,5,[]⟩] false [0,4,5,7,8,9] [5]) (.seq (.region [
 oN 6 (.move (iC 0)) 0] false [0,4,5,6,7,8,9] [5]) (.seq (.block 2 (.seq (.region [
 oM 15 4 0,oN 16 (.eq .i false (.t 15) (iC 64)) 1,oM 14 16 2] false [0,4,5,6,7,8,9,14] [5]) (.seq (.cond (.t 14) (.seq (rN [
 oN 6 (.move (iC 12)) 0] [0,4,6,7,8,9]) (kS [0,4,6,7,8,9])) (.seq (.region [
 oN 18 (fA 0 5) 0,oN 19 (lD 18) 1,oN 20 (.pcall 117 [(.t 19,.as)]) 2,oN 21 (.un .not (.t 20)) 3,oM 17 21 4] false [0,4,5,6,7,8,9,17] [5]) (.seq (.cond (.t 17) (.seq (rN [
 oN 6 (.move (iC 8)) 0] [0,4,6,7,8,9]) (kS [0,4,6,7,8,9])) (.seq (.region [
 oN 23 (fA 1 5) 0,oN 24 (lD 23) 1,oN 25 (.pcall 118 [(.t 24,.as)]) 2,oN 26 (.un .not (.t 25)) 3,oM 22 26 4] false [0,4,5,6,7,8,9,22] [5]) (.seq (.cond (.t 22) (.seq (rN [
 oN 6 (.move (iC 3)) 0] [0,4,6,7,8,9]) (kS [0,4,6,7,8,9])) (.seq (.region [
 oM 28 4 0,oN 29 (.bin .gtr (.t 28) (iC 0)) 1,oM 30 29 2,oG 31 (.move (.t 0)) 30 true 3,oG 32 (.move (.t 4)) 30 true 4,oG 33 (.bin .sub (.t 32) (iC 1)) 30 true 5,oG 34 (.indexAddr 2 (.t 31) (.t 33)) 30 true 6,oG 35 (fA 0 34) 30 true 7,oG 36 (lD 35) 30 true 8,oG 37 (fA 0 5) 30 true 9,oG 38 (lD 37) 30 true 10,oG 39 (.eq .s false (.t 36) (.t 38)) 30 true 11,oN 40 (.pick (.t 30) (.t 39) (.c (.bool false))) 12,oM 27 40 13] true [0,4,5,6,7,8,9,27] [5]) (.seq (.cond (.t 27) (.seq (rN [
 oN 6 (.move (iC 10)) 0] [0,4,6,7,8,9]) (kS [0,4,6,7,8,9])) (.seq (.region [
 oM 42 4 0,oN 43 (.bin .gtr (.t 42) (iC 0)) 1,oM 44 43 2,oG 45 (.move (.t 0)) 44 true 3,oG 46 (.move (.t 4)) 44 true 4,oG 47 (.bin .sub (.t 46) (iC 1)) 44 true 5,oG 48 (.indexAddr 2 (.t 45) (.t 47)) 44 true 6,oG 49 (fA 0 48) 44 true 7,oG 50 (lD 49) 44 true 8,oG 51 (fA 0 5) 44 true 9,oG 52 (lD 51) 44 true 10,oG 53 (.bin .gtr (.t 50) (.t 52)) 44 true 11,oN 54 (.pick (.t 44) (.t 53) (.c (.bool false))) 12,oM 41 54 13] true [0,4,6,7,8,9,41] []) (.seq (.cond (.t 41) (.seq (rN [
 oN 6 (.move (iC 9)) 0] [0,4,6,7,8,9]) (kS [0,4,6,7,8,9])) (kS [0,4,6,7,8,9])) (kS [0,4,6,7,8,9])))) (kS [0,4,6,7,8,9])))) (kS [0,4,6,7,8,9])))) (kS [0,4,6,7,8,9])))) (kS [0,4,6,7,8,9])))) (kB [0,4,6,7,8,9] (.seq (rN [
 oM 55 6 0,oN 56 (.eq .i true (.t 55) (iC 0)) 1] [0,4,6,7,8,9,56]) (.seq (.cond (.t 56) (.seq (rN [
 oM 57 4 0,oM 58 6 1,oM 2 57 2,oM 3 58 3] [2,3]) (kB [2,3] .ret)) (kS [0,7,8,9])) (kS [0,7,8,9])))))))) (kB [0,7,8,9] (.seq (rN [
 oN 59 (.bin .add (.t 9) (iC 1)) 0,oM 9 59 1] [0,7,8,9]) (kS [0,7,8,9])))))))
def F119:LFunc:={ nparams:=1,results:=[.tmp 2,.tmp 3],pure:=true,body :=
 (.seq (rN [
 oN 2 (.move (iC 0)) 0,oN 3 (.move (iC 0)) 1] [0]) (.seq (rN [
 oM 7 0 0,oN 8 (.len 1 (.t 7)) 1,oN 9 (.move (iC 0)) 2] [0,7,8,9]) (.seq (.block 0 (.seq (kB [0,7,8,9] (.loop B119x0)) (kS []))) (kB [] (.seq (rN [
 oN 2 (.move (iC 0)) 0,oN 3 (.move (iC 0)) 1] [2,3]) (kB [2,3] .ret)))))) }
theorem ok119:fnSoundB Go.Proofs.Tryz.prog 119 F119=true:=by decide +kernel
def F125:LFunc:={ nparams:=3,results:=[.tmp 6],pure:=true,body :=
 (.seq (rN [
 oN 6 (.move (.c (.list []))) 0] [0,1,2]) (.seq (rN [
 oM 11 0 0,oM 12 1 1,oN 13 (.pcall 171 [(.t 11,.as),(.t 12,.as)]) 2,oM 10 13 3,oN 14 (.extract (.t 10) 0) 4,oN 15 (.extract (.t 10) 1) 5,oM 7 14 6,oM 8 15 7] [0,1,2,7,8]) (.seq (rN [
 oM 16 0 0,oN 17 (.call 56 [(.t 16,.as)]) 1,oM 9 17 2] [1,2,7,8,9]) (.seq (rN [
 oM 18 8 0] [1,2,7,9,18]) (.seq (.cond (.t 18) (.seq (rN [
 oM 19 9 0,oM 20 7 1,oM 21 2 2,oN 22 (.indexAddr 2 (.t 19) (.t 20)) 3,oN 23 (fA 1 22) 4,⟨none,.store 1 false (.t 23) (.t 21),none,5,[]⟩] [9]) (.seq (rN [
 oM 24 9 0,oM 6 24 1] [6]) (kB [6] .ret))) (kS [1,2,7,9])) (kB [1,2,7,9] (.seq (rN [
 oM 25 9 0,oM 26 7 1,oM 27 1 2,oM 28 2 3,oN 29 (.build [.p (.str []),.p (.str [])] [(0,1,.t 27),(1,1,.t 28)]) 4,oN 30 (.row 2 [.t 29]) 5,oN 31 (.call 172 [(.t 25,.as),(.t 26,.as),(.t 30,.freeze)]) 6,oM 6 31 7] [6]) (kB [6] .ret)))))))) }
theorem ok125:fnSoundB Go.Proofs.Tryz.prog 125 F125=true:=by decide +kernel
def F126:LFunc:={ nparams:=2,results:=[.tmp 4,.tmp 5],pure:=true,body :=
 (.seq (rN [
 oN 3 (.box true 3 (.t 1)) 0,oN 4 (.move (.c (.list []))) 1,oN 5 (.move (.c (.bool false))) 2] [0,3]) (.seq (rN [
 oM 7 0 0,oN 8 (.call 56 [(.t 7,.as)]) 1,oN 9 (.makeFunc 174 [.t 3]) 2,oN 10 (.call 173 [(.t 8,.as),(.t 9,.as)]) 3,oM 6 10 4] [0,6]) (.seq (rN [
 oM 11 6 0,oM 12 6 1,oN 13 (.len 1 (.t 12)) 2,oM 14 0 3,oN 15 (.len 1 (.t 14)) 4,oN 16 (.bin .lss (.t 13) (.t 15)) 5,oM 4 11 6,oM 5 16 7] [4,5]) (kB [4,5] .ret)))) }
theorem ok126:fnSoundB Go.Proofs.Tryz.prog 126 F126=true:=by decide +kernel
def F127:LFunc:={ nparams:=2,results:=[.tmp 4,.tmp 5],pure:=false,body :=
 (.seq (rN [
 oN 4 (.move (.c (.nilp))) 0,oN 5 (.move (iC 0)) 1] [0,1]) (.seq (.block 0 (.seq (rN [
 oM 8 0 0,oN 9 (.eq .ptr false (.t 8) (.c (.nilp))) 1,oM 7 9 2] [0,1,7]) (.seq (.cond (.t 7) (.seq (rN [
 oN 4 (.move (.c (.nilp))) 0,oN 5 (.move (iC 1)) 1] [4,5]) (kB [4,5] .ret)) (.seq (rN [
 oM 11 1 0,oN 12 (.eq .i false (.t 11) (iC 0)) 1,oM 10 12 2] [0,1,10]) (.seq (.cond (.t 10) (.seq (rN [
 oN 4 (.move (.c (.nilp))) 0,oN 5 (.move (iC 14)) 1] [4,5]) (kB [4,5] .ret)) (kS [0,1])) (kS [0,1])))) (kS [0,1])))) (kB [0,1] (.seq (rN [
 oM 13 0 0,oN 14 (.nilCheck (.t 13)) 1,oN 15 (fA 0 14) 2,oN 16 (lD 15) 3,oM 17 1 4,oN 18 (.lookup 1 (.nilp) false (.t 16) (.t 17)) 5,oM 6 18 6] [6]) (.seq (rN [
 oM 19 6 0,oN 20 (.eq .ptr false (.t 19) (.c (.nilp))) 1] [6,20]) (.seq (.cond (.t 20) (.seq (rN [
 oN 4 (.move (.c (.nilp))) 0,oN 5 (.move (iC 13)) 1] [4,5]) (kB [4,5] .ret)) (kS [6])) (kB [6] (.seq (rN [
 oM 21 6 0,oM 4 21 1,oN 5 (.move (iC 0)) 2] [4,5]) (kB [4,5] .ret))))))))) }
theorem ok127:fnSoundB Go.Proofs.Tryz.prog 127 F127=true:=by decide +kernel
def F128:LFunc:={ nparams:=2,results:=[.tmp 4,.tmp 5],pure:=false,body :=
 (.seq (rN [
 oN 4 (.move (.c (.nilp))) 0,oN 5 (.move (iC 0)) 1] [0,1]) (.seq (rN [
 oM 8 1 0,oN 9 (.eq .i false (.t 8) (iC 0)) 1] [0,1,9]) (.seq (.cond (.t 9) (.seq (rN [
 oN 4 (.move (.c (.nilp))) 0,oN 5 (.move (iC 0)) 1] [4,5]) (kB [4,5] .ret)) (kS [0,1])) (kB [0,1] (.seq (rN [
 oM 11 0 0,oM 12 1 1,oN 13 (.call 127 [(.t 11,.as),(.t 12,.as)]) 2,oM 10 13 3,oN 14 (.extract (.t 10) 0) 4,oN 15 (.extract (.t 10) 1) 5,oM 6 14 6,oM 7 15 7] [6,7]) (.seq (rN [
 oM 16 7 0,oN 17 (.eq .i true (.t 16) (iC 0)) 1] [6,7,17]) (.seq (.cond (.t 17) (.seq (rN [
 oM 18 7 0,oN 4 (.move (.c (.nilp))) 1,oM 5 18 2] [4,5]) (kB [4,5] .ret)) (kS [6])) (kB [6] (.seq (rN [
 oM 19 6 0,oN 20 (.nilCheck (.t 19)) 1,oN 21 (fA 0 20) 2,oN 22 (lD 21) 3,oM 4 22 4,oN 5 (.move (iC 0)) 5] [4,5]) (kB [4,5] .ret)))))))))) }
theorem ok128:fnSoundB Go.Proofs.Tryz.prog 128 F128=true:=by decide +kernel
def F129:LFunc:={ nparams:=3,results:=[.tmp 6],pure:=false,body :=
 (.seq (rN [
 oN 6 (.move (iC 0)) 0] [0,1,2]) (.seq (.block 0 (.seq (rN [
 oM 8 0 0,oN 9 (.eq .ptr false (.t 8) (.c (.nilp))) 1,oM 10 9 2,oG 11 (.move (.t 1)) 10 false 3,oG 12 (.eq .ptr false (.t 11) (.c (.nilp))) 10 false 4,oN 13 (.pick (.t 10) (.c (.bool true)) (.t 12)) 5,oM 7 13 6] [0,1,2,7]) (.seq (.cond (.t 7) (.seq (rN [
 oN 6 (.move (iC 1)) 0] [6]) (kB [6] .ret)) (.seq (rN [
 oM 15 1 0,oN 16 (.nilCheck (.t 15)) 1,oN 17 (fA 1 16) 2,oN 18 (lD 17) 3,oN 19 (.eq .ptr true (.t 18) (.c (.nilp))) 4,oM 14 19 5] [0,1,2,14]) (.seq (.cond (.t 14) (.seq (rN [
 oN 6 (.move (iC 15)) 0] [6]) (kB [6] .ret)) (.seq (rN [
 oM 21 0 0,oM 22 1 1,oN 23 (.call 175 [(.t 21,.as),(.t 22,.as)]) 2,oM 20 23 3] [0,1,2,20]) (.seq (.cond (.t 20) (.seq (rN [
 oN 6 (.move (iC 17)) 0] [6]) (kB [6] .ret)) (.seq (rN [
 oM 25 2 0,oN 26 (.eq .ptr true (.t 25) (.c (.nilp))) 1,oM 27 26 2,oG 28 (.move (.t 2)) 27 true 3,oG 29 (.nilCheck (.t 28)) 27 true 4,oG 30 (fA 1 29) 27 true 5,oG 31 (lD 30) 27 true 6,oG 32 (.move (.t 0)) 27 true 7,oG 33 (.eq .ptr true (.t 31) (.t 32)) 27 true 8,oN 34 (.pick (.t 27) (.t 33) (.c (.bool false))) 9,oM 24 34 10] [0,1,2,24]) (.seq (.cond (.t 24) (.seq (rN [
 oN 6 (.move (iC 18)) 0] [6]) (kB [6] .ret)) (kS [0,1,2])) (kS [0,1,2])))) (kS [0,1,2])))) (kS [0,1,2])))) (kS [0,1,2])))) (kB [0,1,2] (.seq (rN [
 oM 35 1 0,oM 36 1 1,oM 37 0 2,oM 38 2 3,oN 39 (.nilCheck (.t 35)) 4,oN 40 (fA 1 39) 5,⟨none,.store 1 false (.t 40) (.t 37),none,6,[]⟩,oN 41 (.nilCheck (.t 36)) 7,oN 42 (fA 5 41) 8,⟨none,.store 1 false (.t 42) (.t 38),none,9,[]⟩] [0,1,2]) (.seq (rN [
 oM 43 2 0,oN 44 (.eq .ptr false (.t 43) (.c (.nilp))) 1] [0,1,2,44]) (.seq (.cond (.t 44) (.seq (rN [
 oM 45 1 0,oM 46 0 1,oN 47 (.nilCheck (.t 46)) 2,oN 48 (fA 3 47) 3,oN 49 (lD 48) 4,oN 50 (.nilCheck (.t 45)) 5,oN 51 (fA 4 50) 6,⟨none,.store 1 false (.t 51) (.t 49),none,7,[]⟩] [0,1]) (.seq (rN [
 oM 52 0 0,oM 53 1 1,oN 54 (.nilCheck (.t 52)) 2,oN 55 (fA 3 54) 3,⟨none,.store 1 false (.t 55) (.t 53),none,4,[]⟩] [0,1]) (kS [0,1]))) (.seq (rN [
 oM 56 1 0,oM 57 2 1,oN 58 (.nilCheck (.t 57)) 2,oN 59 (fA 4 58) 3,oN 60 (lD 59) 4,oN 61 (.nilCheck (.t 56)) 5,oN 62 (fA 4 61) 6,⟨none,.store 1 false (.t 62) (.t 60),none,7,[]⟩] [0,1,2]) (.seq (rN [
 oM 63 2 0,oM 64 1 1,oN 65 (.nilCheck (.t 63)) 2,oN 66 (fA 4 65) 3,⟨none,.store 1 false (.t 66) (.t 64),none,4,[]⟩] [0,1]) (kS [0,1])))) (kB [0,1] (.seq (rN [
 oM 67 1 0,oN 68 (.nilCheck (.t 67)) 1,oN 69 (fA 4 68) 2,oN 70 (lD 69) 3,oN 71 (.eq .ptr false (.t 70) (.c (.nilp))) 4] [0,1,71]) (.seq (.cond (.t 71) (.seq (rN [
 oM 72 0 0,oM 73 1 1,oN 74 (.nilCheck (.t 72)) 2,oN 75 (fA 2 74) 3,⟨none,.store 1 false (.t 75) (.t 73),none,4,[]⟩] []) (kS [])) (.seq (rN [
 oM 76 1 0,oN 77 (.nilCheck (.t 76)) 1,oN 78 (fA 4 77) 2,oN 79 (lD 78) 3,oM 80 1 4,oN 81 (.nilCheck (.t 79)) 5,oN 82 (fA 5 81) 6,⟨none,.store 1 false (.t 82) (.t 80),none,7,[]⟩] []) (kS []))) (kB [] (.seq (rN [
 oN 6 (.move (iC 0)) 0] [6]) (kB [6] .ret)))))))))))) }
theorem ok129:fnSoundB Go.Proofs.Tryz.prog 129 F129=true:=by decide +kernel
def F130:LFunc:={ nparams:=2,results:=[.tmp 4],pure:=false,body :=
 (.seq (rN [
 oN 4 (.move (iC 0)) 0] [0,1]) (.seq (rN [
 oM 5 1 0,oN 6 (.eq .i false (.t 5) (iC 0)) 1] [0,1,6]) (.seq (.cond (.t 6) (.seq (rN [
 oN 4 (.move (iC 14)) 0] [4]) (kB [4] .ret)) (kS [0,1])) (kB [0,1] (.seq (rN [
 oM 7 0 0,oM 8 1 1,oN 9 (.call 131 [(.t 7,.as),(.t 8,.as)]) 2,oN 10 (.bin .lss (.t 9) (iC 0)) 3] [10]) (.seq (.cond (.t 10) (.seq (rN [
 oN 4 (.move (iC 13)) 0] [4]) (kB [4] .ret)) (kS [])) (kB [] (.seq (rN [
 oN 4 (.move (iC 0)) 0] [4]) (kB [4] .ret))))))))) }
theorem ok130:fnSoundB Go.Proofs.Tryz.prog 130 F130=true:=by decide +kernel
def B131x0:LCode :=
 (.seq (rN [
 oN 12 (.bin .lss (.t 11) (.t 10)) 0] [0,1,10,11,12]) (.seq (.cond (.t 12) (kS [0,1,10,11]) (kB [] (.exit 0))) (kB [0,1,10,11] (.seq (.block 1 (.seq (rN [
 oM 13 11 0,oM 5 13 1] [0,1,5,10,11]) (.seq (rN [
 oM 14 0 0,oN 15 (.nilCheck (.t 14)) 1,oN 16 (fA 0 15) 2,oN 17 (lD 16) 3,oM 18 5 4,oN 19 (.indexAddr 7 (.t 17) (.t 18)) 5,oN 20 (fA 0 19) 6,oN 21 (lD 20) 7,oM 22 1 8,oN 23 (.eq .i false (.t 21) (.t 22)) 9] [0,1,5,10,11,23]) (.seq (.cond (.t 23) (.seq (rN [
 oM 24 5 0,oM 4 24 1] [4]) (kB [4] .ret)) (kS [0,1,10,11])) (kS [0,1,10,11]))))) (kB [0,1,10,11] (.seq (rN [
 oN 25 (.bin .add (.t 11) (iC 1)) 0,oM 11 25 1] [0,1,10,11]) (kS [0,1,10,11])))))))
def F131:LFunc:={ nparams:=2,results:=[.tmp 4],pure:=false,body :=
 (.seq (rN [
 oN 4 (.move (iC 0)) 0] [0,1]) (.seq (rN [
 oM 6 0 0,oN 7 (.nilCheck (.t 6)) 1,oN 8 (fA 0 7) 2,oN 9 (lD 8) 3,oN 10 (.len 1 (.t 9)) 4,oN 11 (.move (iC 0)) 5] [0,1,10,11]) (.seq (.block 0 (.seq (kB [0,1,10,11] (.loop B131x0)) (kS []))) (kB [] (.seq (rN [
 oN 4 (.move (iC (-1))) 0] [4]) (kB [4] .ret)))))) }
theorem ok131:fnSoundB Go.Proofs.Tryz.prog 131 F131=true:=by decide +kernel
def B132x0:LCode :=
 (.seq (rN [
 oM 7 1 0,oN 8 (.bin .geq (.t 7) (iC 0)) 1] [0,1,2,8]) (.seq (.cond (.t 8) (kS [0,1,2]) (kB [] (.exit 0))) (kB [0,1,2] (.seq (.block 1 (.seq (rN [
 oM 9 1 0,oM 10 2 1,oN 11 (.eq .i false (.t 9) (.t 10)) 2] [0,1,2,11]) (.seq (.cond (.t 11) (.seq (rN [
 oN 6 (.move (.c (.bool true))) 0] [6]) (kB [6] .ret)) (kS [0,1,2])) (kB [0,1,2] (.seq (.draw [
 oM 12 0 0,oN 13 (.nilCheck (.t 12)) 1,oN 14 (fA 0 13) 2,oN 15 (lD 14) 3,oM 16 0 4,oM 17 1 5,⟨some 18,.call 131 [(.t 16,.as),(.t 17,.as)],none,6,[3]⟩,oN 19 (.indexAddr 7 (.t 15) (.t 18)) 7,oN 20 (fA 1 19) 8,oN 21 (lD 20) 9,oM 1 21 10] [0,1,2] []) (kS [0,1,2])))))) (kS [0,1,2])))))
def F132:LFunc:={ nparams:=3,results:=[.tmp 6],pure:=false,body :=
 (.seq (rN [
 oN 6 (.move (.c (.bool false))) 0] [0,1,2]) (.seq (.block 0 (.seq (kB [0,1,2] (.loop B132x0)) (kS []))) (kB [] (.seq (rN [
 oN 6 (.move (.c (.bool false))) 0] [6]) (kB [6] .ret))))) }
theorem ok132:fnSoundB Go.Proofs.Tryz.prog 132 F132=true:=by decide +kernel
def F133:LFunc:={ nparams:=3,results:=[],pure:=false,body :=
 (.seq (.draw [
 oM 6 0 0,oN 7 (.nilCheck (.t 6)) 1,oN 8 (fA 0 7) 2,oN 9 (lD 8) 3,oM 10 0 4,oM 11 1 5,oM 13 2 7,⟨some 12,.call 131 [(.t 10,.as),(.t 11,.as)],none,6,[3]⟩,oN 14 (.indexAddr 7 (.t 9) (.t 12)) 8,oN 15 (fA 2 14) 9,⟨none,.store 1 false (.t 15) (.t 13),none,10,[]⟩] [] []) (kS [])) }
theorem ok133:fnSoundB Go.Proofs.Tryz.prog 133 F133=true:=by decide +kernel
def B134x0:LCode :=
 (.seq (.region [
 oN 12 (.bin .lss (.t 11) (.t 10)) 0] false [0,1,2,7,10,11,12] [1000]) (.seq (.cond (.t 12) (.keep [0,1,2,7,10,11] [1000] .skip) (.keep [1,2,7] [1000] (.exit 0))) (.keep [0,1,2,7,10,11] [1000] (.seq (.block 1 (.seq (.region [
 oM 13 11 0,oM 8 13 1] false [0,1,2,7,8,10,11] [1000]) (.seq (.region [
 oM 14 0 0,oM 15 8 1,oN 16 (.indexAddr 1 (.t 14) (.t 15)) 2,oN 17 (lD 16) 3,oM 18 2 4,oN 19 (.eq .i false (.t 17) (.t 18)) 5] false [0,1,2,7,8,10,11,19] [1000]) (.seq (.cond (.t 19) (.seq (.region [
 oM 20 7 0,oM 21 1 1,oN 22 (.row 1 [.t 21]) 2,oN 23 (.append false 1001 1 8 (.t 20) (.t 22)) 3,oM 7 23 4] false [0,1,2,7,8,10,11] [1000]) (.keep [0,1,2,7,8,10,11] [1000] .skip)) (.keep [0,1,2,7,8,10,11] [1000] .skip)) (.keep [0,1,2,7,8,10,11] [1000] (.seq (.region [
 oM 24 7 0,oM 25 0 1,oM 26 8 2,oN 27 (.indexAddr 1 (.t 25) (.t 26)) 3,oN 28 (lD 27) 4,oN 29 (.row 1 [.t 28]) 5,oN 30 (.append false 1002 1 8 (.t 24) (.t 29)) 6,oM 7 30 7] false [0,1,2,7,10,11] [1000]) (.keep [0,1,2,7,10,11] [1000] .skip))))))) (.keep [0,1,2,7,10,11] [1000] (.seq (.region [
 oN 31 (.bin .add (.t 11) (iC 1)) 0,oM 11 31 1] false [0,1,2,7,10,11] [1000]) (.keep [0,1,2,7,10,11] [1000] .skip)))))))
def F134:LFunc:={ nparams:=3,results:=[.tmp 6],pure:=true,body :=
 (.seq (rN [
 oN 6 (.move (.c (.list []))) 0] [0,1,2]) (.seq (.region [
 oN 7 (.nilown false 1000 1) 0] false [0,1,2,7] [1000]) (.seq (.region [
 oM 9 0 0,oN 10 (.len 1 (.t 9)) 1,oN 11 (.move (iC 0)) 2] false [0,1,2,7,10,11] [1000]) (.seq (.block 0 (.seq (.keep [0,1,2,7,10,11] [1000] (.loop B134x0)) (.keep [1,2,7] [1000] .skip))) (.keep [1,2,7] [1000] (.seq (.region [
 oM 32 2 0,oN 33 (.eq .i false (.t 32) (iC 0)) 1] false [1,7,33] [1000]) (.seq (.cond (.t 33) (.seq (.region [
 oM 34 7 0,oM 35 1 1,oN 36 (.row 1 [.t 35]) 2,oN 37 (.append false 1003 1 8 (.t 34) (.t 36)) 3,oM 7 37 4] false [7] [1000]) (.keep [7] [1000] .skip)) (.keep [7] [1000] .skip)) (.keep [7] [1000] (.seq (.region [
 oM 38 7 0,oM 6 38 1] false [6] [1000]) (.keep [6] [1000] .ret)))))))))) }
theorem ok134:fnSoundB Go.Proofs.Tryz.prog 134 F134=true:=by decide +kernel
def B135x0:LCode :=
 (.seq (rN [
 oN 10 (.bin .lss (.t 9) (.t 8)) 0] [0,7,8,9,10]) (.seq (.cond (.t 10) (kS [0,7,8,9]) (kB [] (.exit 0))) (kB [0,7,8,9] (.seq (.block 1 (.seq (rN [
 oN 11 (.indexAddr 1 (.t 7) (.t 9)) 0,oN 12 (lD 11) 1,oM 6 12 2] [0,6,7,8,9]) (.seq (rN [
 oM 13 6 0,oM 14 0 1,oN 15 (.nilCheck (.t 14)) 2,oN 16 (fA 1 15) 3,oN 17 (lD 16) 4,oN 18 (.len 1 (.t 17)) 5,oN 19 (.bin .geq (.t 13) (.t 18)) 6] [0,7,8,9,19]) (.seq (.cond (.t 19) (.seq (rN [
 oN 4 (.move (.c (.bool false))) 0] [4]) (kB [4] .ret)) (kS [0,7,8,9])) (kS [0,7,8,9]))))) (kB [0,7,8,9] (.seq (rN [
 oN 20 (.bin .add (.t 9) (iC 1)) 0,oM 9 20 1] [0,7,8,9]) (kS [0,7,8,9])))))))
def F135:LFunc:={ nparams:=2,results:=[.tmp 4],pure:=false,body :=
 (.seq (rN [
 oN 4 (.move (.c (.bool false))) 0] [0,1]) (.seq (rN [
 oM 7 1 0,oN 8 (.len 1 (.t 7)) 1,oN 9 (.move (iC 0)) 2] [0,7,8,9]) (.seq (.block 0 (.seq (kB [0,7,8,9] (.loop B135x0)) (kS []))) (kB [] (.seq (rN [
 oN 4 (.move (.c (.bool true))) 0] [4]) (kB [4] .ret)))))) }
theorem ok135:fnSoundB Go.Proofs.Tryz.prog 135 F135=true:=by decide +kernel
def F136:LFunc:={ nparams:=2,results:=[.tmp 4],pure:=false,body :=
 (.seq (rN [
 oN 4 (.move (iC 0)) 0] [0,1]) (.seq (rN [
 oM 5 0 0,oN 6 (.nilCheck (.t 5)) 1,oN 7 (fA 1 6) 2,oN 8 (lD 7) 3,oM 9 1 4,oN 10 (.indexAddr 1 (.t 8) (.t 9)) 5,oN 11 (lD 10) 6,oM 4 11 7] [4]) (kB [4] .ret))) }
theorem ok136:fnSoundB Go.Proofs.Tryz.prog 136 F136=true:=by decide +kernel
def F137:LFunc:={ nparams:=2,results:=[.tmp 4],pure:=false,body :=
 (.seq (rN [
 oN 4 (.move (iC 0)) 0] [0,1]) (.seq (rN [
 oM 5 1 0,oN 6 (.eq .i false (.t 5) (iC 0)) 1] [0,1,6]) (.seq (.cond (.t 6) (.seq (rN [
 oN 4 (.move (iC 0)) 0] [4]) (kB [4] .ret)) (kS [0,1])) (kB [0,1] (.seq (rN [
 oM 7 0 0,oN 8 (.nilCheck (.t 7)) 1,oN 9 (fA 1 8) 2,oN 10 (lD 9) 3,oM 11 1 4,oN 12 (.indexAddr 1 (.t 10) (.t 11)) 5,oN 13 (lD 12) 6,oM 4 13 7] [4]) (kB [4] .ret)))))) }
theorem ok137:fnSoundB Go.Proofs.Tryz.prog 137 F137=true:=by decide +kernel
def F138:LFunc:={ nparams:=2,results:=[.tmp 4,.tmp 5],pure:=false,body :=
 (.seq (rN [
 oN 4 (.move (iC 0)) 0,oN 5 (.move (.c (.bool false))) 1] [0,1]) (.seq (rN [
 oM 6 1 0,oN 7 (.bin .lss (.t 6) (iC 0)) 1,oM 8 7 2,oG 9 (.move (.t 1)) 8 false 3,oG 10 (.move (.t 0)) 8 false 4,oG 11 (.len 1 (.t 10)) 8 false 5,oG 12 (.bin .geq (.t 9) (.t 11)) 8 false 6,oN 13 (.pick (.t 8) (.c (.bool true)) (.t 12)) 7] [0,1,13]) (.seq (.cond (.t 13) (.seq (rN [
 oN 4 (.move (iC 0)) 0,oN 5 (.move (.c (.bool false))) 1] [4,5]) (kB [4,5] .ret)) (kS [0,1])) (kB [0,1] (.seq (rN [
 oM 14 0 0,oM 15 1 1,oN 16 (.indexAddr 1 (.t 14) (.t 15)) 2,oN 17 (lD 16) 3,oM 4 17 4,oN 5 (.move (.c (.bool true))) 5] [4,5]) (kB [4,5] .ret)))))) }
theorem ok138:fnSoundB Go.Proofs.Tryz.prog 138 F138=true:=by decide +kernel
def F139:LFunc:={ nparams:=3,results:=[.tmp 6],pure:=false,body :=
 (.seq (rN [
 oN 6 (.move (iC 0)) 0] [0,1,2]) (.seq (rN [
 oM 9 0 0,oM 10 1 1,oN 11 (.call 130 [(.t 9,.as),(.t 10,.as)]) 2,oM 7 11 3] [0,1,2,7]) (.seq (rN [
 oM 12 7 0,oN 13 (.eq .i true (.t 12) (iC 0)) 1] [0,1,2,7,13]) (.seq (.cond (.t 13) (.seq (rN [
 oM 14 7 0,oM 6 14 1] [6]) (kB [6] .ret)) (kS [0,1,2])) (kB [0,1,2] (.seq (rN [
 oM 15 0 0,oM 16 2 1,oN 17 (.call 131 [(.t 15,.as),(.t 16,.as)]) 2,oN 18 (.bin .lss (.t 17) (iC 0)) 3] [0,1,2,18]) (.seq (.cond (.t 18) (.seq (rN [
 oN 6 (.move (iC 13)) 0] [6]) (kB [6] .ret)) (kS [0,1,2])) (kB [0,1,2] (.seq (.draw [
 oM 19 0 0,oN 20 (.nilCheck (.t 19)) 1,oN 21 (fA 0 20) 2,oN 22 (lD 21) 3,oM 23 0 4,oM 24 1 5,⟨some 25,.call 131 [(.t 23,.as),(.t 24,.as)],none,6,[3]⟩,oN 26 (.indexAddr 7 (.t 22) (.t 25)) 7,oN 27 (fA 1 26) 8,oN 28 (lD 27) 9,oM 8 28 10] [0,1,2,8] []) (.seq (rN [
 oM 29 8 0,oN 30 (.bin .lss (.t 29) (iC 0)) 1] [0,1,2,8,30]) (.seq (.cond (.t 30) (.seq (rN [
 oN 6 (.move (iC 16)) 0] [6]) (kB [6] .ret)) (kS [0,1,2,8])) (kB [0,1,2,8] (.seq (.draw [
 oM 31 2 0,oM 32 1 1,oN 33 (.eq .i false (.t 31) (.t 32)) 2,oM 34 33 3,oG 35 (.move (.t 2)) 34 false 4,oG 36 (.eq .i true (.t 35) (iC 0)) 34 false 5,oG 37 (.move (.t 36)) 34 false 6,oG 38 (.move (.t 0)) 37 true 7,oG 39 (.nilCheck (.t 38)) 37 true 8,oG 40 (fA 0 39) 37 true 9,oG 41 (lD 40) 37 true 10,oG 42 (.move (.t 0)) 37 true 11,oG 43 (.move (.t 2)) 37 true 12,oG 48 (.move (.t 8)) 37 true 17,⟨some 44,.call 131 [(.t 42,.as),(.t 43,.as)],some (37,true),13,[10]⟩,oG 45 (.indexAddr 7 (.t 41) (.t 44)) 37 true 14,oG 46 (fA 1 45) 37 true 15,oG 47 (lD 46) 37 true 16,oG 49 (.eq .i true (.t 47) (.t 48)) 37 true 18,oG 50 (.pick (.t 37) (.t 49) (.c (.bool false))) 34 false 19,oN 51 (.pick (.t 34) (.c (.bool true)) (.t 50)) 20] [0,1,2,8,51] []) (.seq (.cond (.t 51) (.seq (rN [
 oN 6 (.move (iC 18)) 0] [6]) (kB [6] .ret)) (kS [0,1,2,8])) (kB [0,1,2,8] (.seq (.draw [
 oM 52 0 0,oM 53 8 1,oM 54 0 2,oN 55 (.nilCheck (.t 54)) 3,oN 56 (fA 0 55) 4,oN 57 (lD 56) 5,oM 58 0 6,oM 59 8 7,oM 64 1 12,oM 66 1 14,oM 67 2 15,⟨some 60,.call 131 [(.t 58,.as),(.t 59,.as)],none,8,[5]⟩,oN 61 (.indexAddr 7 (.t 57) (.t 60)) 9,oN 62 (fA 2 61) 10,oN 63 (lD 62) 11,oN 65 (.pcall 176 [(.t 63,.freeze),(.t 64,.as)]) 13,oN 68 (.pcall 134 [(.t 65,.as),(.t 66,.as),(.t 67,.as)]) 16,oN 69 (.call 133 [(.t 52,.as),(.t 53,.as),(.t 68,.as)]) 17] [] []) (.seq (rN [
 oN 6 (.move (iC 0)) 0] [6]) (kB [6] .ret)))))))))))))))))) }
theorem ok139:fnSoundB Go.Proofs.Tryz.prog 139 F139=true:=by decide +kernel
def B140x0:LCode :=
 (.seq (rN [
 oN 48 (.bin .lss (.t 47) (.t 46)) 0] [0,1,7,46,47,48]) (.seq (.cond (.t 48) (kS [0,1,7,46,47]) (kB [0,7] (.exit 0))) (kB [0,1,7,46,47] (.seq (.block 1 (.seq (rN [
 oM 49 47 0,oM 8 49 1] [0,1,7,8,46,47]) (.seq (rN [
 oM 50 0 0,oM 51 0 1,oN 52 (.nilCheck (.t 51)) 2,oN 53 (fA 0 52) 3,oN 54 (lD 53) 4,oM 55 8 5,oN 56 (.indexAddr 7 (.t 54) (.t 55)) 6,oN 57 (fA 0 56) 7,oN 58 (lD 57) 8,oM 59 1 9,oN 60 (.call 132 [(.t 50,.as),(.t 58,.as),(.t 59,.as)]) 10,oN 61 (.un .not (.t 60)) 11] [0,1,7,8,46,47,61]) (.seq (.cond (.t 61) (.seq (rN [
 oM 62 7 0,oM 63 0 1,oN 64 (.nilCheck (.t 63)) 2,oN 65 (fA 0 64) 3,oN 66 (lD 65) 4,oM 67 8 5,oN 68 (.indexAddr 7 (.t 66) (.t 67)) 6,oN 69 (.load 7 true (.t 68)) 7,oN 70 (.row 7 [.t 69]) 8,oN 71 (.append true 1001 7 112 (.t 62) (.t 70)) 9,oM 7 71 10] [0,1,7,46,47]) (kS [0,1,7,46,47])) (kS [0,1,7,46,47])) (kS [0,1,7,46,47]))))) (kB [0,1,7,46,47] (.seq (rN [
 oN 72 (.bin .add (.t 47) (iC 1)) 0,oM 47 72 1] [0,1,7,46,47]) (kS [0,1,7,46,47])))))))
def F140:LFunc:={ nparams:=2,results:=[.tmp 4],pure:=false,body :=
 (.seq (rN [
 oN 4 (.move (iC 0)) 0] [0,1]) (.seq (rN [
 oM 9 0 0,oM 10 1 1,oN 11 (.call 130 [(.t 9,.as),(.t 10,.as)]) 2,oM 5 11 3] [0,1,5]) (.seq (rN [
 oM 12 5 0,oN 13 (.eq .i true (.t 12) (iC 0)) 1] [0,1,5,13]) (.seq (.cond (.t 13) (.seq (rN [
 oM 14 5 0,oM 4 14 1] [4]) (kB [4] .ret)) (kS [0,1])) (kB [0,1] (.seq (.draw [
 oM 15 0 0,oN 16 (.nilCheck (.t 15)) 1,oN 17 (fA 0 16) 2,oN 18 (lD 17) 3,oM 19 0 4,oM 20 1 5,⟨some 21,.call 131 [(.t 19,.as),(.t 20,.as)],none,6,[3]⟩,oN 22 (.indexAddr 7 (.t 18) (.t 21)) 7,oN 23 (fA 1 22) 8,oN 24 (lD 23) 9,oM 6 24 10] [0,1,6] []) (.seq (rN [
 oM 25 6 0,oN 26 (.bin .geq (.t 25) (iC 0)) 1] [0,1,6,26]) (.seq (.cond (.t 26) (.seq (.draw [
 oM 27 0 0,oM 28 6 1,oM 29 0 2,oN 30 (.nilCheck (.t 29)) 3,oN 31 (fA 0 30) 4,oN 32 (lD 31) 5,oM 33 0 6,oM 34 6 7,oM 39 1 12,⟨some 35,.call 131 [(.t 33,.as),(.t 34,.as)],none,8,[5]⟩,oN 36 (.indexAddr 7 (.t 32) (.t 35)) 9,oN 37 (fA 2 36) 10,oN 38 (lD 37) 11,oN 40 (.pcall 176 [(.t 38,.freeze),(.t 39,.as)]) 13,oN 41 (.call 133 [(.t 27,.as),(.t 28,.as),(.t 40,.as)]) 14] [0,1] []) (kS [0,1])) (kS [0,1])) (kB [0,1] (.seq (rN [
 oN 7 (.nilown true 1000 7) 0] [0,1,7]) (.seq (rN [
 oM 42 0 0,oN 43 (.nilCheck (.t 42)) 1,oN 44 (fA 0 43) 2,oN 45 (lD 44) 3,oN 46 (.len 1 (.t 45)) 4,oN 47 (.move (iC 0)) 5] [0,1,7,46,47]) (.seq (.block 0 (.seq (kB [0,1,7,46,47] (.loop B140x0)) (kS [0,7]))) (kB [0,7] (.seq (rN [
 oM 73 0 0,oM 74 7 1,oN 75 (.nilCheck (.t 73)) 2,oN 76 (fA 0 75) 3,⟨none,.store 1 false (.t 76) (.t 74),none,4,[]⟩] []) (.seq (rN [
 oN 4 (.move (iC 0)) 0] [4]) (kB [4] .ret)))))))))))))))) }
theorem ok140:fnSoundB Go.Proofs.Tryz.prog 140 F140=true:=by decide +kernel
def F141:LFunc:={ nparams:=4,results:=[.tmp 8],pure:=false,body :=
 (.seq (rN [
 oN 8 (.move (iC 0)) 0] [0,1,2,3]) (.seq (rN [
 oM 11 0 0,oM 12 1 1,oN 13 (.call 130 [(.t 11,.as),(.t 12,.as)]) 2,oM 9 13 3] [0,1,2,3,9]) (.seq (rN [
 oM 14 9 0,oN 15 (.eq .i true (.t 14) (iC 0)) 1] [0,1,2,3,9,15]) (.seq (.cond (.t 15) (.seq (rN [
 oM 16 9 0,oM 8 16 1] [8]) (kB [8] .ret)) (kS [0,1,2,3])) (kB [0,1,2,3] (.seq (rN [
 oM 17 2 0,oN 18 (.pcall 63 [(.t 17,.as),(.c (.bool true),.as)]) 1,oN 19 (.un .not (.t 18)) 2] [0,1,2,3,19]) (.seq (.cond (.t 19) (.seq (rN [
 oN 8 (.move (iC 8)) 0] [8]) (kB [8] .ret)) (kS [0,1,2,3])) (kB [0,1,2,3] (.seq (rN [
 oM 20 3 0,oN 21 (.len 0 (.t 20)) 1,oN 22 (.bin .gtr (.t 21) (iC 65536)) 2] [0,1,2,3,22]) (.seq (.cond (.t 22) (.seq (rN [
 oN 8 (.move (iC 3)) 0] [8]) (kB [8] .ret)) (kS [0,1,2,3])) (kB [0,1,2,3] (.seq (.draw [
 oM 23 0 0,oN 24 (.nilCheck (.t 23)) 1,oN 25 (fA 0 24) 2,oN 26 (lD 25) 3,oM 27 0 4,oM 28 1 5,oM 33 2 10,oM 34 3 11,⟨some 29,.call 131 [(.t 27,.as),(.t 28,.as)],none,6,[3]⟩,oN 30 (.indexAddr 7 (.t 26) (.t 29)) 7,oN 31 (fA 6 30) 8,oN 32 (lD 31) 9,oN 35 (.pcall 177 [(.t 32,.as),(.t 33,.as),(.t 34,.as)]) 12,oM 10 35 13] [0,1,10] []) (.seq (rN [
 oM 36 10 0,oN 37 (.len 1 (.t 36)) 1,oN 38 (.bin .gtr (.t 37) (iC 64)) 2] [0,1,10,38]) (.seq (.cond (.t 38) (.seq (rN [
 oN 8 (.move (iC 12)) 0] [8]) (kB [8] .ret)) (kS [0,1,10])) (kB [0,1,10] (.seq (.draw [
 oM 39 0 0,oN 40 (.nilCheck (.t 39)) 1,oN 41 (fA 0 40) 2,oN 42 (lD 41) 3,oM 43 0 4,oM 44 1 5,oM 46 10 7,⟨some 45,.call 131 [(.t 43,.as),(.t 44,.as)],none,6,[3]⟩,oN 47 (.indexAddr 7 (.t 42) (.t 45)) 8,oN 48 (fA 6 47) 9,⟨none,.store 1 false (.t 48) (.t 46),none,10,[]⟩] [] []) (.seq (rN [
 oN 8 (.move (iC 0)) 0] [8]) (kB [8] .ret)))))))))))))))))) }
theorem ok141:fnSoundB Go.Proofs.Tryz.prog 141 F141=true:=by decide +kernel
end Go.TA.Tryz


end
