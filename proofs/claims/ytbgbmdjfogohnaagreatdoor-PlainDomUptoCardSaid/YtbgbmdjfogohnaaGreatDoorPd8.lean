/- Part 8 of 14 of a proof; joined from PdmLow0. Functions of the program, lowered: each is held against the program's own text by the kernel. -/
import Derived.Test.YtbgbmdjfogohnaaGreatDoorPd6
import Derived.Test.YtbgbmdjfogohnaaGreatDoorProg
set_option linter.unusedSimpArgs false
set_option linter.unusedVariables false
set_option linter.defProp false
set_option maxRecDepth 100000
set_option maxHeartbeats 8000000
section
/- Functions of the program, lowered: each is held against the program's own text by the kernel. -/
namespace Go.TA.Tryz
def B3x0:b1g :=
 (.seq (rN [
 oN 36 (.bin .lss (.t 35) (.t 34)) 0] [0,1,5,6,7,34,35,36]) (.seq (.cond (.t 36) (kS [0,1,5,6,7,34,35]) (kB [1,5,6,7] (.exit 0))) (kB [0,1,5,6,7,34,35] (.seq (.block 1 (.seq (rN [
 oM 37 35 0,oM 8 37 1] [0,1,5,6,7,8,34,35]) (.seq (.region [
 oM 38 0 0,oM 39 8 1,oN 40 (.indexAddr 6 (.t 38) (.t 39)) 2,oN 41 (.load 6 true (.t 40)) 3,oN 9 (.alloc false 9 [.p (.int .i64 0),.p (.int .i64 0),.p (.str []),.p (.str []),.p (.str []),.p (.list [])] []) 4,⟨none,.store 6 true (.t 9) (.t 41),none,5,[]⟩] false [0,1,5,6,7,8,9,34,35] [9]) (.seq (.region [
 oM 42 7 0,oN 43 (fA 2 9) 1,oN 44 (lD 43) 2,oN 45 (fA 3 9) 3,oN 46 (lD 45) 4,oN 47 (fA 4 9) 5,oN 48 (lD 47) 6,oN 49 (fA 5 9) 7,oN 50 (lD 49) 8,oN 51 (.build [.p (.int .i64 0),.p (.int .i64 0),.p (.int .i64 0),.p (.int .i64 0),.p (.str []),.p (.str []),.p (.str []),.p (.str []),.p (.list [])] [(0,1,.c (.int .i64 1)),(4,1,.t 44),(5,1,.t 46),(7,1,.t 48),(8,1,.t 50)]) 9,oN 52 (.call 17 [(.t 42,.as),(.t 51,.as)]) 10] false [0,1,5,6,7,8,9,34,35] [9]) (.seq (rN [
 oM 53 7 0,oM 54 8 1,oN 55 (.bin .add (.t 54) (iC 1)) 2,oN 56 (fA 1 9) 3,oN 57 (lD 56) 4,oN 58 (.build [.p (.int .i64 0),.p (.int .i64 0),.p (.int .i64 0),.p (.int .i64 0),.p (.str []),.p (.str []),.p (.str []),.p (.str []),.p (.list [])] [(0,1,.c (.int .i64 2)),(1,1,.t 55),(2,1,.t 57)]) 5,oN 59 (.call 17 [(.t 53,.as),(.t 58,.as)]) 6] [0,1,5,6,7,34,35]) (kS [0,1,5,6,7,34,35])))))) (kB [0,1,5,6,7,34,35] (.seq (rN [
 oN 60 (.bin .add (.t 35) (iC 1)) 0,oM 35 60 1] [0,1,5,6,7,34,35]) (kS [0,1,5,6,7,34,35])))))))
def B3x1:b1g :=
 (.seq (rN [
 oN 64 (.bin .lss (.t 63) (.t 62)) 0] [1,5,6,7,62,63,64]) (.seq (.cond (.t 64) (kS [1,5,6,7,62,63]) (kB [5,6,7] (.exit 2))) (kB [1,5,6,7,62,63] (.seq (.block 3 (.seq (rN [
 oM 65 63 0,oM 10 65 1] [1,5,6,7,10,62,63]) (.seq (rN [
 oM 66 1 0,oM 67 10 1,oN 68 (.indexAddr 9 (.t 66) (.t 67)) 2,oN 69 (.load 9 true (.t 68)) 3,oN 70 (.pcall 18 [(.t 69,.as)]) 4,oN 71 (.eq .i true (.t 70) (iC 0)) 5] [1,5,6,7,10,62,63,71]) (.seq (.cond (.t 71) (kB [1,5,6,7,62,63] (.exit 3)) (kS [1,5,6,7,10,62,63])) (kB [1,5,6,7,10,62,63] (.seq (rN [
 oM 73 7 0,oM 74 1 1,oM 75 10 2,oN 76 (.indexAddr 9 (.t 74) (.t 75)) 3,oN 77 (.load 9 true (.t 76)) 4,oN 78 (.call 17 [(.t 73,.as),(.t 77,.as)]) 5,oM 72 78 6,oN 79 (.extract (.t 72) 0) 7,oN 80 (.extract (.t 72) 1) 8,oM 11 79 9,oM 12 80 10] [1,5,6,7,10,12,62,63]) (.seq (rN [
 oM 81 5 0,oM 82 1 1,oM 83 10 2,oN 84 (.indexAddr 9 (.t 82) (.t 83)) 3,oN 85 (.load 9 true (.t 84)) 4,oN 86 (.call 19 [(.t 81,.as),(.t 85,.as)]) 5,oM 87 12 6,oN 88 (.eq .i true (.t 86) (.t 87)) 7] [1,5,6,7,62,63,88]) (.seq (.cond (.t 88) (.seq (rN [
 oN 4 (.move (.c (.bool false))) 0] [4]) (kB [4] .ret)) (kS [1,5,6,7,62,63])) (kS [1,5,6,7,62,63]))))))))) (kB [1,5,6,7,62,63] (.seq (rN [
 oN 89 (.bin .add (.t 63) (iC 1)) 0,oM 63 89 1] [1,5,6,7,62,63]) (kS [1,5,6,7,62,63])))))))
def F3:b0u:={ nparams:=2,results:=[.tmp 4],pure:=true,body :=
 (.seq (rN [
 oN 4 (.move (.c (.bool false))) 0] [0,1]) (.seq (rN [
 oM 13 0 0,oN 14 (.pcall 11 [(.t 13,.as),(.c (.int .i64 60),.as)]) 1,oN 15 (.un .not (.t 14)) 2,oM 16 15 3,oG 17 (.move (.t 1)) 16 false 4,oG 18 (.pcall 12 [(.t 17,.as),(.c (.int .i64 80),.as)]) 16 false 5,oG 19 (.un .not (.t 18)) 16 false 6,oN 20 (.pick (.t 16) (.c (.bool true)) (.t 19)) 7,oM 21 20 8,oG 22 (.move (.t 0)) 21 false 9,oG 23 (.pcall 13 [(.t 22,.as)]) 21 false 10,oG 24 (.eq .i true (.t 23) (iC 0)) 21 false 11,oN 25 (.pick (.t 21) (.c (.bool true)) (.t 24)) 12] [0,1,25]) (.seq (.cond (.t 25) (.seq (rN [
 oN 26 (.pcall 14 []) 0,oM 4 26 1] [4]) (kB [4] .ret)) (kS [0,1])) (kB [0,1] (.seq (rN [
 oM 28 0 0,oN 29 (.call 15 [(.t 28,.as)]) 1,oM 27 29 2,oN 30 (.extract (.t 27) 0) 3,oN 31 (.extract (.t 27) 1) 4,oM 5 30 5,oM 6 31 6] [0,1,5,6]) (.seq (rN [
 oN 32 (.call 16 [(.c (.int .i64 1),.as)]) 0,oM 7 32 1] [0,1,5,6,7]) (.seq (rN [
 oM 33 0 0,oN 34 (.len 1 (.t 33)) 1,oN 35 (.move (iC 0)) 2] [0,1,5,6,7,34,35]) (.seq (.block 0 (.seq (kB [0,1,5,6,7,34,35] (.loop B3x0)) (kS [1,5,6,7]))) (kB [1,5,6,7] (.seq (rN [
 oM 61 1 0,oN 62 (.len 1 (.t 61)) 1,oN 63 (.move (iC 0)) 2] [1,5,6,7,62,63]) (.seq (.block 2 (.seq (kB [1,5,6,7,62,63] (.loop B3x1)) (kS [5,6,7]))) (kB [5,6,7] (.seq (rN [
 oM 90 6 0,oN 91 (.eq .i false (.t 90) (iC 0)) 1,oM 92 91 2,oG 93 (.move (.t 5)) 92 true 3,oG 94 (.call 21 [(.t 93,.as)]) 92 true 4,oG 95 (.move (.t 7)) 92 true 5,oG 96 (.call 22 [(.t 95,.as)]) 92 true 6,oG 97 (.pcall 20 [(.t 94,.look),(.t 96,.look)]) 92 true 7,oN 98 (.pick (.t 92) (.t 97) (.c (.bool false))) 8,oM 99 98 9,oG 100 (.move (.t 5)) 99 true 10,oG 101 (.call 23 [(.t 100,.as)]) 99 true 11,oG 102 (.move (.t 7)) 99 true 12,oG 103 (.call 24 [(.t 102,.as)]) 99 true 13,oG 104 (.eq .i false (.t 101) (.t 103)) 99 true 14,oN 105 (.pick (.t 99) (.t 104) (.c (.bool false))) 15,oM 106 105 16,oG 107 (.pcall 14 []) 106 true 17,oN 108 (.pick (.t 106) (.t 107) (.c (.bool false))) 18,oM 4 108 19] [4]) (kB [4] .ret)))))))))))))) }
theorem ok3:b0f Go.Proofs.Tryz.prog 3 F3=true:=by decide +kernel
def h4h:b1g :=
 (.seq (rN [
 oN 54 (.bin .lss (.t 53) (.t 52)) 0] [0,5,6,10,11,52,53,54]) (.seq (.cond (.t 54) (kS [0,5,6,10,11,52,53]) (kB [0,5,10,11] (.exit 2))) (kB [0,5,6,10,11,52,53] (.seq (.block 3 (.seq (rN [
 oM 55 53 0,oM 7 55 1] [0,5,6,7,10,11,52,53]) (.seq (.region [
 oM 56 5 0,oM 57 0 1,oM 58 6 2,oN 59 (.indexAddr 6 (.t 57) (.t 58)) 3,oN 60 (fA 5 59) 4,oN 61 (lD 60) 5,oM 62 7 6,oN 63 (.indexAddr 2 (.t 61) (.t 62)) 7,oN 64 (fA 1 63) 8,oN 65 (lD 64) 9,oN 66 (.len 0 (.t 65)) 10,oM 67 0 11,oM 68 6 12,oN 69 (.indexAddr 6 (.t 67) (.t 68)) 13,oN 70 (fA 5 69) 14,oN 71 (lD 70) 15,oM 72 7 16,oN 73 (.indexAddr 2 (.t 71) (.t 72)) 17,oN 74 (fA 0 73) 18,oN 75 (lD 74) 19,oN 76 (.len 0 (.t 75)) 20,oN 77 (.bin .add (.t 66) (.t 76)) 21,oN 78 (.bin .quo (.t 77) (iC 4096)) 22,oN 79 (.bin .sub (.t 56) (.t 78)) 23,oM 5 79 24] true [0,5,6,10,11,52,53] []) (kS [0,5,6,10,11,52,53])))) (kB [0,5,6,10,11,52,53] (.seq (rN [
 oN 80 (.bin .add (.t 53) (iC 1)) 0,oM 53 80 1] [0,5,6,10,11,52,53]) (kS [0,5,6,10,11,52,53])))))))
def h0e:b1g :=
 (.seq (rN [
 oN 12 (.bin .lss (.t 11) (.t 10)) 0] [0,5,10,11,12]) (.seq (.cond (.t 12) (kS [0,5,10,11]) (kB [5] (.exit 0))) (kB [0,5,10,11] (.seq (.block 1 (.seq (rN [
 oM 13 11 0,oM 6 13 1] [0,5,6,10,11]) (.seq (.region [
 oM 14 5 0,oN 15 (.bin .sub (.t 14) (iC 1)) 1,oM 16 0 2,oM 17 6 3,oN 18 (.indexAddr 6 (.t 16) (.t 17)) 4,oN 19 (fA 5 18) 5,oN 20 (lD 19) 6,oN 21 (.len 1 (.t 20)) 7,oN 22 (.bin .sub (.t 15) (.t 21)) 8,oM 23 0 9,oM 24 6 10,oN 25 (.indexAddr 6 (.t 23) (.t 24)) 11,oN 26 (fA 4 25) 12,oN 27 (lD 26) 13,oN 28 (.len 0 (.t 27)) 14,oM 29 0 15,oM 30 6 16,oN 31 (.indexAddr 6 (.t 29) (.t 30)) 17,oN 32 (fA 3 31) 18,oN 33 (lD 32) 19,oN 34 (.len 0 (.t 33)) 20,oN 35 (.bin .add (.t 28) (.t 34)) 21,oM 36 0 22,oM 37 6 23,oN 38 (.indexAddr 6 (.t 36) (.t 37)) 24,oN 39 (fA 2 38) 25,oN 40 (lD 39) 26,oN 41 (.len 0 (.t 40)) 27,oN 42 (.bin .add (.t 35) (.t 41)) 28,oN 43 (.bin .quo (.t 42) (iC 4096)) 29,oN 44 (.bin .sub (.t 22) (.t 43)) 30,oM 5 44 31] true [0,5,6,10,11] []) (.seq (rN [
 oM 45 5 0,oN 46 (.bin .lss (.t 45) (iC 0)) 1] [0,5,6,10,11,46]) (.seq (.cond (.t 46) (.seq (rN [
 oN 4 (.move (.c (.bool false))) 0] [4]) (kB [4] .ret)) (kS [0,5,6,10,11])) (kB [0,5,6,10,11] (.seq (rN [
 oM 47 0 0,oM 48 6 1,oN 49 (.indexAddr 6 (.t 47) (.t 48)) 2,oN 50 (fA 5 49) 3,oN 51 (lD 50) 4,oN 52 (.len 1 (.t 51)) 5,oN 53 (.move (iC 0)) 6] [0,5,6,10,11,52,53]) (.seq (.block 2 (.seq (kB [0,5,6,10,11,52,53] (.loop h4h)) (kS [0,5,10,11]))) (kS [0,5,10,11]))))))))) (kB [0,5,10,11] (.seq (rN [
 oN 81 (.bin .add (.t 11) (iC 1)) 0,oM 11 81 1] [0,5,10,11]) (kS [0,5,10,11])))))))
def F11:b0u:={ nparams:=2,results:=[.tmp 4],pure:=true,body :=
 (.seq (rN [
 oN 4 (.move (.c (.bool false))) 0] [0,1]) (.seq (rN [
 oM 8 1 0,oM 5 8 1] [0,5]) (.seq (rN [
 oM 9 0 0,oN 10 (.len 1 (.t 9)) 1,oN 11 (.move (iC 0)) 2] [0,5,10,11]) (.seq (.block 0 (.seq (kB [0,5,10,11] (.loop h0e)) (kS [5]))) (kB [5] (.seq (rN [
 oM 82 5 0,oN 83 (.bin .geq (.t 82) (iC 0)) 1,oM 4 83 2] [4]) (kB [4] .ret))))))) }
theorem ok11:b0f Go.Proofs.Tryz.prog 11 F11=true:=by decide +kernel
def d9o:b1g :=
 (.seq (.region [
 oN 48 (.bin .lss (.t 47) (.t 46)) 0] false [0,5,7,11,12,46,47,48] [7]) (.seq (.cond (.t 48) (.keep [0,5,7,11,12,46,47] [7] .skip) (kB [0,5,11,12] (.exit 2))) (.keep [0,5,7,11,12,46,47] [7] (.seq (.block 3 (.seq (.region [
 oM 49 47 0,oM 8 49 1] false [0,5,7,8,11,12,46,47] [7]) (.seq (.region [
 oM 50 5 0,oN 51 (fA 8 7) 1,oN 52 (lD 51) 2,oM 53 8 3,oN 54 (.indexAddr 2 (.t 52) (.t 53)) 4,oN 55 (fA 1 54) 5,oN 56 (lD 55) 6,oN 57 (.len 0 (.t 56)) 7,oN 58 (fA 8 7) 8,oN 59 (lD 58) 9,oM 60 8 10,oN 61 (.indexAddr 2 (.t 59) (.t 60)) 11,oN 62 (fA 0 61) 12,oN 63 (lD 62) 13,oN 64 (.len 0 (.t 63)) 14,oN 65 (.bin .add (.t 57) (.t 64)) 15,oN 66 (.bin .quo (.t 65) (iC 4096)) 16,oN 67 (.bin .sub (.t 50) (.t 66)) 17,oM 5 67 18] true [0,5,7,11,12,46,47] [7]) (.keep [0,5,7,11,12,46,47] [7] .skip)))) (.keep [0,5,7,11,12,46,47] [7] (.seq (.region [
 oN 68 (.bin .add (.t 47) (iC 1)) 0,oM 47 68 1] false [0,5,7,11,12,46,47] [7]) (.keep [0,5,7,11,12,46,47] [7] .skip)))))))
def d9p:b1g :=
 (.seq (rN [
 oN 13 (.bin .lss (.t 12) (.t 11)) 0] [0,5,11,12,13]) (.seq (.cond (.t 13) (kS [0,5,11,12]) (kB [5] (.exit 0))) (kB [0,5,11,12] (.seq (.block 1 (.seq (rN [
 oM 14 12 0,oM 6 14 1] [0,5,6,11,12]) (.seq (.region [
 oM 15 0 0,oM 16 6 1,oN 17 (.indexAddr 9 (.t 15) (.t 16)) 2,oN 18 (.load 9 true (.t 17)) 3,oN 7 (.alloc false 7 [.p (.int .i64 0),.p (.int .i64 0),.p (.int .i64 0),.p (.int .i64 0),.p (.str []),.p (.str []),.p (.str []),.p (.str []),.p (.list [])] []) 4,⟨none,.store 9 true (.t 7) (.t 18),none,5,[]⟩] false [0,5,7,11,12] [7]) (.seq (.region [
 oM 19 5 0,oN 20 (.bin .sub (.t 19) (iC 1)) 1,oN 21 (fA 8 7) 2,oN 22 (lD 21) 3,oN 23 (.len 1 (.t 22)) 4,oN 24 (.bin .sub (.t 20) (.t 23)) 5,oN 25 (fA 7 7) 6,oN 26 (lD 25) 7,oN 27 (.len 0 (.t 26)) 8,oN 28 (fA 5 7) 9,oN 29 (lD 28) 10,oN 30 (.len 0 (.t 29)) 11,oN 31 (.bin .add (.t 27) (.t 30)) 12,oN 32 (fA 4 7) 13,oN 33 (lD 32) 14,oN 34 (.len 0 (.t 33)) 15,oN 35 (.bin .add (.t 31) (.t 34)) 16,oN 36 (fA 6 7) 17,oN 37 (lD 36) 18,oN 38 (.len 0 (.t 37)) 19,oN 39 (.bin .add (.t 35) (.t 38)) 20,oN 40 (.bin .quo (.t 39) (iC 4096)) 21,oN 41 (.bin .sub (.t 24) (.t 40)) 22,oM 5 41 23] false [0,5,7,11,12] [7]) (.seq (.region [
 oM 42 5 0,oN 43 (.bin .lss (.t 42) (iC 0)) 1] false [0,5,7,11,12,43] [7]) (.seq (.cond (.t 43) (.seq (rN [
 oN 4 (.move (.c (.bool false))) 0] [4]) (kB [4] .ret)) (.keep [0,5,7,11,12] [7] .skip)) (.keep [0,5,7,11,12] [7] (.seq (.region [
 oN 44 (fA 8 7) 0,oN 45 (lD 44) 1,oN 46 (.len 1 (.t 45)) 2,oN 47 (.move (iC 0)) 3] false [0,5,7,11,12,46,47] [7]) (.seq (.block 2 (.seq (.keep [0,5,7,11,12,46,47] [7] (.loop d9o)) (kS [0,5,11,12]))) (kS [0,5,11,12])))))))))) (kB [0,5,11,12] (.seq (rN [
 oN 69 (.bin .add (.t 12) (iC 1)) 0,oM 12 69 1] [0,5,11,12]) (kS [0,5,11,12])))))))
def F12:b0u:={ nparams:=2,results:=[.tmp 4],pure:=true,body :=
 (.seq (rN [
 oN 4 (.move (.c (.bool false))) 0] [0,1]) (.seq (rN [
 oM 9 1 0,oM 5 9 1] [0,5]) (.seq (rN [
 oM 10 0 0,oN 11 (.len 1 (.t 10)) 1,oN 12 (.move (iC 0)) 2] [0,5,11,12]) (.seq (.block 0 (.seq (kB [0,5,11,12] (.loop d9p)) (kS [5]))) (kB [5] (.seq (rN [
 oM 70 5 0,oN 71 (.bin .geq (.t 70) (iC 0)) 1,oM 4 71 2] [4]) (kB [4] .ret))))))) }
theorem ok12:b0f Go.Proofs.Tryz.prog 12 F12=true:=by decide +kernel
def d7d:b1g :=
 (.seq (rN [
 oN 48 (.bin .lss (.t 47) (.t 46)) 0] [0,3,10,11,46,47,48]) (.seq (.cond (.t 48) (kS [0,3,10,11,46,47]) (kB [0,10,11] (.exit 2))) (kB [0,3,10,11,46,47] (.seq (.block 3 (.seq (rN [
 oM 49 47 0,oM 5 49 1] [0,3,5,10,11,46,47]) (.seq (.region [
 oM 50 0 0,oM 51 3 1,oN 52 (.indexAddr 6 (.t 50) (.t 51)) 2,oN 53 (fA 3 52) 3,oN 54 (lD 53) 4,oN 55 (.eq .s true (.t 54) (.c (.str []))) 5,oM 56 55 6,oG 57 (.move (.t 0)) 56 true 7,oG 58 (.move (.t 5)) 56 true 8,oG 59 (.indexAddr 6 (.t 57) (.t 58)) 56 true 9,oG 60 (fA 1 59) 56 true 10,oG 61 (lD 60) 56 true 11,oG 62 (.move (.t 0)) 56 true 12,oG 63 (.move (.t 3)) 56 true 13,oG 64 (.indexAddr 6 (.t 62) (.t 63)) 56 true 14,oG 65 (fA 1 64) 56 true 15,oG 66 (lD 65) 56 true 16,oG 67 (.eq .i false (.t 61) (.t 66)) 56 true 17,oN 68 (.pick (.t 56) (.t 67) (.c (.bool false))) 18,oM 69 68 19,oG 70 (.move (.t 0)) 69 true 20,oG 71 (.move (.t 5)) 69 true 21,oG 72 (.indexAddr 6 (.t 70) (.t 71)) 69 true 22,oG 73 (fA 3 72) 69 true 23,oG 74 (lD 73) 69 true 24,oG 75 (.move (.t 0)) 69 true 25,oG 76 (.move (.t 3)) 69 true 26,oG 77 (.indexAddr 6 (.t 75) (.t 76)) 69 true 27,oG 78 (fA 3 77) 69 true 28,oG 79 (lD 78) 69 true 29,oG 80 (.eq .s false (.t 74) (.t 79)) 69 true 30,oN 81 (.pick (.t 69) (.t 80) (.c (.bool false))) 31] true [0,3,10,11,46,47,81] []) (.seq (.cond (.t 81) (.seq (rN [
 oN 2 (.move (iC 10)) 0] [2]) (kB [2] .ret)) (kS [0,3,10,11,46,47])) (kS [0,3,10,11,46,47]))))) (kB [0,3,10,11,46,47] (.seq (rN [
 oN 82 (.bin .add (.t 47) (iC 1)) 0,oM 47 82 1] [0,3,10,11,46,47]) (kS [0,3,10,11,46,47])))))))
def d3u:b1g :=
 (.seq (rN [
 oN 12 (.bin .lss (.t 11) (.t 10)) 0] [0,10,11,12]) (.seq (.cond (.t 12) (kS [0,10,11]) (kB [] (.exit 0))) (kB [0,10,11] (.seq (.block 1 (.seq (rN [
 oM 13 11 0,oM 3 13 1] [0,3,10,11]) (.seq (rN [
 oM 14 3 0,oN 15 (.eq .i false (.t 14) (iC 4096)) 1] [0,3,10,11,15]) (.seq (.cond (.t 15) (.seq (rN [
 oN 2 (.move (iC 12)) 0] [2]) (kB [2] .ret)) (kS [0,3,10,11])) (kB [0,3,10,11] (.seq (rN [
 oM 16 0 0,oM 17 3 1,oN 18 (.bin .add (.t 17) (iC 1)) 2,oN 19 (.pcall 51 [(.t 16,.as),(.t 18,.as)]) 3,oN 20 (.bin .gtr (.t 19) (iC 64)) 4] [0,3,10,11,20]) (.seq (.cond (.t 20) (.seq (rN [
 oN 2 (.move (iC 11)) 0] [2]) (kB [2] .ret)) (kS [0,3,10,11])) (kB [0,3,10,11] (.seq (.region [
 oM 21 0 0,oM 22 3 1,oN 23 (.indexAddr 6 (.t 21) (.t 22)) 2,oN 24 (fA 2 23) 3,oN 25 (lD 24) 4,oM 26 0 5,oM 27 3 6,oN 28 (.indexAddr 6 (.t 26) (.t 27)) 7,oN 29 (fA 3 28) 8,oN 30 (lD 29) 9,oM 31 0 10,oM 32 3 11,oN 33 (.indexAddr 6 (.t 31) (.t 32)) 12,oN 34 (fA 4 33) 13,oN 35 (lD 34) 14,oM 36 0 15,oM 37 3 16,oN 38 (.indexAddr 6 (.t 36) (.t 37)) 17,oN 39 (fA 5 38) 18,oN 40 (lD 39) 19,oN 41 (.build [.p (.str []),.p (.str []),.p (.str []),.p (.list []),.nils] [(0,1,.t 25),(1,1,.t 30),(2,1,.t 35),(3,1,.t 40)]) 20,oN 42 (.pcall 52 [(.t 41,.look)]) 21,oM 4 42 22] true [0,3,4,10,11] []) (.seq (rN [
 oM 43 4 0,oN 44 (.eq .i true (.t 43) (iC 0)) 1] [0,3,4,10,11,44]) (.seq (.cond (.t 44) (.seq (rN [
 oM 45 4 0,oM 2 45 1] [2]) (kB [2] .ret)) (kS [0,3,10,11])) (kB [0,3,10,11] (.seq (rN [
 oM 46 3 0,oN 47 (.move (iC 0)) 1] [0,3,10,11,46,47]) (.seq (.block 2 (.seq (kB [0,3,10,11,46,47] (.loop d7d)) (kS [0,10,11]))) (kS [0,10,11]))))))))))))))) (kB [0,10,11] (.seq (rN [
 oN 83 (.bin .add (.t 11) (iC 1)) 0,oM 11 83 1] [0,10,11]) (kS [0,10,11])))))))
def F13:b0u:={ nparams:=1,results:=[.tmp 2],pure:=true,body :=
 (.seq (rN [
 oN 2 (.move (iC 0)) 0] [0]) (.seq (rN [
 oM 6 0 0,oN 7 (.pcall 50 [(.t 6,.as)]) 1,oN 8 (.un .not (.t 7)) 2] [0,8]) (.seq (.cond (.t 8) (.seq (rN [
 oN 2 (.move (iC 2)) 0] [2]) (kB [2] .ret)) (kS [0])) (kB [0] (.seq (rN [
 oM 9 0 0,oN 10 (.len 1 (.t 9)) 1,oN 11 (.move (iC 0)) 2] [0,10,11]) (.seq (.block 0 (.seq (kB [0,10,11] (.loop d3u)) (kS []))) (kB [] (.seq (rN [
 oN 2 (.move (iC 0)) 0] [2]) (kB [2] .ret))))))))) }
theorem ok13:b0f Go.Proofs.Tryz.prog 13 F13=true:=by decide +kernel
def F14:b0u:={ nparams:=0,results:=[.tmp 0],pure:=true,body :=
 (.seq (rN [
 oN 0 (.move (.c (.bool false))) 0] []) (.seq (rN [
 oN 7 (.build [.p (.int .i64 0),.p (.int .i64 0),.p (.str []),.p (.str []),.p (.str []),.p (.list [])] [(2,1,.c (.str [112]))]) 0,oN 8 (.row 6 [.t 7]) 1,oN 9 (.call 15 [(.t 8,.freeze)]) 2,oM 6 9 3,oN 10 (.extract (.t 6) 0) 4,oN 11 (.extract (.t 6) 1) 5,oM 1 10 6,oM 2 11 7] [1,2]) (.seq (rN [
 oM 13 1 0,oN 14 (.build [.p (.int .i64 0),.p (.int .i64 0),.p (.int .i64 0),.p (.int .i64 0),.p (.str []),.p (.str []),.p (.str []),.p (.str []),.p (.list [])] [(0,1,.c (.int .i64 1)),(4,1,.c (.str [98]))]) 1,oN 15 (.build [.p (.int .i64 0),.p (.int .i64 0),.p (.int .i64 0),.p (.int .i64 0),.p (.str []),.p (.str []),.p (.str []),.p (.str []),.p (.list [])] [(0,1,.c (.int .i64 2)),(1,1,.c (.int .i64 2)),(2,1,.c (.int .i64 1))]) 2,oN 16 (.build [.p (.int .i64 0),.p (.int .i64 0),.p (.int .i64 0),.p (.int .i64 0),.p (.str []),.p (.str []),.p (.str []),.p (.str []),.p (.list [])] [(0,1,.c (.int .i64 2)),(1,1,.c (.int .i64 2))]) 3,oN 17 (.row 9 [.t 14,.t 15,.t 16]) 4,oN 18 (.call 53 [(.t 13,.as),(.t 17,.freeze)]) 5,oM 12 18 6,oN 19 (.extract (.t 12) 0) 7,oN 20 (.extract (.t 12) 1) 8,oM 3 19 9,oM 4 20 10] [1,2,3,4]) (.seq (rN [
 oM 21 1 0,oN 22 (.call 21 [(.t 21,.as)]) 1,oM 5 22 2] [1,2,3,4,5]) (.seq (rN [
 oM 23 2 0,oN 24 (.eq .i false (.t 23) (iC 0)) 1,oM 25 24 2,oG 26 (.move (.t 3)) 25 true 3,oG 27 (.eq .i false (.t 26) (iC 2)) 25 true 4,oN 28 (.pick (.t 25) (.t 27) (.c (.bool false))) 5,oM 29 28 6,oG 30 (.move (.t 4)) 29 true 7,oG 31 (.eq .i false (.t 30) (iC 15)) 29 true 8,oN 32 (.pick (.t 29) (.t 31) (.c (.bool false))) 9,oM 33 32 10,oG 34 (.move (.t 5)) 33 true 11,oG 35 (.len 1 (.t 34)) 33 true 12,oG 36 (.eq .i false (.t 35) (iC 2)) 33 true 13,oN 37 (.pick (.t 33) (.t 36) (.c (.bool false))) 14,oM 38 37 15,oG 39 (.move (.t 5)) 38 true 16,oG 40 (.indexAddr 6 (.t 39) (iC 1)) 38 true 17,oG 41 (fA 0 40) 38 true 18,oG 42 (lD 41) 38 true 19,oG 43 (.eq .i false (.t 42) (iC 2)) 38 true 20,oN 44 (.pick (.t 38) (.t 43) (.c (.bool false))) 21,oM 45 44 22,oG 46 (.move (.t 5)) 45 true 23,oG 47 (.indexAddr 6 (.t 46) (iC 1)) 45 true 24,oG 48 (fA 1 47) 45 true 25,oG 49 (lD 48) 45 true 26,oG 50 (.eq .i false (.t 49) (iC 1)) 45 true 27,oN 51 (.pick (.t 45) (.t 50) (.c (.bool false))) 28,oM 52 51 29,oG 53 (.move (.t 1)) 52 true 30,oG 54 (.call 23 [(.t 53,.as)]) 52 true 31,oG 55 (.eq .i false (.t 54) (iC 3)) 52 true 32,oN 56 (.pick (.t 52) (.t 55) (.c (.bool false))) 33,oM 57 56 34,oG 58 (.move (.t 1)) 57 true 35,oG 59 (.call 54 [(.t 58,.as)]) 57 true 36,oG 60 (.len 1 (.t 59)) 57 true 37,oG 61 (.eq .i false (.t 60) (iC 0)) 57 true 38,oN 62 (.pick (.t 57) (.t 61) (.c (.bool false))) 39,oM 0 62 40] [0]) (kB [0] .ret)))))) }
theorem ok14:b0f Go.Proofs.Tryz.prog 14 F14=true:=by decide +kernel
def h0d:b1g :=
 (.seq (rN [
 oN 20 (.bin .lss (.t 19) (.t 18)) 0] [5,17,18,19,20]) (.seq (.cond (.t 20) (kS [5,17,18,19]) (kB [5] (.exit 0))) (kB [5,17,18,19] (.seq (.block 1 (.seq (.region [
 oM 21 19 0,oN 22 (.indexAddr 6 (.t 17) (.t 19)) 1,oN 23 (.load 6 true (.t 22)) 2,oN 7 (.alloc false 7 [.p (.int .i64 0),.p (.int .i64 0),.p (.str []),.p (.str []),.p (.str []),.p (.list [])] []) 3,oM 6 21 4,⟨none,.store 6 true (.t 7) (.t 23),none,5,[]⟩] false [5,6,7,17,18,19] [7]) (.seq (.draw [
 oM 24 5 0,oM 25 5 1,oN 26 (.nilCheck (.t 25)) 2,oN 27 (fA 0 26) 3,oN 28 (lD 27) 4,oN 29 (fA 1 7) 5,oN 30 (lD 29) 6,oN 31 (fA 2 7) 7,oN 32 (lD 31) 8,oN 33 (fA 3 7) 9,oN 34 (lD 33) 10,oN 35 (fA 4 7) 11,oN 36 (lD 35) 12,oN 37 (fA 5 7) 13,oN 38 (lD 37) 14,oN 39 (.pcall 56 [(.t 38,.as)]) 15,oN 40 (.build [.p (.bool false),.p (.int .i64 0),.nils,.p (.str []),.p (.str []),.p (.str []),.p (.list [])] [(0,1,.c (.bool true)),(1,1,.t 30),(3,1,.t 32),(4,1,.t 34),(5,1,.t 36),(6,1,.t 39)]) 16,oN 41 (.row 7 [.t 40]) 17,oN 42 (.append true 1000 7 112 (.t 28) (.t 41)) 18,oN 43 (.nilCheck (.t 24)) 19,oN 44 (fA 0 43) 20,⟨none,.store 1 false (.t 44) (.t 42),none,21,[]⟩] [5,6,7,17,18,19] [7]) (.seq (.draw [
 oM 45 5 0,oN 46 (.nilCheck (.t 45)) 1,oN 47 (fA 0 46) 2,oN 48 (lD 47) 3,oN 49 (fA 1 7) 4,oN 50 (lD 49) 5,oM 51 5 6,oN 52 (.nilCheck (.t 51)) 7,oN 53 (fA 0 52) 8,oN 54 (lD 53) 9,oN 55 (fA 1 7) 10,oN 56 (lD 55) 11,oN 57 (.indexAddr 7 (.t 54) (.t 56)) 12,oN 58 (fA 2 57) 13,oN 59 (lD 58) 14,oM 60 6 15,oN 61 (.bin .add (.t 60) (iC 1)) 16,oN 62 (.row 1 [.t 61]) 17,⟨some 63,.append true 1001 1 8 (.t 59) (.t 62),none,18,[3,5]⟩,oN 64 (.indexAddr 7 (.t 48) (.t 50)) 19,oN 65 (fA 2 64) 20,⟨none,.store 1 false (.t 65) (.t 63),none,21,[]⟩] [5,17,18,19] []) (kS [5,17,18,19]))))) (kB [5,17,18,19] (.seq (rN [
 oN 66 (.bin .add (.t 19) (iC 1)) 0,oM 19 66 1] [5,17,18,19]) (kS [5,17,18,19])))))))
def F15:b0u:={ nparams:=1,results:=[.tmp 2,.tmp 3],pure:=false,body :=
 (.seq (rN [
 oN 2 (.move (.c (.nilp))) 0,oN 3 (.move (iC 0)) 1] [0]) (.seq (rN [
 oM 8 0 0,oN 9 (.pcall 55 [(.t 8,.as)]) 1,oM 4 9 2] [0,4]) (.seq (rN [
 oM 10 4 0,oN 11 (.eq .i true (.t 10) (iC 0)) 1] [0,4,11]) (.seq (.cond (.t 11) (.seq (rN [
 oM 12 4 0,oN 2 (.move (.c (.nilp))) 1,oM 3 12 2] [2,3]) (kB [2,3] .ret)) (kS [0])) (kB [0] (.seq (rN [
 oN 13 (.build [.p (.bool false),.p (.int .i64 0),.nils,.p (.str []),.p (.str []),.p (.str []),.p (.list [])] [(0,1,.c (.bool true)),(1,1,.c (.int .i64 (-1)))]) 0,oN 14 (.rowOwn true 14 7 [.t 13]) 1,oN 15 (.build [.nils] [(0,1,.t 14)]) 2,oN 16 (.box true 16 (.t 15)) 3,oM 5 16 4] [0,5]) (.seq (rN [
 oM 17 0 0,oN 18 (.len 1 (.t 17)) 1,oN 19 (.move (iC 0)) 2] [5,17,18,19]) (.seq (.block 0 (.seq (kB [5,17,18,19] (.loop h0d)) (kS [5]))) (kB [5] (.seq (rN [
 oM 67 5 0,oM 2 67 1,oN 3 (.move (iC 0)) 2] [2,3]) (kB [2,3] .ret))))))))))) }
theorem ok15:b0f Go.Proofs.Tryz.prog 15 F15=true:=by decide +kernel
def F16:b0u:={ nparams:=1,results:=[.tmp 2],pure:=false,body :=
 (.seq (rN [
 oN 2 (.move (.c (.nilp))) 0] [0]) (.seq (rN [
 oM 4 0 0,oN 5 (.call 26 [(.t 4,.as)]) 1,oM 3 5 2] [3]) (.seq (rN [
 oM 6 3 0,oN 7 (.eq .ptr false (.t 6) (.c (.nilp))) 1] [3,7]) (.seq (.cond (.t 7) (.seq (rN [
 oN 2 (.move (.c (.nilp))) 0] [2]) (kB [2] .ret)) (kS [3])) (kB [3] (.seq (rN [
 oM 8 3 0,oN 9 (.build [.p (.nilp),.nils] [(0,1,.t 8)]) 1,oN 10 (.box true 10 (.t 9)) 2,oM 2 10 3] [2]) (kB [2] .ret))))))) }
theorem ok16:b0f Go.Proofs.Tryz.prog 16 F16=true:=by decide +kernel
def F17:b0u:={ nparams:=2,results:=[.tmp 4,.tmp 5],pure:=false,body :=
 (.seq (.region [
 oN 3 (.box false 3 (.t 1)) 0,oN 4 (.move (iC 0)) 1,oN 5 (.move (iC 0)) 2] false [0,3] [3]) (.seq (.region [
 oM 8 0 0,oN 9 (.call 57 [(.t 8,.as)]) 1,oN 10 (.un .not (.t 9)) 2] false [0,3,10] [3]) (.seq (.cond (.t 10) (.seq (rN [
 oN 4 (.move (iC 0)) 0,oN 5 (.move (iC 1)) 1] [4,5]) (kB [4,5] .ret)) (.keep [0,3] [3] .skip)) (.keep [0,3] [3] (.seq (.draw [
 oM 12 0 0,oN 13 (.nilCheck (.t 12)) 1,oN 14 (fA 0 13) 2,oN 15 (lD 14) 3,oN 16 (.load 9 true (.t 3)) 4,oN 17 (.call 58 [(.t 15,.as),(.t 16,.as)]) 5,oM 11 17 6,oN 18 (.extract (.t 11) 0) 7,oN 19 (.extract (.t 11) 1) 8,oM 6 18 9,oM 7 19 10] [0,3,6,7] [3]) (.seq (.region [
 oM 20 7 0,oN 21 (.eq .i true (.t 20) (iC 0)) 1] false [0,3,6,7,21] [3]) (.seq (.cond (.t 21) (.seq (rN [
 oM 22 7 0,oN 4 (.move (iC 0)) 1,oM 5 22 2] [4,5]) (kB [4,5] .ret)) (.keep [0,3,6] [3] .skip)) (.keep [0,3,6] [3] (.seq (.draw [
 oM 23 0 0,oN 24 (.nilCheck (.t 23)) 1,oN 25 (fA 1 24) 2,oN 26 (.load 9 true (.t 3)) 3,oM 27 6 4,oN 28 (.pcall 60 [(.t 26,.as),(.t 27,.as)]) 5,oN 29 (.call 59 [(.t 25,.as),(.t 28,.as)]) 6] [6] []) (.seq (rN [
 oM 30 6 0,oM 4 30 1,oN 5 (.move (iC 0)) 2] [4,5]) (kB [4,5] .ret))))))))))) }
theorem ok17:b0f Go.Proofs.Tryz.prog 17 F17=true:=by decide +kernel
def F18:b0u:={ nparams:=1,results:=[.tmp 2],pure:=true,body :=
 (.seq (.region [
 oN 1 (.box false 1 (.t 0)) 0,oN 2 (.move (iC 0)) 1] false [1] [1]) (.seq (.region [
 oN 5 (fA 0 1) 0,oN 6 (lD 5) 1,oN 7 (.bin .lss (.t 6) (iC 1)) 2,oM 8 7 3,oG 9 (fA 0 1) 8 false 4,oG 10 (lD 9) 8 false 5,oG 11 (.bin .gtr (.t 10) (iC 7)) 8 false 6,oN 12 (.pick (.t 8) (.c (.bool true)) (.t 11)) 7] false [1,12] [1]) (.seq (.cond (.t 12) (.seq (rN [
 oN 2 (.move (iC 6)) 0] [2]) (kB [2] .ret)) (.keep [1] [1] .skip)) (.keep [1] [1] (.seq (.region [
 oN 13 (fA 1 1) 0,oN 14 (lD 13) 1,oN 15 (.pcall 61 [(.t 14,.as)]) 2,oM 16 15 3,oG 17 (fA 2 1) 16 false 4,oG 18 (lD 17) 16 false 5,oG 19 (.pcall 61 [(.t 18,.as)]) 16 false 6,oN 20 (.pick (.t 16) (.c (.bool true)) (.t 19)) 7,oM 21 20 8,oG 22 (fA 3 1) 21 false 9,oG 23 (lD 22) 21 false 10,oG 24 (.pcall 61 [(.t 23,.as)]) 21 false 11,oN 25 (.pick (.t 21) (.c (.bool true)) (.t 24)) 12] false [1,25] [1]) (.seq (.cond (.t 25) (.seq (rN [
 oN 2 (.move (iC 5)) 0] [2]) (kB [2] .ret)) (.keep [1] [1] .skip)) (.keep [1] [1] (.seq (.region [
 oN 26 (.load 9 true (.t 1)) 0,oN 27 (.pcall 62 [(.t 26,.as)]) 1] false [1,27] [1]) (.seq (.cond (.t 27) (.seq (rN [
 oN 2 (.move (iC 2)) 0] [2]) (kB [2] .ret)) (.keep [1] [1] .skip)) (.keep [1] [1] (.seq (.region [
 oN 28 (fA 0 1) 0,oN 29 (lD 28) 1,oN 30 (.eq .i false (.t 29) (iC 1)) 2,oM 31 30 3,oG 32 (fA 4 1) 31 true 4,oG 33 (lD 32) 31 true 5,oG 34 (.pcall 63 [(.t 33,.as),(.c (.bool false),.as)]) 31 true 6,oG 35 (.un .not (.t 34)) 31 true 7,oN 36 (.pick (.t 31) (.t 35) (.c (.bool false))) 8] false [1,36] [1]) (.seq (.cond (.t 36) (.seq (rN [
 oN 2 (.move (iC 7)) 0] [2]) (kB [2] .ret)) (.keep [1] [1] .skip)) (.keep [1] [1] (.seq (.region [
 oN 37 (fA 0 1) 0,oN 38 (lD 37) 1,oN 39 (.eq .i false (.t 38) (iC 5)) 2,oM 40 39 3,oG 41 (fA 0 1) 40 false 4,oG 42 (lD 41) 40 false 5,oG 43 (.eq .i false (.t 42) (iC 6)) 40 false 6,oN 44 (.pick (.t 40) (.c (.bool true)) (.t 43)) 7,oM 45 44 8,oG 46 (fA 6 1) 45 true 9,oG 47 (lD 46) 45 true 10,oG 48 (.pcall 63 [(.t 47,.as),(.c (.bool true),.as)]) 45 true 11,oG 49 (.un .not (.t 48)) 45 true 12,oN 50 (.pick (.t 45) (.t 49) (.c (.bool false))) 13] false [1,50] [1]) (.seq (.cond (.t 50) (.seq (rN [
 oN 2 (.move (iC 8)) 0] [2]) (kB [2] .ret)) (.keep [1] [1] .skip)) (.keep [1] [1] (.seq (.region [
 oN 51 (fA 5 1) 0,oN 52 (lD 51) 1,oN 53 (.len 0 (.t 52)) 2,oN 54 (.bin .gtr (.t 53) (iC 65536)) 3,oM 55 54 4,oG 56 (fA 7 1) 55 false 5,oG 57 (lD 56) 55 false 6,oG 58 (.len 0 (.t 57)) 55 false 7,oG 59 (.bin .gtr (.t 58) (iC 65536)) 55 false 8,oN 60 (.pick (.t 55) (.c (.bool true)) (.t 59)) 9] false [1,60] [1]) (.seq (.cond (.t 60) (.seq (rN [
 oN 2 (.move (iC 3)) 0] [2]) (kB [2] .ret)) (.keep [1] [1] .skip)) (.keep [1] [1] (.seq (rN [
 oN 62 (fA 8 1) 0,oN 63 (lD 62) 1,oN 64 (.pcall 64 [(.t 63,.as)]) 2,oM 61 64 3,oN 65 (.extract (.t 61) 0) 4,oN 66 (.extract (.t 61) 1) 5,oM 3 65 6,oM 4 66 7] [4]) (.seq (rN [
 oM 67 4 0,oM 2 67 1] [2]) (kB [2] .ret)))))))))))))))))))))) }
theorem ok18:b0f Go.Proofs.Tryz.prog 18 F18=true:=by decide +kernel
def F19:b0u:={ nparams:=2,results:=[.tmp 4],pure:=false,body :=
 (.seq (.region [
 oN 3 (.box false 3 (.t 1)) 0,oN 4 (.move (iC 0)) 1] false [0,3] [3]) (.seq (.region [
 oM 7 0 0,oN 8 (.eq .ptr false (.t 7) (.c (.nilp))) 1,oM 9 8 2,oG 10 (.move (.t 0)) 9 false 3,oG 11 (.nilCheck (.t 10)) 9 false 4,oG 12 (fA 0 11) 9 false 5,oG 13 (lD 12) 9 false 6,oG 14 (.len 1 (.t 13)) 9 false 7,oG 15 (.eq .i false (.t 14) (iC 0)) 9 false 8,oN 16 (.pick (.t 9) (.c (.bool true)) (.t 15)) 9] false [0,3,16] [3]) (.seq (.cond (.t 16) (.seq (rN [
 oN 4 (.move (iC 1)) 0] [4]) (kB [4] .ret)) (.keep [0,3] [3] .skip)) (.keep [0,3] [3] (.seq (.region [
 oN 17 (.load 9 true (.t 3)) 0,oN 18 (.pcall 65 [(.t 17,.as)]) 1,oM 5 18 2] false [0,3,5] [3]) (.seq (.region [
 oM 19 5 0,oN 20 (.eq .i true (.t 19) (iC 0)) 1] false [0,3,5,20] [3]) (.seq (.cond (.t 20) (.seq (rN [
 oM 21 5 0,oM 4 21 1] [4]) (kB [4] .ret)) (.keep [0,3] [3] .skip)) (.keep [0,3] [3] (.seq (.region [
 oN 22 (fA 0 3) 0,oN 23 (lD 22) 1,oN 24 (.eq .i false (.t 23) (iC 1)) 2] false [0,3,24] [3]) (.seq (.cond (.t 24) (.seq (.draw [
 oM 25 0 0,oM 26 0 1,oN 27 (.nilCheck (.t 26)) 2,oN 28 (fA 0 27) 3,oN 29 (lD 28) 4,oN 30 (fA 4 3) 5,oN 31 (lD 30) 6,oN 32 (fA 5 3) 7,oN 33 (lD 32) 8,oN 34 (fA 7 3) 9,oN 35 (lD 34) 10,oN 36 (fA 8 3) 11,oN 37 (lD 36) 12,oN 38 (.pcall 56 [(.t 37,.as)]) 13,oN 39 (.build [.p (.bool false),.p (.int .i64 0),.nils,.p (.str []),.p (.str []),.p (.str []),.p (.list [])] [(0,1,.c (.bool true)),(1,1,.c (.int .i64 (-1))),(3,1,.t 31),(4,1,.t 33),(5,1,.t 35),(6,1,.t 38)]) 14,oN 40 (.row 7 [.t 39]) 15,oN 41 (.append true 1000 7 112 (.t 29) (.t 40)) 16,oN 42 (.nilCheck (.t 25)) 17,oN 43 (fA 0 42) 18,⟨none,.store 1 false (.t 43) (.t 41),none,19,[]⟩] [] []) (.seq (rN [
 oN 4 (.move (iC 0)) 0] [4]) (kB [4] .ret))) (.keep [0,3] [3] .skip)) (.keep [0,3] [3] (.seq (.region [
 oN 44 (fA 1 3) 0,oN 45 (lD 44) 1,oN 46 (.eq .i false (.t 45) (iC 0)) 2] false [0,3,46] [3]) (.seq (.cond (.t 46) (.seq (rN [
 oN 4 (.move (iC 14)) 0] [4]) (kB [4] .ret)) (.keep [0,3] [3] .skip)) (.keep [0,3] [3] (.seq (.region [
 oN 47 (fA 0 3) 0,oN 48 (lD 47) 1] false [0,3,48] [3]) (.seq (.block 0 (.seq (.region [
 oN 50 (.eq .i false (.t 48) (iC 2)) 0,oM 49 50 1] false [0,3,48,49] [3]) (.seq (.cond (.t 49) (.seq (rN [
 oM 51 0 0,oN 52 (.load 9 true (.t 3)) 1,oN 53 (.call 66 [(.t 51,.as),(.t 52,.as)]) 2,oM 4 53 3] [4]) (kB [4] .ret)) (.seq (.region [
 oN 55 (.eq .i false (.t 48) (iC 3)) 0,oM 54 55 1] false [0,3,54] [3]) (.seq (.cond (.t 54) (.seq (rN [
 oM 56 0 0,oN 57 (.load 9 true (.t 3)) 1,oN 58 (.call 67 [(.t 56,.as),(.t 57,.as)]) 2,oM 4 58 3] [4]) (kB [4] .ret)) (.keep [0,3] [3] .skip)) (.keep [0,3] [3] .skip)))) (.keep [0,3] [3] .skip)))) (.keep [0,3] [3] (.seq (.region [
 oM 59 0 0,oN 60 (fA 1 3) 1,oN 61 (lD 60) 2,oN 62 (.call 68 [(.t 59,.as),(.t 61,.as)]) 3,oM 6 62 4] false [0,3,6] [3]) (.seq (.region [
 oM 63 6 0,oN 64 (.eq .i true (.t 63) (iC 0)) 1] false [0,3,6,64] [3]) (.seq (.cond (.t 64) (.seq (rN [
 oM 65 6 0,oM 4 65 1] [4]) (kB [4] .ret)) (.keep [0,3] [3] .skip)) (.keep [0,3] [3] (.seq (.region [
 oN 66 (fA 0 3) 0,oN 67 (lD 66) 1,oN 68 (.eq .i false (.t 67) (iC 4)) 2] false [0,3,68] [3]) (.seq (.cond (.t 68) (.seq (.region [
 oM 69 0 0,oN 70 (fA 1 3) 1,oN 71 (lD 70) 2,oN 72 (.call 69 [(.t 69,.as),(.t 71,.as)]) 3] false [0,3] [3]) (.seq (rN [
 oM 73 0 0,oN 74 (fA 1 3) 1,oN 75 (lD 74) 2,oN 76 (.call 70 [(.t 73,.as),(.t 75,.as)]) 3] []) (.seq (rN [
 oN 4 (.move (iC 0)) 0] [4]) (kB [4] .ret)))) (.keep [0,3] [3] .skip)) (.keep [0,3] [3] (.seq (.draw [
 oM 77 0 0,oM 78 0 1,oN 79 (.nilCheck (.t 78)) 2,oN 80 (fA 0 79) 3,oN 81 (lD 80) 4,oN 82 (fA 1 3) 5,oN 83 (lD 82) 6,oN 84 (.indexAddr 7 (.t 81) (.t 83)) 7,oN 85 (.load 9 true (.t 3)) 8,oN 86 (.call 71 [(.t 77,.as),(.t 84,.as),(.t 85,.as)]) 9,oM 4 86 10] [4] []) (kB [4] .ret)))))))))))))))))))))))))) }
theorem ok19:b0f Go.Proofs.Tryz.prog 19 F19=true:=by decide +kernel
def h4g:b1g :=
 (.seq (rN [
 oN 14 (.bin .lss (.t 13) (.t 12)) 0] [0,1,12,13,14]) (.seq (.cond (.t 14) (kS [0,1,12,13]) (kB [0,1] (.exit 0))) (kB [0,1,12,13] (.seq (.block 1 (.seq (rN [
 oM 15 13 0,oM 5 15 1] [0,1,5,12,13]) (.seq (.region [
 oM 16 0 0,oM 17 5 1,oN 18 (.indexAddr 6 (.t 16) (.t 17)) 2,oN 19 (fA 0 18) 3,oN 20 (lD 19) 4,oM 21 1 5,oM 22 5 6,oN 23 (.indexAddr 6 (.t 21) (.t 22)) 7,oN 24 (fA 0 23) 8,oN 25 (lD 24) 9,oN 26 (.eq .i true (.t 20) (.t 25)) 10] true [0,1,12,13,26] []) (.seq (.cond (.t 26) (.seq (rN [
 oN 4 (.move (.c (.bool false))) 0] [4]) (kB [4] .ret)) (kS [0,1,12,13])) (kS [0,1,12,13]))))) (kB [0,1,12,13] (.seq (rN [
 oN 27 (.bin .add (.t 13) (iC 1)) 0,oM 13 27 1] [0,1,12,13]) (kS [0,1,12,13])))))))
def F20:b0u:={ nparams:=2,results:=[.tmp 4],pure:=true,body :=
 (.seq (rN [
 oN 4 (.move (.c (.bool false))) 0] [0,1]) (.seq (rN [
 oM 6 0 0,oN 7 (.len 1 (.t 6)) 1,oM 8 1 2,oN 9 (.len 1 (.t 8)) 3,oN 10 (.eq .i true (.t 7) (.t 9)) 4] [0,1,10]) (.seq (.cond (.t 10) (.seq (rN [
 oN 4 (.move (.c (.bool false))) 0] [4]) (kB [4] .ret)) (kS [0,1])) (kB [0,1] (.seq (rN [
 oM 11 0 0,oN 12 (.len 1 (.t 11)) 1,oN 13 (.move (iC 0)) 2] [0,1,12,13]) (.seq (.block 0 (.seq (kB [0,1,12,13] (.loop h4g)) (kS [0,1]))) (kB [0,1] (.seq (rN [
 oM 28 0 0,oM 29 1 1,oN 30 (.pcall 38 [(.t 28,.as),(.t 29,.as)]) 2,oM 4 30 3] [4]) (kB [4] .ret))))))))) }
theorem ok20:b0f Go.Proofs.Tryz.prog 20 F20=true:=by decide +kernel
def F21:b0u:={ nparams:=1,results:=[.tmp 2],pure:=false,body :=
 (.seq (rN [
 oN 2 (.move (.c (.list []))) 0] [0]) (.seq (rN [
 oM 3 0 0,oN 4 (.eq .ptr false (.t 3) (.c (.nilp))) 1,oM 5 4 2,oG 6 (.move (.t 0)) 5 false 3,oG 7 (.nilCheck (.t 6)) 5 false 4,oG 8 (fA 0 7) 5 false 5,oG 9 (lD 8) 5 false 6,oG 10 (.len 1 (.t 9)) 5 false 7,oG 11 (.eq .i false (.t 10) (iC 0)) 5 false 8,oN 12 (.pick (.t 5) (.c (.bool true)) (.t 11)) 9] [0,12]) (.seq (.cond (.t 12) (.seq (rN [
 oN 2 (.move (.c (.list []))) 0] [2]) (kB [2] .ret)) (kS [0])) (kB [0] (.seq (rN [
 oM 13 0 0,oN 14 (.call 72 [(.t 13,.as),(.c (.list []),.fresh 6),(.c (.int .i64 0),.as),(.c (.int .i64 0),.as)]) 1,oM 2 14 2] [2]) (kB [2] .ret)))))) }
theorem ok21:b0f Go.Proofs.Tryz.prog 21 F21=true:=by decide +kernel
def F22:b0u:={ nparams:=1,results:=[.tmp 2],pure:=false,body :=
 (.seq (rN [
 oN 2 (.move (.c (.list []))) 0] [0]) (.seq (rN [
 oM 3 0 0,oN 4 (.call 57 [(.t 3,.as)]) 1,oN 5 (.un .not (.t 4)) 2] [0,5]) (.seq (.cond (.t 5) (.seq (rN [
 oN 2 (.move (.c (.list []))) 0] [2]) (kB [2] .ret)) (kS [0])) (kB [0] (.seq (rN [
 oM 6 0 0,oN 7 (.nilCheck (.t 6)) 1,oN 8 (fA 0 7) 2,oN 9 (lD 8) 3,oN 10 (.call 33 [(.t 9,.as)]) 4,oM 2 10 5] [2]) (kB [2] .ret)))))) }
theorem ok22:b0f Go.Proofs.Tryz.prog 22 F22=true:=by decide +kernel
def F23:b0u:={ nparams:=1,results:=[.tmp 2],pure:=false,body :=
 (.seq (rN [
 oN 2 (.move (iC 0)) 0] [0]) (.seq (rN [
 oM 3 0 0,oN 4 (.eq .ptr false (.t 3) (.c (.nilp))) 1] [0,4]) (.seq (.cond (.t 4) (.seq (rN [
 oN 2 (.move (iC 0)) 0] [2]) (kB [2] .ret)) (kS [0])) (kB [0] (.seq (rN [
 oM 5 0 0,oN 6 (.nilCheck (.t 5)) 1,oN 7 (fA 0 6) 2,oN 8 (lD 7) 3,oN 9 (.len 1 (.t 8)) 4,oM 2 9 5] [2]) (kB [2] .ret)))))) }
theorem ok23:b0f Go.Proofs.Tryz.prog 23 F23=true:=by decide +kernel
def F24:b0u:={ nparams:=1,results:=[.tmp 2],pure:=false,body :=
 (.seq (rN [
 oN 2 (.move (iC 0)) 0] [0]) (.seq (rN [
 oM 3 0 0,oN 4 (.call 57 [(.t 3,.as)]) 1,oN 5 (.un .not (.t 4)) 2] [0,5]) (.seq (.cond (.t 5) (.seq (rN [
 oN 2 (.move (iC 0)) 0] [2]) (kB [2] .ret)) (kS [0])) (kB [0] (.seq (rN [
 oM 6 0 0,oN 7 (.nilCheck (.t 6)) 1,oN 8 (fA 0 7) 2,oN 9 (lD 8) 3,oN 10 (.call 35 [(.t 9,.as)]) 4,oM 2 10 5] [2]) (kB [2] .ret)))))) }
theorem ok24:b0f Go.Proofs.Tryz.prog 24 F24=true:=by decide +kernel
def F26:b0u:={ nparams:=1,results:=[.tmp 2],pure:=false,body :=
 (.seq (rN [
 oN 2 (.move (.c (.nilp))) 0] [0]) (.seq (rN [
 oM 3 0 0,oN 4 (.bin .lss (.t 3) (iC 1)) 1,oM 5 4 2,oG 6 (.move (.t 0)) 5 false 3,oG 7 (.bin .gtr (.t 6) (iC 4294967296)) 5 false 4,oN 8 (.pick (.t 5) (.c (.bool true)) (.t 7)) 5] [0,8]) (.seq (.cond (.t 8) (.seq (rN [
 oN 2 (.move (.c (.nilp))) 0] [2]) (kB [2] .ret)) (kS [0])) (kB [0] (.seq (rN [
 oN 9 (.makeMap true 9) 0,oN 10 (.call 73 [(.c (.int .i64 0),.as)]) 1,oN 11 (.build [.p (.nilp),.p (.str []),.p (.str []),.p (.str []),.p (.list [])] [(0,1,.t 10)]) 2,oN 12 (.box true 12 (.t 11)) 3,⟨none,.mapUpdate 1 (.t 9) (iC 0) (.t 12),none,4,[]⟩,oM 13 9 5,oM 14 0 6,oN 15 (.build [.p (.nilm),.p (.int .i64 0)] [(0,1,.t 13),(1,1,.t 14)]) 7,oN 16 (.box true 16 (.t 15)) 8,oM 2 16 9] [2]) (kB [2] .ret)))))) }
theorem ok26:b0f Go.Proofs.Tryz.prog 26 F26=true:=by decide +kernel
def F33:b0u:={ nparams:=1,results:=[.tmp 2],pure:=false,body :=
 (.seq (rN [
 oN 1 (.box true 1 (.t 0)) 0,oN 2 (.move (.c (.list []))) 1] [1]) (.seq (rN [
 oN 3 (.alloc true 3 [.p (.list [])] [(0,1000,6)]) 0] [1,3]) (.seq (rN [
 oN 5 (lD 1) 0,oN 6 (.eq .ptr false (.t 5) (.c (.nilp))) 1] [1,3,6]) (.seq (.cond (.t 6) (.seq (rN [
 oN 7 (lD 3) 0,oM 2 7 1] [2]) (kB [2] .ret)) (kS [1,3])) (kB [1,3] (.seq (rN [
 oN 4 (.alloc true 4 [.p (.nilf)] []) 0] [1,3,4]) (.seq (rN [
 oN 8 (.makeFunc 82 [.t 1,.t 3,.t 4]) 0,⟨none,.store 1 false (.t 4) (.t 8),none,1,[]⟩] [1,3,4]) (.seq (.draw [
 oN 9 (lD 4) 0,oN 10 (lD 1) 1,oN 11 (.nilCheck (.t 10)) 2,oN 12 (fA 0 11) 3,oN 13 (lD 12) 4,oN 14 (.lookup 1 (.nilp) false (.t 13) (iC 0)) 5,oN 15 (.nilCheck (.t 14)) 6,oN 16 (fA 0 15) 7,oN 17 (lD 16) 8,oN 18 (.callv (.t 9) [(.t 17,.as),(.c (.int .i64 0),.as)]) 9] [3] []) (.seq (rN [
 oN 19 (lD 3) 0,oM 2 19 1] [2]) (kB [2] .ret)))))))))) }
theorem ok33:b0f Go.Proofs.Tryz.prog 33 F33=true:=by decide +kernel
def F35:b0u:={ nparams:=1,results:=[.tmp 2],pure:=false,body :=
 (.seq (rN [
 oN 2 (.move (iC 0)) 0] [0]) (.seq (rN [
 oM 3 0 0,oN 4 (.eq .ptr false (.t 3) (.c (.nilp))) 1] [0,4]) (.seq (.cond (.t 4) (.seq (rN [
 oN 2 (.move (iC 0)) 0] [2]) (kB [2] .ret)) (kS [0])) (kB [0] (.seq (rN [
 oM 5 0 0,oN 6 (.nilCheck (.t 5)) 1,oN 7 (fA 1 6) 2,oN 8 (lD 7) 3,oM 2 8 4] [2]) (kB [2] .ret)))))) }
theorem ok35:b0f Go.Proofs.Tryz.prog 35 F35=true:=by decide +kernel
def h4f:b1g :=
 (.seq (rN [
 oN 16 (.bin .lss (.t 15) (.t 14)) 0] [0,1,14,15,16]) (.seq (.cond (.t 16) (kS [0,1,14,15]) (kB [] (.exit 0))) (kB [0,1,14,15] (.seq (.block 1 (.seq (rN [
 oM 17 15 0,oM 5 17 1] [0,1,5,14,15]) (.seq (.region [
 oM 18 0 0,oM 19 5 1,oN 20 (.indexAddr 6 (.t 18) (.t 19)) 2,oN 21 (.load 6 true (.t 20)) 3,oN 6 (.alloc false 6 [.p (.int .i64 0),.p (.int .i64 0),.p (.str []),.p (.str []),.p (.str []),.p (.list [])] []) 4,⟨none,.store 6 true (.t 6) (.t 21),none,5,[]⟩] false [0,1,5,6,14,15] [6]) (.seq (.region [
 oM 22 1 0,oM 23 5 1,oN 24 (.indexAddr 6 (.t 22) (.t 23)) 2,oN 25 (.load 6 true (.t 24)) 3,oN 7 (.alloc false 7 [.p (.int .i64 0),.p (.int .i64 0),.p (.str []),.p (.str []),.p (.str []),.p (.list [])] []) 4,⟨none,.store 6 true (.t 7) (.t 25),none,5,[]⟩] false [0,1,6,7,14,15] [6,7]) (.seq (rN [
 oN 26 (fA 1 6) 0,oN 27 (lD 26) 1,oN 28 (fA 1 7) 2,oN 29 (lD 28) 3,oN 30 (.eq .i true (.t 27) (.t 29)) 4,oM 31 30 5,oG 32 (fA 2 6) 31 false 6,oG 33 (lD 32) 31 false 7,oG 34 (fA 2 7) 31 false 8,oG 35 (lD 34) 31 false 9,oG 36 (.eq .s true (.t 33) (.t 35)) 31 false 10,oN 37 (.pick (.t 31) (.c (.bool true)) (.t 36)) 11,oM 38 37 12,oG 39 (fA 3 6) 38 false 13,oG 40 (lD 39) 38 false 14,oG 41 (fA 3 7) 38 false 15,oG 42 (lD 41) 38 false 16,oG 43 (.eq .s true (.t 40) (.t 42)) 38 false 17,oN 44 (.pick (.t 38) (.c (.bool true)) (.t 43)) 18,oM 45 44 19,oG 46 (fA 4 6) 45 false 20,oG 47 (lD 46) 45 false 21,oG 48 (fA 4 7) 45 false 22,oG 49 (lD 48) 45 false 23,oG 50 (.eq .s true (.t 47) (.t 49)) 45 false 24,oN 51 (.pick (.t 45) (.c (.bool true)) (.t 50)) 25,oM 52 51 26,oG 53 (fA 5 6) 52 false 27,oG 54 (lD 53) 52 false 28,oG 55 (fA 5 7) 52 false 29,oG 56 (lD 55) 52 false 30,oG 57 (.pcall 87 [(.t 54,.as),(.t 56,.as)]) 52 false 31,oG 58 (.un .not (.t 57)) 52 false 32,oN 59 (.pick (.t 52) (.c (.bool true)) (.t 58)) 33] [0,1,14,15,59]) (.seq (.cond (.t 59) (.seq (rN [
 oN 4 (.move (.c (.bool false))) 0] [4]) (kB [4] .ret)) (kS [0,1,14,15])) (kS [0,1,14,15]))))))) (kB [0,1,14,15] (.seq (rN [
 oN 60 (.bin .add (.t 15) (iC 1)) 0,oM 15 60 1] [0,1,14,15]) (kS [0,1,14,15])))))))
def F38:b0u:={ nparams:=2,results:=[.tmp 4],pure:=true,body :=
 (.seq (rN [
 oN 4 (.move (.c (.bool false))) 0] [0,1]) (.seq (rN [
 oM 8 0 0,oN 9 (.len 1 (.t 8)) 1,oM 10 1 2,oN 11 (.len 1 (.t 10)) 3,oN 12 (.eq .i true (.t 9) (.t 11)) 4] [0,1,12]) (.seq (.cond (.t 12) (.seq (rN [
 oN 4 (.move (.c (.bool false))) 0] [4]) (kB [4] .ret)) (kS [0,1])) (kB [0,1] (.seq (rN [
 oM 13 0 0,oN 14 (.len 1 (.t 13)) 1,oN 15 (.move (iC 0)) 2] [0,1,14,15]) (.seq (.block 0 (.seq (kB [0,1,14,15] (.loop h4f)) (kS []))) (kB [] (.seq (rN [
 oN 4 (.move (.c (.bool true))) 0] [4]) (kB [4] .ret))))))))) }
theorem ok38:b0f Go.Proofs.Tryz.prog 38 F38=true:=by decide +kernel
def d3t:b1g :=
 (.seq (rN [
 oN 7 (.bin .lss (.t 6) (.t 5)) 0] [0,5,6,7]) (.seq (.cond (.t 7) (kS [0,5,6]) (kB [] (.exit 0))) (kB [0,5,6] (.seq (.block 1 (.seq (rN [
 oM 8 6 0,oM 3 8 1] [0,3,5,6]) (.seq (rN [
 oM 9 3 0,oN 10 (.eq .i false (.t 9) (iC 0)) 1,oM 11 10 2,oG 12 (.move (.t 0)) 11 true 3,oG 13 (.move (.t 3)) 11 true 4,oG 14 (.indexAddr 6 (.t 12) (.t 13)) 11 true 5,oG 15 (fA 1 14) 11 true 6,oG 16 (lD 15) 11 true 7,oG 17 (.eq .i true (.t 16) (iC 0)) 11 true 8,oN 18 (.pick (.t 11) (.t 17) (.c (.bool false))) 9,oM 19 18 10,oG 20 (.move (.t 3)) 19 false 11,oG 21 (.bin .gtr (.t 20) (iC 0)) 19 false 12,oG 22 (.move (.t 21)) 19 false 13,oG 23 (.move (.t 0)) 22 true 14,oG 24 (.move (.t 3)) 22 true 15,oG 25 (.indexAddr 6 (.t 23) (.t 24)) 22 true 16,oG 26 (fA 1 25) 22 true 17,oG 27 (lD 26) 22 true 18,oG 28 (.bin .lss (.t 27) (iC 1)) 22 true 19,oG 29 (.move (.t 28)) 22 true 20,oG 30 (.move (.t 0)) 29 false 21,oG 31 (.move (.t 3)) 29 false 22,oG 32 (.move (.t 0)) 29 false 23,oG 33 (.move (.t 3)) 29 false 24,oG 34 (.indexAddr 6 (.t 32) (.t 33)) 29 false 25,oG 35 (fA 1 34) 29 false 26,oG 36 (lD 35) 29 false 27,oG 37 (.pcall 104 [(.t 30,.as),(.t 31,.as),(.t 36,.as)]) 29 false 28,oG 38 (.un .not (.t 37)) 29 false 29,oG 39 (.pick (.t 29) (.c (.bool true)) (.t 38)) 22 true 30,oG 40 (.pick (.t 22) (.t 39) (.c (.bool false))) 19 false 31,oN 41 (.pick (.t 19) (.c (.bool true)) (.t 40)) 32] [0,5,6,41]) (.seq (.cond (.t 41) (.seq (rN [
 oN 2 (.move (.c (.bool false))) 0] [2]) (kB [2] .ret)) (kS [0,5,6])) (kS [0,5,6]))))) (kB [0,5,6] (.seq (rN [
 oN 42 (.bin .add (.t 6) (iC 1)) 0,oM 6 42 1] [0,5,6]) (kS [0,5,6])))))))
def F50:b0u:={ nparams:=1,results:=[.tmp 2],pure:=true,body :=
 (.seq (rN [
 oN 2 (.move (.c (.bool false))) 0] [0]) (.seq (rN [
 oM 4 0 0,oN 5 (.len 1 (.t 4)) 1,oN 6 (.move (iC 0)) 2] [0,5,6]) (.seq (.block 0 (.seq (kB [0,5,6] (.loop d3t)) (kS []))) (kB [] (.seq (rN [
 oN 2 (.move (.c (.bool true))) 0] [2]) (kB [2] .ret)))))) }
theorem ok50:b0f Go.Proofs.Tryz.prog 50 F50=true:=by decide +kernel
def h0c:b1g :=
 (.seq (rN [
 oM 6 1 0,oN 7 (.bin .gtr (.t 6) (iC 0)) 1] [0,1,5,7]) (.seq (.cond (.t 7) (kS [0,1,5]) (kB [5] (.exit 0))) (kB [0,1,5] (.seq (.block 1 (.seq (rN [
 oM 8 5 0,oN 9 (.bin .add (.t 8) (iC 1)) 1,oM 5 9 2] [0,1,5]) (.seq (rN [
 oM 10 0 0,oM 11 1 1,oN 12 (.bin .sub (.t 11) (iC 1)) 2,oN 13 (.indexAddr 6 (.t 10) (.t 12)) 3,oN 14 (fA 1 13) 4,oN 15 (lD 14) 5,oM 1 15 6] [0,1,5]) (kS [0,1,5])))) (kS [0,1,5])))))
def F51:b0u:={ nparams:=2,results:=[.tmp 4],pure:=true,body :=
 (.seq (rN [
 oN 4 (.move (iC 0)) 0] [0,1]) (.seq (rN [
 oN 5 (.move (iC 0)) 0] [0,1,5]) (.seq (.block 0 (.seq (kB [0,1,5] (.loop h0c)) (kS [5]))) (kB [5] (.seq (rN [
 oM 16 5 0,oM 4 16 1] [4]) (kB [4] .ret)))))) }
theorem ok51:b0f Go.Proofs.Tryz.prog 51 F51=true:=by decide +kernel
def F52:b0u:={ nparams:=1,results:=[.tmp 2],pure:=true,body :=
 (.seq (.region [
 oN 1 (.box false 1 (.t 0)) 0,oN 2 (.move (iC 0)) 1] false [1] [1]) (.seq (.region [
 oN 5 (fA 0 1) 0,oN 6 (lD 5) 1,oN 7 (.pcall 63 [(.t 6,.as),(.c (.bool false),.as)]) 2,oN 8 (.un .not (.t 7)) 3] false [1,8] [1]) (.seq (.cond (.t 8) (.seq (rN [
 oN 2 (.move (iC 7)) 0] [2]) (kB [2] .ret)) (.keep [1] [1] .skip)) (.keep [1] [1] (.seq (.region [
 oN 9 (fA 1 1) 0,oN 10 (lD 9) 1,oN 11 (.len 0 (.t 10)) 2,oN 12 (.bin .gtr (.t 11) (iC 65536)) 3,oM 13 12 4,oG 14 (fA 2 1) 13 false 5,oG 15 (lD 14) 13 false 6,oG 16 (.len 0 (.t 15)) 13 false 7,oG 17 (.bin .gtr (.t 16) (iC 65536)) 13 false 8,oN 18 (.pick (.t 13) (.c (.bool true)) (.t 17)) 9] false [1,18] [1]) (.seq (.cond (.t 18) (.seq (rN [
 oN 2 (.move (iC 3)) 0] [2]) (kB [2] .ret)) (.keep [1] [1] .skip)) (.keep [1] [1] (.seq (rN [
 oN 20 (fA 3 1) 0,oN 21 (lD 20) 1,oN 22 (.pcall 64 [(.t 21,.as)]) 2,oM 19 22 3,oN 23 (.extract (.t 19) 0) 4,oN 24 (.extract (.t 19) 1) 5,oM 3 23 6,oM 4 24 7] [4]) (.seq (rN [
 oM 25 4 0,oM 2 25 1] [2]) (kB [2] .ret)))))))))) }
theorem ok52:b0f Go.Proofs.Tryz.prog 52 F52=true:=by decide +kernel
def j2m:b1g :=
 (.seq (rN [
 oN 22 (.bin .lss (.t 21) (.t 20)) 0] [0,1,19,20,21,22]) (.seq (.cond (.t 22) (kS [0,1,19,20,21]) (kB [1] (.exit 0))) (kB [0,1,19,20,21] (.seq (.block 1 (.seq (.region [
 oM 23 21 0,oN 24 (.indexAddr 9 (.t 19) (.t 21)) 1,oN 25 (.load 9 true (.t 24)) 2,oN 7 (.alloc false 7 [.p (.int .i64 0),.p (.int .i64 0),.p (.int .i64 0),.p (.int .i64 0),.p (.str []),.p (.str []),.p (.str []),.p (.str []),.p (.list [])] []) 3,oM 6 23 4,⟨none,.store 9 true (.t 7) (.t 25),none,5,[]⟩] false [0,1,6,7,19,20,21] [7]) (.seq (rN [
 oM 26 0 0,oN 27 (.load 9 true (.t 7)) 1,oN 28 (.call 19 [(.t 26,.as),(.t 27,.as)]) 2,oM 8 28 3] [0,1,6,8,19,20,21]) (.seq (rN [
 oM 29 8 0,oN 30 (.eq .i true (.t 29) (iC 0)) 1] [0,1,6,8,19,20,21,30]) (.seq (.cond (.t 30) (.seq (rN [
 oM 31 6 0,oM 32 8 1,oM 4 31 2,oM 5 32 3] [4,5]) (kB [4,5] .ret)) (kS [0,1,19,20,21])) (kS [0,1,19,20,21])))))) (kB [0,1,19,20,21] (.seq (rN [
 oN 33 (.bin .add (.t 21) (iC 1)) 0,oM 21 33 1] [0,1,19,20,21]) (kS [0,1,19,20,21])))))))
def F53:b0u:={ nparams:=2,results:=[.tmp 4,.tmp 5],pure:=false,body :=
 (.seq (rN [
 oN 4 (.move (iC 0)) 0,oN 5 (.move (iC 0)) 1] [0,1]) (.seq (rN [
 oM 9 0 0,oN 10 (.eq .ptr false (.t 9) (.c (.nilp))) 1,oM 11 10 2,oG 12 (.move (.t 0)) 11 false 3,oG 13 (.nilCheck (.t 12)) 11 false 4,oG 14 (fA 0 13) 11 false 5,oG 15 (lD 14) 11 false 6,oG 16 (.len 1 (.t 15)) 11 false 7,oG 17 (.eq .i false (.t 16) (iC 0)) 11 false 8,oN 18 (.pick (.t 11) (.c (.bool true)) (.t 17)) 9] [0,1,18]) (.seq (.cond (.t 18) (.seq (rN [
 oN 4 (.move (iC 0)) 0,oN 5 (.move (iC 1)) 1] [4,5]) (kB [4,5] .ret)) (kS [0,1])) (kB [0,1] (.seq (rN [
 oM 19 1 0,oN 20 (.len 1 (.t 19)) 1,oN 21 (.move (iC 0)) 2] [0,1,19,20,21]) (.seq (.block 0 (.seq (kB [0,1,19,20,21] (.loop j2m)) (kS [1]))) (kB [1] (.seq (rN [
 oM 34 1 0,oN 35 (.len 1 (.t 34)) 1,oM 4 35 2,oN 5 (.move (iC 0)) 3] [4,5]) (kB [4,5] .ret))))))))) }
theorem ok53:b0f Go.Proofs.Tryz.prog 53 F53=true:=by decide +kernel
def j2l:b1g :=
 (.seq (rN [
 oN 15 (.bin .lss (.t 14) (.t 13)) 0] [3,12,13,14,15]) (.seq (.cond (.t 15) (kS [3,12,13,14]) (kB [3] (.exit 0))) (kB [3,12,13,14] (.seq (.block 1 (.seq (.region [
 oM 16 14 0,oN 17 (.indexAddr 7 (.t 12) (.t 14)) 1,oN 18 (.load 7 true (.t 17)) 2,oN 5 (.alloc false 5 [.p (.bool false),.p (.int .i64 0),.p (.list []),.p (.str []),.p (.str []),.p (.str []),.p (.list [])] []) 3,oM 4 16 4,⟨none,.store 7 true (.t 5) (.t 18),none,5,[]⟩] false [3,4,5,12,13,14] [5]) (.seq (rN [
 oM 19 4 0,oN 20 (.bin .gtr (.t 19) (iC 0)) 1,oM 21 20 2,oG 22 (fA 0 5) 21 true 3,oG 23 (lD 22) 21 true 4,oN 24 (.pick (.t 21) (.t 23) (.c (.bool false))) 5,oM 25 24 6,oG 26 (fA 1 5) 25 true 7,oG 27 (lD 26) 25 true 8,oG 28 (.bin .lss (.t 27) (iC 0)) 25 true 9,oN 29 (.pick (.t 25) (.t 28) (.c (.bool false))) 10] [3,4,12,13,14,29]) (.seq (.cond (.t 29) (.seq (rN [
 oM 30 3 0,oM 31 4 1,oN 32 (.row 1 [.t 31]) 2,oN 33 (.append true 1001 1 8 (.t 30) (.t 32)) 3,oM 3 33 4] [3,12,13,14]) (kS [3,12,13,14])) (kS [3,12,13,14])) (kS [3,12,13,14]))))) (kB [3,12,13,14] (.seq (rN [
 oN 34 (.bin .add (.t 14) (iC 1)) 0,oM 14 34 1] [3,12,13,14]) (kS [3,12,13,14])))))))
def F54:b0u:={ nparams:=1,results:=[.tmp 2],pure:=false,body :=
 (.seq (rN [
 oN 2 (.move (.c (.list []))) 0] [0]) (.seq (rN [
 oN 3 (.nilown true 1000 1) 0] [0,3]) (.seq (rN [
 oM 6 0 0,oN 7 (.eq .ptr false (.t 6) (.c (.nilp))) 1] [0,3,7]) (.seq (.cond (.t 7) (.seq (rN [
 oM 8 3 0,oM 2 8 1] [2]) (kB [2] .ret)) (kS [0,3])) (kB [0,3] (.seq (rN [
 oM 9 0 0,oN 10 (.nilCheck (.t 9)) 1,oN 11 (fA 0 10) 2,oN 12 (lD 11) 3,oN 13 (.len 1 (.t 12)) 4,oN 14 (.move (iC 0)) 5] [3,12,13,14]) (.seq (.block 0 (.seq (kB [3,12,13,14] (.loop j2l)) (kS [3]))) (kB [3] (.seq (rN [
 oM 35 3 0,oM 2 35 1] [2]) (kB [2] .ret)))))))))) }
theorem ok54:b0f Go.Proofs.Tryz.prog 54 F54=true:=by decide +kernel
def F55:b0u:={ nparams:=1,results:=[.tmp 2],pure:=true,body :=
 (.seq (rN [
 oN 2 (.move (iC 0)) 0] [0]) (.seq (rN [
 oM 5 0 0,oN 6 (.len 1 (.t 5)) 1,oN 7 (.eq .i false (.t 6) (iC 0)) 2] [0,7]) (.seq (.cond (.t 7) (.seq (rN [
 oN 2 (.move (iC 0)) 0] [2]) (kB [2] .ret)) (kS [0])) (kB [0] (.seq (rN [
 oM 9 0 0,oN 10 (.pcall 105 [(.t 9,.as)]) 1,oM 8 10 2,oN 11 (.extract (.t 8) 0) 3,oN 12 (.extract (.t 8) 1) 4,oN 3 (.alloc false 3 [.p (.str []),.p (.str []),.p (.str []),.p (.list []),.p (.list [])] []) 5,⟨none,.store 5 true (.t 3) (.t 11),none,6,[]⟩,oM 4 12 7] [4]) (.seq (rN [
 oM 13 4 0,oM 2 13 1] [2]) (kB [2] .ret))))))) }
theorem ok55:b0f Go.Proofs.Tryz.prog 55 F55=true:=by decide +kernel
def F57:b0u:={ nparams:=1,results:=[.tmp 2],pure:=false,body :=
 (.seq (rN [
 oN 2 (.move (.c (.bool false))) 0] [0]) (.seq (rN [
 oM 3 0 0,oN 4 (.eq .ptr true (.t 3) (.c (.nilp))) 1,oM 5 4 2,oG 6 (.move (.t 0)) 5 true 3,oG 7 (.nilCheck (.t 6)) 5 true 4,oG 8 (fA 0 7) 5 true 5,oG 9 (lD 8) 5 true 6,oG 10 (.eq .ptr true (.t 9) (.c (.nilp))) 5 true 7,oN 11 (.pick (.t 5) (.t 10) (.c (.bool false))) 8,oM 2 11 9] [2]) (kB [2] .ret))) }
theorem ok57:b0f Go.Proofs.Tryz.prog 57 F57=true:=by decide +kernel
def F58:b0u:={ nparams:=2,results:=[.tmp 4,.tmp 5],pure:=false,body :=
 (.seq (.region [
 oN 3 (.box false 3 (.t 1)) 0,oN 4 (.move (iC 0)) 1,oN 5 (.move (iC 0)) 2] false [0,3] [3]) (.seq (.region [
 oN 6 (fA 0 3) 0,oN 7 (lD 6) 1] false [0,3,7] [3]) (.seq (.block 0 (.seq (.region [
 oN 9 (.eq .i false (.t 7) (iC 1)) 0,oM 8 9 1] false [0,3,7,8] [3]) (.seq (.cond (.t 8) (.seq (rN [
 oM 10 0 0,oN 11 (fA 4 3) 1,oN 12 (lD 11) 2,oN 13 (fA 5 3) 3,oN 14 (lD 13) 4,oN 15 (fA 7 3) 5,oN 16 (lD 15) 6,oN 17 (fA 8 3) 7,oN 18 (lD 17) 8,oN 19 (.call 74 [(.t 10,.as),(.t 12,.as),(.t 14,.as),(.t 16,.as),(.t 18,.as)]) 9,oN 20 (.extract (.t 19) 0) 10,oN 21 (.extract (.t 19) 1) 11,oM 4 20 12,oM 5 21 13] [4,5]) (kB [4,5] .ret)) (.seq (.region [
 oN 23 (.eq .i false (.t 7) (iC 2)) 0,oM 22 23 1] false [0,3,7,22] [3]) (.seq (.cond (.t 22) (.seq (rN [
 oM 24 0 0,oN 25 (fA 1 3) 1,oN 26 (lD 25) 2,oN 27 (fA 2 3) 3,oN 28 (lD 27) 4,oN 29 (fA 3 3) 5,oN 30 (lD 29) 6,oN 31 (.call 75 [(.t 24,.as),(.t 26,.as),(.t 28,.as),(.t 30,.as)]) 7,oN 4 (.move (iC 0)) 8,oM 5 31 9] [4,5]) (kB [4,5] .ret)) (.seq (.region [
 oN 33 (.eq .i false (.t 7) (iC 3)) 0,oM 32 33 1] false [0,3,7,32] [3]) (.seq (.cond (.t 32) (.seq (rN [
 oM 34 0 0,oN 35 (fA 1 3) 1,oN 36 (lD 35) 2,oN 37 (fA 3 3) 3,oN 38 (lD 37) 4,oN 39 (.call 106 [(.t 34,.as),(.t 36,.as),(.t 38,.as)]) 5,oN 4 (.move (iC 0)) 6,oM 5 39 7] [4,5]) (kB [4,5] .ret)) (.seq (.region [
 oN 41 (.eq .i false (.t 7) (iC 4)) 0,oM 40 41 1] false [0,3,7,40] [3]) (.seq (.cond (.t 40) (.seq (rN [
 oM 42 0 0,oN 43 (fA 1 3) 1,oN 44 (lD 43) 2,oN 45 (.call 107 [(.t 42,.as),(.t 44,.as)]) 3,oN 4 (.move (iC 0)) 4,oM 5 45 5] [4,5]) (kB [4,5] .ret)) (.seq (.region [
 oN 47 (.eq .i false (.t 7) (iC 5)) 0,oM 46 47 1] false [0,3,7,46] [3]) (.seq (.cond (.t 46) (.seq (rN [
 oM 48 0 0,oN 49 (fA 1 3) 1,oN 50 (lD 49) 2,oN 51 (fA 6 3) 3,oN 52 (lD 51) 4,oN 53 (fA 7 3) 5,oN 54 (lD 53) 6,oN 55 (.call 108 [(.t 48,.as),(.t 50,.as),(.t 52,.as),(.t 54,.as)]) 7,oN 4 (.move (iC 0)) 8,oM 5 55 9] [4,5]) (kB [4,5] .ret)) (.seq (.region [
 oN 57 (.eq .i false (.t 7) (iC 6)) 0,oM 56 57 1] false [0,3,7,56] [3]) (.seq (.cond (.t 56) (.seq (rN [
 oM 58 0 0,oN 59 (fA 1 3) 1,oN 60 (lD 59) 2,oN 61 (fA 6 3) 3,oN 62 (lD 61) 4,oN 63 (.call 109 [(.t 58,.as),(.t 60,.as),(.t 62,.as)]) 5,oN 4 (.move (iC 0)) 6,oM 5 63 7] [4,5]) (kB [4,5] .ret)) (.seq (.region [
 oN 65 (.eq .i false (.t 7) (iC 7)) 0,oM 64 65 1] false [0,3,64] [3]) (.seq (.cond (.t 64) (.seq (rN [
 oM 66 0 0,oN 67 (fA 1 3) 1,oN 68 (lD 67) 2,oN 69 (fA 7 3) 3,oN 70 (lD 69) 4,oN 71 (.call 110 [(.t 66,.as),(.t 68,.as),(.t 70,.as)]) 5,oN 4 (.move (iC 0)) 6,oM 5 71 7] [4,5]) (kB [4,5] .ret)) (kS [])) (kS [])))) (kS [])))) (kS [])))) (kS [])))) (kS [])))) (kS [])))) (kS [])))) (kB [] (.seq (rN [
 oN 4 (.move (iC 0)) 0,oN 5 (.move (iC 6)) 1] [4,5]) (kB [4,5] .ret)))))) }
theorem ok58:b0f Go.Proofs.Tryz.prog 58 F58=true:=by decide +kernel
def F59:b0u:={ nparams:=2,results:=[],pure:=false,body :=
 (.seq (.region [
 oN 3 (.box false 3 (.t 1)) 0] false [0,3] [3]) (.seq (.draw [
 oM 4 0 0,oM 5 0 1,oN 6 (.nilCheck (.t 5)) 2,oN 7 (fA 0 6) 3,oN 8 (lD 7) 4,oN 9 (.load 9 true (.t 3)) 5,oN 10 (.row 9 [.t 9]) 6,oN 11 (.append true 1000 9 120 (.t 8) (.t 10)) 7,oN 12 (.nilCheck (.t 4)) 8,oN 13 (fA 0 12) 9,⟨none,.store 1 false (.t 13) (.t 11),none,10,[]⟩] [] []) (kS []))) }
theorem ok59:b0f Go.Proofs.Tryz.prog 59 F59=true:=by decide +kernel
def F60:b0u:={ nparams:=2,results:=[.cell 4 9 true],pure:=true,body :=
 (.seq (.region [
 oN 2 (.box false 2 (.t 0)) 0,oN 4 (.alloc false 4 [.p (.int .i64 0),.p (.int .i64 0),.p (.int .i64 0),.p (.int .i64 0),.p (.str []),.p (.str []),.p (.str []),.p (.str []),.p (.list [])] []) 1] false [1,2,4] [2,4]) (.seq (.region [
 oN 6 (fA 0 2) 0,oN 7 (lD 6) 1,oN 8 (fA 1 2) 2,oN 9 (lD 8) 3,oN 10 (.build [.p (.int .i64 0),.p (.int .i64 0),.p (.int .i64 0),.p (.int .i64 0),.p (.str []),.p (.str []),.p (.str []),.p (.str []),.p (.list [])] [(0,1,.t 7),(1,1,.t 9)]) 4,oN 5 (.alloc false 5 [.p (.int .i64 0),.p (.int .i64 0),.p (.int .i64 0),.p (.int .i64 0),.p (.str []),.p (.str []),.p (.str []),.p (.str []),.p (.list [])] []) 5,⟨none,.store 9 true (.t 5) (.t 10),none,6,[]⟩] false [1,2,4,5] [2,4,5]) (.seq (.region [
 oN 11 (fA 0 2) 0,oN 12 (lD 11) 1] false [1,2,4,5,12] [2,4,5]) (.seq (.block 0 (.seq (.block 4 (.seq (.block 3 (.seq (.block 2 (.seq (.block 1 (.seq (.region [
 oN 14 (.eq .i false (.t 12) (iC 1)) 0,oM 13 14 1] false [1,2,4,5,12,13] [2,4,5]) (.seq (.cond (.t 13) (.keep [1,2,4,5] [2,4,5] (.exit 1)) (.keep [2,4,5,12] [2,4,5] .skip)) (.keep [2,4,5,12] [2,4,5] (.seq (.region [
 oN 16 (.eq .i false (.t 12) (iC 2)) 0,oM 15 16 1] false [2,4,5,12,15] [2,4,5]) (.seq (.cond (.t 15) (.keep [2,4,5] [2,4,5] (.exit 2)) (.keep [2,4,5,12] [2,4,5] .skip)) (.keep [2,4,5,12] [2,4,5] (.seq (.region [
 oN 18 (.eq .i false (.t 12) (iC 3)) 0,oM 17 18 1] false [2,4,5,12,17] [2,4,5]) (.seq (.cond (.t 17) (.keep [2,4,5] [2,4,5] (.exit 3)) (.keep [2,4,5,12] [2,4,5] .skip)) (.keep [2,4,5,12] [2,4,5] (.seq (.region [
 oN 20 (.eq .i false (.t 12) (iC 5)) 0,oM 19 20 1] false [2,4,5,12,19] [2,4,5]) (.seq (.cond (.t 19) (.keep [2,4,5,19] [2,4,5] .skip) (.seq (.region [
 oN 21 (.eq .i false (.t 12) (iC 7)) 0,oM 19 21 1] false [2,4,5,19] [2,4,5]) (.keep [2,4,5,19] [2,4,5] .skip))) (.keep [2,4,5,19] [2,4,5] (.seq (.cond (.t 19) (.keep [2,4,5] [2,4,5] (.exit 4)) (.keep [2,4,5] [2,4,5] .skip)) (.keep [2,4,5] [2,4,5] (.exit 0)))))))))))))))) (.keep [1,2,4,5] [2,4,5] (.seq (.region [
 oM 22 1 0,oN 23 (fA 1 5) 1,⟨none,.store 1 false (.t 23) (.t 22),none,2,[]⟩] false [2,4,5] [2,4,5]) (.seq (.draw [
 oN 24 (fA 4 2) 0,oN 25 (lD 24) 1,oN 26 (fA 5 2) 2,oN 27 (lD 26) 3,oN 28 (fA 7 2) 4,oN 29 (lD 28) 5,oN 30 (fA 8 2) 6,oN 31 (lD 30) 7,oN 32 (.pcall 56 [(.t 31,.as)]) 8,oN 33 (fA 4 5) 9,⟨none,.store 1 false (.t 33) (.t 25),none,10,[3,5]⟩,oN 34 (fA 5 5) 11,⟨none,.store 1 false (.t 34) (.t 27),none,12,[5]⟩,oN 35 (fA 7 5) 13,⟨none,.store 1 false (.t 35) (.t 29),none,14,[]⟩,oN 36 (fA 8 5) 15,⟨none,.store 1 false (.t 36) (.t 32),none,16,[]⟩] [2,4,5] [2,4,5]) (.keep [2,4,5] [2,4,5] (.exit 0))))))) (.keep [2,4,5] [2,4,5] (.seq (.region [
 oN 37 (fA 2 2) 0,oN 38 (lD 37) 1,oN 39 (fA 2 5) 2,⟨none,.store 1 false (.t 39) (.t 38),none,3,[]⟩] false [2,4,5] [2,4,5]) (.keep [2,4,5] [2,4,5] .skip))))) (.keep [2,4,5] [2,4,5] (.seq (.region [
 oN 40 (fA 3 2) 0,oN 41 (lD 40) 1,oN 42 (fA 3 5) 2,⟨none,.store 1 false (.t 42) (.t 41),none,3,[]⟩] false [2,4,5] [2,4,5]) (.keep [2,4,5] [2,4,5] (.exit 0)))))) (.keep [2,4,5] [2,4,5] (.seq (.region [
 oN 43 (fA 7 2) 0,oN 44 (lD 43) 1,oN 45 (fA 7 5) 2,⟨none,.store 1 false (.t 45) (.t 44),none,3,[]⟩] false [2,4,5] [2,4,5]) (.keep [2,4,5] [2,4,5] (.exit 0)))))) (.keep [2,4,5] [2,4,5] (.seq (.region [
 oN 46 (fA 0 2) 0,oN 47 (lD 46) 1,oN 48 (.eq .i false (.t 47) (iC 5)) 2,oM 49 48 3,oG 50 (fA 0 2) 49 false 4,oG 51 (lD 50) 49 false 5,oG 52 (.eq .i false (.t 51) (iC 6)) 49 false 6,oN 53 (.pick (.t 49) (.c (.bool true)) (.t 52)) 7] false [2,4,5,53] [2,4,5]) (.seq (.cond (.t 53) (.seq (.region [
 oN 54 (fA 6 2) 0,oN 55 (lD 54) 1,oN 56 (fA 6 5) 2,⟨none,.store 1 false (.t 56) (.t 55),none,3,[]⟩] false [4,5] [4,5]) (.keep [4,5] [4,5] .skip)) (.keep [4,5] [4,5] .skip)) (.keep [4,5] [4,5] (.seq (.region [
 oN 57 (.load 9 true (.t 5)) 0,⟨none,.store 9 true (.t 4) (.t 57),none,1,[]⟩] false [4] [4]) (.keep [4] [4] .ret)))))))))) }
theorem ok60:b0f Go.Proofs.Tryz.prog 60 F60=true:=by decide +kernel
def F61:b0u:={ nparams:=1,results:=[.tmp 2],pure:=true,body :=
 (.seq (rN [
 oN 2 (.move (.c (.bool false))) 0] [0]) (.seq (rN [
 oM 3 0 0,oN 4 (.bin .lss (.t 3) (iC 0)) 1,oM 5 4 2,oG 6 (.move (.t 0)) 5 false 3,oG 7 (.bin .gtr (.t 6) (iC 4294967295)) 5 false 4,oN 8 (.pick (.t 5) (.c (.bool true)) (.t 7)) 5,oM 2 8 6] [2]) (kB [2] .ret))) }
theorem ok61:b0f Go.Proofs.Tryz.prog 61 F61=true:=by decide +kernel
def F62:b0u:={ nparams:=1,results:=[.tmp 2],pure:=true,body :=
 (.seq (.region [
 oN 1 (.box false 1 (.t 0)) 0,oN 2 (.move (.c (.bool false))) 1] false [1] [1]) (.seq (.region [
 oN 4 (fA 0 1) 0,oN 5 (lD 4) 1,oM 3 5 2] false [1,3] [1]) (.seq (.region [
 oM 6 3 0,oN 7 (.eq .i true (.t 6) (iC 1)) 1,oM 8 7 2,oG 9 (fA 4 1) 8 true 3,oG 10 (lD 9) 8 true 4,oG 11 (.eq .s true (.t 10) (.c (.str []))) 8 true 5,oG 12 (.move (.t 11)) 8 true 6,oG 13 (fA 5 1) 12 false 7,oG 14 (lD 13) 12 false 8,oG 15 (.eq .s true (.t 14) (.c (.str []))) 12 false 9,oG 16 (.pick (.t 12) (.c (.bool true)) (.t 15)) 8 true 10,oG 17 (.move (.t 16)) 8 true 11,oG 18 (fA 8 1) 17 false 12,oG 19 (lD 18) 17 false 13,oG 20 (.len 1 (.t 19)) 17 false 14,oG 21 (.bin .gtr (.t 20) (iC 0)) 17 false 15,oG 22 (.pick (.t 17) (.c (.bool true)) (.t 21)) 8 true 16,oN 23 (.pick (.t 8) (.t 22) (.c (.bool false))) 17] false [1,3,23] [1]) (.seq (.cond (.t 23) (.seq (rN [
 oN 2 (.move (.c (.bool true))) 0] [2]) (kB [2] .ret)) (.keep [1,3] [1] .skip)) (.keep [1,3] [1] (.seq (.region [
 oM 24 3 0,oN 25 (.eq .i false (.t 24) (iC 1)) 1,oM 26 25 2,oG 27 (fA 1 1) 26 true 3,oG 28 (lD 27) 26 true 4,oG 29 (.eq .i true (.t 28) (iC 0)) 26 true 5,oN 30 (.pick (.t 26) (.t 29) (.c (.bool false))) 6,oM 31 30 7,oG 32 (.move (.t 3)) 31 false 8,oG 33 (.eq .i true (.t 32) (iC 2)) 31 false 9,oG 34 (.move (.t 33)) 31 false 10,oG 35 (fA 2 1) 34 true 11,oG 36 (lD 35) 34 true 12,oG 37 (.eq .i true (.t 36) (iC 0)) 34 true 13,oG 38 (.pick (.t 34) (.t 37) (.c (.bool false))) 31 false 14,oN 39 (.pick (.t 31) (.c (.bool true)) (.t 38)) 15,oM 40 39 16,oG 41 (.move (.t 3)) 40 false 17,oG 42 (.eq .i true (.t 41) (iC 2)) 40 false 18,oG 43 (.move (.t 42)) 40 false 19,oG 44 (.move (.t 3)) 43 true 20,oG 45 (.eq .i true (.t 44) (iC 3)) 43 true 21,oG 46 (.pick (.t 43) (.t 45) (.c (.bool false))) 40 false 22,oG 47 (.move (.t 46)) 40 false 23,oG 48 (fA 3 1) 47 true 24,oG 49 (lD 48) 47 true 25,oG 50 (.eq .i true (.t 49) (iC 0)) 47 true 26,oG 51 (.pick (.t 47) (.t 50) (.c (.bool false))) 40 false 27,oN 52 (.pick (.t 40) (.c (.bool true)) (.t 51)) 28] false [1,3,52] [1]) (.seq (.cond (.t 52) (.seq (rN [
 oN 2 (.move (.c (.bool true))) 0] [2]) (kB [2] .ret)) (.keep [1,3] [1] .skip)) (.keep [1,3] [1] (.seq (rN [
 oM 53 3 0,oN 54 (.eq .i true (.t 53) (iC 5)) 1,oM 55 54 2,oG 56 (.move (.t 3)) 55 true 3,oG 57 (.eq .i true (.t 56) (iC 6)) 55 true 4,oN 58 (.pick (.t 55) (.t 57) (.c (.bool false))) 5,oM 59 58 6,oG 60 (fA 6 1) 59 true 7,oG 61 (lD 60) 59 true 8,oG 62 (.eq .s true (.t 61) (.c (.str []))) 59 true 9,oN 63 (.pick (.t 59) (.t 62) (.c (.bool false))) 10,oM 64 63 11,oG 65 (.move (.t 3)) 64 false 12,oG 66 (.eq .i true (.t 65) (iC 1)) 64 false 13,oG 67 (.move (.t 66)) 64 false 14,oG 68 (.move (.t 3)) 67 true 15,oG 69 (.eq .i true (.t 68) (iC 5)) 67 true 16,oG 70 (.pick (.t 67) (.t 69) (.c (.bool false))) 64 false 17,oG 71 (.move (.t 70)) 64 false 18,oG 72 (.move (.t 3)) 71 true 19,oG 73 (.eq .i true (.t 72) (iC 7)) 71 true 20,oG 74 (.pick (.t 71) (.t 73) (.c (.bool false))) 64 false 21,oG 75 (.move (.t 74)) 64 false 22,oG 76 (fA 7 1) 75 true 23,oG 77 (lD 76) 75 true 24,oG 78 (.eq .s true (.t 77) (.c (.str []))) 75 true 25,oG 79 (.pick (.t 75) (.t 78) (.c (.bool false))) 64 false 26,oN 80 (.pick (.t 64) (.c (.bool true)) (.t 79)) 27,oM 2 80 28] [2]) (kB [2] .ret)))))))))) }
theorem ok62:b0f Go.Proofs.Tryz.prog 62 F62=true:=by decide +kernel
def h0b:b1g :=
 (.seq (rN [
 oM 24 5 0,oM 25 0 1,oN 26 (.len 0 (.t 25)) 2,oN 27 (.bin .lss (.t 24) (.t 26)) 3] [0,1,5,27]) (.seq (.cond (.t 27) (kS [0,1,5]) (kB [] (.exit 0))) (kB [0,1,5] (.seq (.block 1 (.seq (rN [
 oM 30 0 0,oM 31 5 1,oN 32 (.index (.t 30) (.t 31)) 2,oM 33 1 3,oN 34 (.pcall 111 [(.t 32,.as),(.t 33,.as)]) 4,oN 35 (.un .not (.t 34)) 5] [0,1,5,35]) (.seq (.cond (.t 35) (.seq (rN [
 oN 4 (.move (.c (.bool false))) 0] [4]) (kB [4] .ret)) (kS [0,1,5])) (kS [0,1,5])))) (kB [0,1,5] (.seq (rN [
 oM 28 5 0,oN 29 (.bin .add (.t 28) (iC 1)) 1,oM 5 29 2] [0,1,5]) (kS [0,1,5])))))))
def F63:b0u:={ nparams:=2,results:=[.tmp 4],pure:=true,body :=
 (.seq (rN [
 oN 4 (.move (.c (.bool false))) 0] [0,1]) (.seq (rN [
 oM 6 0 0,oN 7 (.len 0 (.t 6)) 1,oN 8 (.bin .lss (.t 7) (iC 1)) 2,oM 9 8 3,oG 10 (.move (.t 0)) 9 false 4,oG 11 (.len 0 (.t 10)) 9 false 5,oG 12 (.bin .gtr (.t 11) (iC 32)) 9 false 6,oN 13 (.pick (.t 9) (.c (.bool true)) (.t 12)) 7,oM 14 13 8,oG 15 (.move (.t 0)) 14 false 9,oG 16 (.index (.t 15) (iC 0)) 14 false 10,oG 17 (.bin .lss (.t 16) (.c (.int .u8 97))) 14 false 11,oN 18 (.pick (.t 14) (.c (.bool true)) (.t 17)) 12,oM 19 18 13,oG 20 (.move (.t 0)) 19 false 14,oG 21 (.index (.t 20) (iC 0)) 19 false 15,oG 22 (.bin .gtr (.t 21) (.c (.int .u8 122))) 19 false 16,oN 23 (.pick (.t 19) (.c (.bool true)) (.t 22)) 17] [0,1,23]) (.seq (.cond (.t 23) (.seq (rN [
 oN 4 (.move (.c (.bool false))) 0] [4]) (kB [4] .ret)) (kS [0,1])) (kB [0,1] (.seq (rN [
 oN 5 (.move (iC 1)) 0] [0,1,5]) (.seq (.block 0 (.seq (kB [0,1,5] (.loop h0b)) (kS []))) (kB [] (.seq (rN [
 oN 4 (.move (.c (.bool true))) 0] [4]) (kB [4] .ret))))))))) }
theorem ok63:b0f Go.Proofs.Tryz.prog 63 F63=true:=by decide +kernel
def c4k:b1g :=
 (.seq (rN [
 oN 8 (.bin .lss (.t 7) (.t 6)) 0] [0,6,7,8]) (.seq (.cond (.t 8) (kS [0,6,7]) (kB [] (.exit 0))) (kB [0,6,7] (.seq (.block 1 (.seq (rN [
 oM 9 7 0,oM 4 9 1] [0,4,6,7]) (.seq (rN [
 oM 10 4 0,oN 11 (.eq .i false (.t 10) (iC 64)) 1] [0,4,6,7,11]) (.seq (.cond (.t 11) (.seq (rN [
 oM 12 4 0,oM 2 12 1,oN 3 (.move (iC 12)) 2] [2,3]) (kB [2,3] .ret)) (kS [0,4,6,7])) (kB [0,4,6,7] (.seq (rN [
 oM 13 0 0,oM 14 4 1,oN 15 (.indexAddr 2 (.t 13) (.t 14)) 2,oN 16 (fA 0 15) 3,oN 17 (lD 16) 4,oN 18 (.pcall 63 [(.t 17,.as),(.c (.bool true),.as)]) 5,oN 19 (.un .not (.t 18)) 6] [0,4,6,7,19]) (.seq (.cond (.t 19) (.seq (rN [
 oM 20 4 0,oM 2 20 1,oN 3 (.move (iC 8)) 2] [2,3]) (kB [2,3] .ret)) (kS [0,4,6,7])) (kB [0,4,6,7] (.seq (rN [
 oM 21 0 0,oM 22 4 1,oN 23 (.indexAddr 2 (.t 21) (.t 22)) 2,oN 24 (fA 1 23) 3,oN 25 (lD 24) 4,oN 26 (.len 0 (.t 25)) 5,oN 27 (.bin .gtr (.t 26) (iC 65536)) 6] [0,4,6,7,27]) (.seq (.cond (.t 27) (.seq (rN [
 oM 28 4 0,oM 2 28 1,oN 3 (.move (iC 3)) 2] [2,3]) (kB [2,3] .ret)) (kS [0,4,6,7])) (kB [0,4,6,7] (.seq (.region [
 oM 29 4 0,oN 30 (.bin .gtr (.t 29) (iC 0)) 1,oM 31 30 2,oG 32 (.move (.t 0)) 31 true 3,oG 33 (.move (.t 4)) 31 true 4,oG 34 (.bin .sub (.t 33) (iC 1)) 31 true 5,oG 35 (.indexAddr 2 (.t 32) (.t 34)) 31 true 6,oG 36 (fA 0 35) 31 true 7,oG 37 (lD 36) 31 true 8,oG 38 (.move (.t 0)) 31 true 9,oG 39 (.move (.t 4)) 31 true 10,oG 40 (.indexAddr 2 (.t 38) (.t 39)) 31 true 11,oG 41 (fA 0 40) 31 true 12,oG 42 (lD 41) 31 true 13,oG 43 (.eq .s false (.t 37) (.t 42)) 31 true 14,oN 44 (.pick (.t 31) (.t 43) (.c (.bool false))) 15] true [0,4,6,7,44] []) (.seq (.cond (.t 44) (.seq (rN [
 oM 45 4 0,oM 2 45 1,oN 3 (.move (iC 10)) 2] [2,3]) (kB [2,3] .ret)) (kS [0,4,6,7])) (kB [0,4,6,7] (.seq (.region [
 oM 46 4 0,oN 47 (.bin .gtr (.t 46) (iC 0)) 1,oM 48 47 2,oG 49 (.move (.t 0)) 48 true 3,oG 50 (.move (.t 4)) 48 true 4,oG 51 (.bin .sub (.t 50) (iC 1)) 48 true 5,oG 52 (.indexAddr 2 (.t 49) (.t 51)) 48 true 6,oG 53 (fA 0 52) 48 true 7,oG 54 (lD 53) 48 true 8,oG 55 (.move (.t 0)) 48 true 9,oG 56 (.move (.t 4)) 48 true 10,oG 57 (.indexAddr 2 (.t 55) (.t 56)) 48 true 11,oG 58 (fA 0 57) 48 true 12,oG 59 (lD 58) 48 true 13,oG 60 (.pcall 112 [(.t 54,.as),(.t 59,.as)]) 48 true 14,oG 61 (.bin .gtr (.t 60) (iC 0)) 48 true 15,oN 62 (.pick (.t 48) (.t 61) (.c (.bool false))) 16] true [0,4,6,7,62] []) (.seq (.cond (.t 62) (.seq (rN [
 oM 63 4 0,oM 2 63 1,oN 3 (.move (iC 9)) 2] [2,3]) (kB [2,3] .ret)) (kS [0,6,7])) (kS [0,6,7]))))))))))))))))) (kB [0,6,7] (.seq (rN [
 oN 64 (.bin .add (.t 7) (iC 1)) 0,oM 7 64 1] [0,6,7]) (kS [0,6,7])))))))
def F64:b0u:={ nparams:=1,results:=[.tmp 2,.tmp 3],pure:=true,body :=
 (.seq (rN [
 oN 2 (.move (iC 0)) 0,oN 3 (.move (iC 0)) 1] [0]) (.seq (rN [
 oM 5 0 0,oN 6 (.len 1 (.t 5)) 1,oN 7 (.move (iC 0)) 2] [0,6,7]) (.seq (.block 0 (.seq (kB [0,6,7] (.loop c4k)) (kS []))) (kB [] (.seq (rN [
 oN 2 (.move (iC 0)) 0,oN 3 (.move (iC 0)) 1] [2,3]) (kB [2,3] .ret)))))) }
theorem ok64:b0f Go.Proofs.Tryz.prog 64 F64=true:=by decide +kernel
def F65:b0u:={ nparams:=1,results:=[.tmp 2],pure:=true,body :=
 (.seq (.region [
 oN 1 (.box false 1 (.t 0)) 0,oN 2 (.move (iC 0)) 1] false [1] [1]) (.seq (.block 0 (.seq (.region [
 oN 6 (fA 0 1) 0,oN 7 (lD 6) 1,oN 8 (.bin .lss (.t 7) (iC 1)) 2,oM 9 8 3,oG 10 (fA 0 1) 9 false 4,oG 11 (lD 10) 9 false 5,oG 12 (.bin .gtr (.t 11) (iC 7)) 9 false 6,oN 13 (.pick (.t 9) (.c (.bool true)) (.t 12)) 7,oM 5 13 8] false [1,5] [1]) (.seq (.cond (.t 5) (.seq (rN [
 oN 2 (.move (iC 6)) 0] [2]) (kB [2] .ret)) (.seq (.region [
 oN 15 (fA 1 1) 0,oN 16 (lD 15) 1,oN 17 (.pcall 113 [(.t 16,.as)]) 2,oN 18 (.un .not (.t 17)) 3,oM 19 18 4,oG 20 (fA 2 1) 19 false 5,oG 21 (lD 20) 19 false 6,oG 22 (.pcall 113 [(.t 21,.as)]) 19 false 7,oG 23 (.un .not (.t 22)) 19 false 8,oN 24 (.pick (.t 19) (.c (.bool true)) (.t 23)) 9,oM 25 24 10,oG 26 (fA 3 1) 25 false 11,oG 27 (lD 26) 25 false 12,oG 28 (.pcall 113 [(.t 27,.as)]) 25 false 13,oG 29 (.un .not (.t 28)) 25 false 14,oN 30 (.pick (.t 25) (.c (.bool true)) (.t 29)) 15,oM 14 30 16] false [1,14] [1]) (.seq (.cond (.t 14) (.seq (rN [
 oN 2 (.move (iC 5)) 0] [2]) (kB [2] .ret)) (.seq (.region [
 oN 32 (.load 9 true (.t 1)) 0,oN 33 (.load 9 true (.t 1)) 1,oN 34 (.pcall 115 [(.t 33,.as)]) 2,oN 35 (.pcall 114 [(.t 32,.as),(.t 34,.as)]) 3,oN 36 (.un .not (.t 35)) 4,oM 31 36 5] true [1,31] [1]) (.seq (.cond (.t 31) (.seq (rN [
 oN 2 (.move (iC 2)) 0] [2]) (kB [2] .ret)) (.seq (.region [
 oN 38 (fA 0 1) 0,oN 39 (lD 38) 1,oN 40 (.eq .i false (.t 39) (iC 1)) 2,oM 41 40 3,oG 42 (fA 4 1) 41 true 4,oG 43 (lD 42) 41 true 5,oG 44 (.pcall 116 [(.t 43,.as)]) 41 true 6,oG 45 (.un .not (.t 44)) 41 true 7,oN 46 (.pick (.t 41) (.t 45) (.c (.bool false))) 8,oM 37 46 9] false [1,37] [1]) (.seq (.cond (.t 37) (.seq (rN [
 oN 2 (.move (iC 7)) 0] [2]) (kB [2] .ret)) (.seq (.region [
 oN 48 (fA 0 1) 0,oN 49 (lD 48) 1,oN 50 (.eq .i false (.t 49) (iC 5)) 2,oM 51 50 3,oG 52 (fA 0 1) 51 false 4,oG 53 (lD 52) 51 false 5,oG 54 (.eq .i false (.t 53) (iC 6)) 51 false 6,oN 55 (.pick (.t 51) (.c (.bool true)) (.t 54)) 7,oM 56 55 8,oG 57 (fA 6 1) 56 true 9,oG 58 (lD 57) 56 true 10,oG 59 (.pcall 117 [(.t 58,.as)]) 56 true 11,oG 60 (.un .not (.t 59)) 56 true 12,oN 61 (.pick (.t 56) (.t 60) (.c (.bool false))) 13,oM 47 61 14] false [1,47] [1]) (.seq (.cond (.t 47) (.seq (rN [
 oN 2 (.move (iC 8)) 0] [2]) (kB [2] .ret)) (.seq (.region [
 oN 63 (fA 5 1) 0,oN 64 (lD 63) 1,oN 65 (.pcall 118 [(.t 64,.as)]) 2,oN 66 (.un .not (.t 65)) 3,oM 67 66 4,oG 68 (fA 7 1) 67 false 5,oG 69 (lD 68) 67 false 6,oG 70 (.pcall 118 [(.t 69,.as)]) 67 false 7,oG 71 (.un .not (.t 70)) 67 false 8,oN 72 (.pick (.t 67) (.c (.bool true)) (.t 71)) 9,oM 62 72 10] false [1,62] [1]) (.seq (.cond (.t 62) (.seq (rN [
 oN 2 (.move (iC 3)) 0] [2]) (kB [2] .ret)) (.keep [1] [1] .skip)) (.keep [1] [1] .skip)))) (.keep [1] [1] .skip)))) (.keep [1] [1] .skip)))) (.keep [1] [1] .skip)))) (.keep [1] [1] .skip)))) (.keep [1] [1] .skip)))) (.keep [1] [1] (.seq (rN [
 oN 74 (fA 8 1) 0,oN 75 (lD 74) 1,oN 76 (.pcall 119 [(.t 75,.as)]) 2,oM 73 76 3,oN 77 (.extract (.t 73) 0) 4,oN 78 (.extract (.t 73) 1) 5,oM 3 77 6,oM 4 78 7] [4]) (.seq (rN [
 oM 79 4 0,oM 2 79 1] [2]) (kB [2] .ret)))))) }
theorem ok65:b0f Go.Proofs.Tryz.prog 65 F65=true:=by decide +kernel
def F66:b0u:={ nparams:=2,results:=[.tmp 4],pure:=false,body :=
 (.seq (.region [
 oN 3 (.box false 3 (.t 1)) 0,oN 4 (.move (iC 0)) 1] false [0,3] [3]) (.seq (.block 0 (.seq (.region [
 oM 6 0 0,oN 7 (fA 1 3) 1,oN 8 (lD 7) 2,oN 9 (.call 120 [(.t 6,.as),(.t 8,.as)]) 3,oN 10 (.un .not (.t 9)) 4,oM 11 10 5,oG 12 (.move (.t 0)) 11 false 6,oG 13 (fA 2 3) 11 false 7,oG 14 (lD 13) 11 false 8,oG 15 (.call 120 [(.t 12,.as),(.t 14,.as)]) 11 false 9,oG 16 (.un .not (.t 15)) 11 false 10,oN 17 (.pick (.t 11) (.c (.bool true)) (.t 16)) 11,oM 18 17 12,oG 19 (.move (.t 0)) 18 false 13,oG 20 (fA 3 3) 18 false 14,oG 21 (lD 20) 18 false 15,oG 22 (.call 120 [(.t 19,.as),(.t 21,.as)]) 18 false 16,oG 23 (.un .not (.t 22)) 18 false 17,oN 24 (.pick (.t 18) (.c (.bool true)) (.t 23)) 18,oM 5 24 19] false [0,3,5] [3]) (.seq (.cond (.t 5) (.seq (rN [
 oN 4 (.move (iC 13)) 0] [4]) (kB [4] .ret)) (.seq (.region [
 oM 26 0 0,oN 27 (.nilCheck (.t 26)) 1,oN 28 (fA 0 27) 2,oN 29 (lD 28) 3,oN 30 (fA 1 3) 4,oN 31 (lD 30) 5,oN 32 (.indexAddr 7 (.t 29) (.t 31)) 6,oN 33 (fA 1 32) 7,oN 34 (lD 33) 8,oN 35 (.bin .geq (.t 34) (iC 0)) 9,oM 25 35 10] true [0,3,25] [3]) (.seq (.cond (.t 25) (.seq (rN [
 oN 4 (.move (iC 15)) 0] [4]) (kB [4] .ret)) (.seq (.region [
 oM 37 0 0,oN 38 (fA 2 3) 1,oN 39 (lD 38) 2,oN 40 (fA 1 3) 3,oN 41 (lD 40) 4,oN 42 (.call 121 [(.t 37,.as),(.t 39,.as),(.t 41,.as)]) 5,oM 36 42 6] false [0,3,36] [3]) (.seq (.cond (.t 36) (.seq (rN [
 oN 4 (.move (iC 17)) 0] [4]) (kB [4] .ret)) (.seq (.region [
 oN 44 (fA 3 3) 0,oN 45 (lD 44) 1,oN 46 (.eq .i true (.t 45) (iC 0)) 2,oM 47 46 3,oG 48 (.move (.t 0)) 47 true 4,oG 49 (.nilCheck (.t 48)) 47 true 5,oG 50 (fA 0 49) 47 true 6,oG 51 (lD 50) 47 true 7,oG 52 (fA 3 3) 47 true 8,oG 53 (lD 52) 47 true 9,oG 54 (.indexAddr 7 (.t 51) (.t 53)) 47 true 10,oG 55 (fA 1 54) 47 true 11,oG 56 (lD 55) 47 true 12,oG 57 (fA 2 3) 47 true 13,oG 58 (lD 57) 47 true 14,oG 59 (.eq .i true (.t 56) (.t 58)) 47 true 15,oN 60 (.pick (.t 47) (.t 59) (.c (.bool false))) 16,oM 43 60 17] true [0,3,43] [3]) (.seq (.cond (.t 43) (.seq (rN [
 oN 4 (.move (iC 18)) 0] [4]) (kB [4] .ret)) (.keep [0,3] [3] .skip)) (.keep [0,3] [3] .skip)))) (.keep [0,3] [3] .skip)))) (.keep [0,3] [3] .skip)))) (.keep [0,3] [3] .skip)))) (.keep [0,3] [3] (.seq (rN [
 oM 61 0 0,oN 62 (fA 1 3) 1,oN 63 (lD 62) 2,oN 64 (fA 2 3) 3,oN 65 (lD 64) 4,oN 66 (fA 3 3) 5,oN 67 (lD 66) 6,oN 68 (.call 122 [(.t 61,.as),(.t 63,.as),(.t 65,.as),(.t 67,.as)]) 7] []) (.seq (rN [
 oN 4 (.move (iC 0)) 0] [4]) (kB [4] .ret)))))) }
theorem ok66:b0f Go.Proofs.Tryz.prog 66 F66=true:=by decide +kernel
def F67:b0u:={ nparams:=2,results:=[.tmp 4],pure:=false,body :=
 (.seq (.region [
 oN 3 (.box false 3 (.t 1)) 0,oN 4 (.move (iC 0)) 1] false [0,3] [3]) (.seq (.region [
 oN 5 (.move (iC (-1))) 0] false [0,3,5] [3]) (.seq (.region [
 oM 6 0 0,oN 7 (fA 1 3) 1,oN 8 (lD 7) 2,oN 9 (.call 120 [(.t 6,.as),(.t 8,.as)]) 3] false [0,3,5,9] [3]) (.seq (.cond (.t 9) (.seq (.region [
 oM 10 0 0,oN 11 (.nilCheck (.t 10)) 1,oN 12 (fA 0 11) 2,oN 13 (lD 12) 3,oN 14 (fA 1 3) 4,oN 15 (lD 14) 5,oN 16 (.indexAddr 7 (.t 13) (.t 15)) 6,oN 17 (fA 1 16) 7,oN 18 (lD 17) 8,oM 5 18 9] true [0,3,5] [3]) (.keep [0,3,5] [3] .skip)) (.keep [0,3,5] [3] .skip)) (.keep [0,3,5] [3] (.seq (.block 0 (.seq (.region [
 oM 20 0 0,oN 21 (fA 1 3) 1,oN 22 (lD 21) 2,oN 23 (.call 120 [(.t 20,.as),(.t 22,.as)]) 3,oN 24 (.un .not (.t 23)) 4,oM 25 24 5,oG 26 (.move (.t 0)) 25 false 6,oG 27 (fA 3 3) 25 false 7,oG 28 (lD 27) 25 false 8,oG 29 (.call 120 [(.t 26,.as),(.t 28,.as)]) 25 false 9,oG 30 (.un .not (.t 29)) 25 false 10,oN 31 (.pick (.t 25) (.c (.bool true)) (.t 30)) 11,oM 19 31 12] false [0,3,5,19] [3]) (.seq (.cond (.t 19) (.seq (rN [
 oN 4 (.move (iC 13)) 0] [4]) (kB [4] .ret)) (.seq (.region [
 oM 33 5 0,oN 34 (.bin .lss (.t 33) (iC 0)) 1,oM 32 34 2] false [0,3,5,32] [3]) (.seq (.cond (.t 32) (.seq (rN [
 oN 4 (.move (iC 16)) 0] [4]) (kB [4] .ret)) (.seq (.region [
 oN 36 (fA 3 3) 0,oN 37 (lD 36) 1,oN 38 (fA 1 3) 2,oN 39 (lD 38) 3,oN 40 (.eq .i false (.t 37) (.t 39)) 4,oM 41 40 5,oG 42 (fA 3 3) 41 false 6,oG 43 (lD 42) 41 false 7,oG 44 (.eq .i true (.t 43) (iC 0)) 41 false 8,oG 45 (.move (.t 44)) 41 false 9,oG 46 (.move (.t 0)) 45 true 10,oG 47 (.nilCheck (.t 46)) 45 true 11,oG 48 (fA 0 47) 45 true 12,oG 49 (lD 48) 45 true 13,oG 50 (fA 3 3) 45 true 14,oG 51 (lD 50) 45 true 15,oG 52 (.indexAddr 7 (.t 49) (.t 51)) 45 true 16,oG 53 (fA 1 52) 45 true 17,oG 54 (lD 53) 45 true 18,oG 55 (.move (.t 5)) 45 true 19,oG 56 (.eq .i true (.t 54) (.t 55)) 45 true 20,oG 57 (.pick (.t 45) (.t 56) (.c (.bool false))) 41 false 21,oN 58 (.pick (.t 41) (.c (.bool true)) (.t 57)) 22,oM 35 58 23] true [0,3,5,35] [3]) (.seq (.cond (.t 35) (.seq (rN [
 oN 4 (.move (iC 18)) 0] [4]) (kB [4] .ret)) (.keep [0,3,5] [3] .skip)) (.keep [0,3,5] [3] .skip)))) (.keep [0,3,5] [3] .skip)))) (.keep [0,3,5] [3] .skip)))) (.keep [0,3,5] [3] (.seq (.region [
 oM 59 0 0,oN 60 (fA 1 3) 1,oN 61 (lD 60) 2,oN 62 (.call 69 [(.t 59,.as),(.t 61,.as)]) 3] false [0,3,5] [3]) (.seq (rN [
 oM 63 0 0,oN 64 (fA 1 3) 1,oN 65 (lD 64) 2,oM 66 5 3,oN 67 (fA 3 3) 4,oN 68 (lD 67) 5,oN 69 (.call 122 [(.t 63,.as),(.t 65,.as),(.t 66,.as),(.t 68,.as)]) 6] []) (.seq (rN [
 oN 4 (.move (iC 0)) 0] [4]) (kB [4] .ret))))))))))) }
theorem ok67:b0f Go.Proofs.Tryz.prog 67 F67=true:=by decide +kernel
def F68:b0u:={ nparams:=2,results:=[.tmp 4],pure:=false,body :=
 (.seq (rN [
 oN 4 (.move (iC 0)) 0] [0,1]) (.seq (.block 0 (.seq (rN [
 oM 6 1 0,oN 7 (.eq .i false (.t 6) (iC 0)) 1,oM 5 7 2] [0,1,5]) (.seq (.cond (.t 5) (.seq (rN [
 oN 4 (.move (iC 14)) 0] [4]) (kB [4] .ret)) (.seq (rN [
 oM 9 0 0,oM 10 1 1,oN 11 (.call 120 [(.t 9,.as),(.t 10,.as)]) 2,oN 12 (.un .not (.t 11)) 3,oM 8 12 4] [8]) (.seq (.cond (.t 8) (.seq (rN [
 oN 4 (.move (iC 13)) 0] [4]) (kB [4] .ret)) (kS [])) (kS [])))) (kS [])))) (kB [] (.seq (rN [
 oN 4 (.move (iC 0)) 0] [4]) (kB [4] .ret))))) }
theorem ok68:b0f Go.Proofs.Tryz.prog 68 F68=true:=by decide +kernel
def F69:b0u:={ nparams:=2,results:=[],pure:=false,body :=
 (.seq (rN [
 oN 3 (.box true 3 (.t 1)) 0] [0,3]) (.seq (.region [
 oM 5 0 0,oN 6 (.nilCheck (.t 5)) 1,oN 7 (fA 0 6) 2,oN 8 (lD 7) 3,oN 9 (lD 3) 4,oN 10 (.indexAddr 7 (.t 8) (.t 9)) 5,oN 11 (fA 1 10) 6,oN 12 (lD 11) 7,oM 4 12 8] true [0,3,4] []) (.seq (rN [
 oM 13 4 0,oN 14 (.bin .lss (.t 13) (iC 0)) 1] [0,3,4,14]) (.seq (.cond (.t 14) (kB [] .ret) (kS [0,3,4])) (kB [0,3,4] (.seq (.draw [
 oM 15 0 0,oN 16 (.nilCheck (.t 15)) 1,oN 17 (fA 0 16) 2,oN 18 (lD 17) 3,oM 19 4 4,oM 20 0 5,oN 21 (.nilCheck (.t 20)) 6,oN 22 (fA 0 21) 7,oN 23 (lD 22) 8,oM 24 4 9,oN 25 (.indexAddr 7 (.t 23) (.t 24)) 10,oN 26 (fA 2 25) 11,oN 27 (lD 26) 12,oN 29 (.makeFunc 124 [.t 3]) 14,⟨some 28,.call 78 [(.t 27,.as)],none,13,[3]⟩,⟨some 30,.call 123 [(.t 28,.as),(.t 29,.as)],none,15,[3]⟩,oN 31 (.indexAddr 7 (.t 18) (.t 19)) 16,oN 32 (fA 2 31) 17,⟨none,.store 1 false (.t 32) (.t 30),none,18,[]⟩] [0,3] []) (.seq (.draw [
 oM 33 0 0,oN 34 (.nilCheck (.t 33)) 1,oN 35 (fA 0 34) 2,oN 36 (lD 35) 3,oN 37 (lD 3) 4,oN 38 (.indexAddr 7 (.t 36) (.t 37)) 5,oN 39 (fA 1 38) 6,⟨none,.store 1 false (.t 39) (iC (-1)),none,7,[]⟩] [] []) (kS [])))))))) }
theorem ok69:b0f Go.Proofs.Tryz.prog 69 F69=true:=by decide +kernel
def g4r:b1g :=
 (.seq (rN [
 oN 16 (.bin .lss (.t 15) (.t 14)) 0] [0,1,13,14,15,16]) (.seq (.cond (.t 16) (kS [0,1,13,14,15]) (kB [0,1] (.exit 0))) (kB [0,1,13,14,15] (.seq (.block 1 (.seq (rN [
 oN 17 (.indexAddr 1 (.t 13) (.t 15)) 0,oN 18 (lD 17) 1,oM 5 18 2] [0,1,5,13,14,15]) (.seq (rN [
 oM 19 0 0,oM 20 5 1,oN 21 (.call 70 [(.t 19,.as),(.t 20,.freeze)]) 2] [0,1,13,14,15]) (kS [0,1,13,14,15])))) (kB [0,1,13,14,15] (.seq (rN [
 oN 22 (.bin .add (.t 15) (iC 1)) 0,oM 15 22 1] [0,1,13,14,15]) (kS [0,1,13,14,15])))))))
def F70:b0u:={ nparams:=2,results:=[],pure:=false,body :=
 (.seq (rN [
 oM 6 0 0,oN 7 (.nilCheck (.t 6)) 1,oN 8 (fA 0 7) 2,oN 9 (lD 8) 3,oM 10 1 4,oN 11 (.indexAddr 7 (.t 9) (.t 10)) 5,oN 12 (fA 2 11) 6,oN 13 (lD 12) 7,oN 14 (.len 1 (.t 13)) 8,oN 15 (.move (iC 0)) 9] [0,1,13,14,15]) (.seq (.block 0 (.seq (kB [0,1,13,14,15] (.loop g4r)) (kS [0,1]))) (kB [0,1] (.seq (rN [
 oM 23 0 0,oN 24 (.nilCheck (.t 23)) 1,oN 25 (fA 0 24) 2,oN 26 (lD 25) 3,oM 27 1 4,oN 28 (.build [.p (.bool false),.p (.int .i64 0),.nils,.p (.str []),.p (.str []),.p (.str []),.p (.list [])] [(1,1,.c (.int .i64 (-1)))]) 5,oN 29 (.indexAddr 7 (.t 26) (.t 27)) 6,⟨none,.store 7 true (.t 29) (.t 28),none,7,[]⟩] []) (kS []))))) }
theorem ok70:b0f Go.Proofs.Tryz.prog 70 F70=true:=by decide +kernel
def F71:b0u:={ nparams:=3,results:=[.tmp 6],pure:=false,body :=
 (.seq (.region [
 oN 5 (.box false 5 (.t 2)) 0,oN 6 (.move (iC 0)) 1] false [1,5] [5]) (.seq (.region [
 oN 10 (fA 0 5) 0,oN 11 (lD 10) 1] false [1,5,11] [5]) (.seq (.block 0 (.seq (.region [
 oN 13 (.eq .i false (.t 11) (iC 5)) 0,oM 12 13 1] false [1,5,11,12] [5]) (.seq (.cond (.t 12) (.seq (.region [
 oM 14 1 0,oN 15 (.nilCheck (.t 14)) 1,oN 16 (fA 6 15) 2,oN 17 (lD 16) 3,oN 18 (fA 6 5) 4,oN 19 (lD 18) 5,oN 20 (fA 7 5) 6,oN 21 (lD 20) 7,oN 22 (.pcall 125 [(.t 17,.as),(.t 19,.as),(.t 21,.as)]) 8,oM 7 22 9] true [1,7] []) (.seq (rN [
 oM 23 7 0,oN 24 (.len 1 (.t 23)) 1,oN 25 (.bin .gtr (.t 24) (iC 64)) 2] [1,7,25]) (.seq (.cond (.t 25) (.seq (rN [
 oN 6 (.move (iC 12)) 0] [6]) (kB [6] .ret)) (kS [1,7])) (kB [1,7] (.seq (rN [
 oM 26 1 0,oM 27 7 1,oN 28 (.nilCheck (.t 26)) 2,oN 29 (fA 6 28) 3,⟨none,.store 1 false (.t 29) (.t 27),none,4,[]⟩] []) (kS [])))))) (.seq (.region [
 oN 31 (.eq .i false (.t 11) (iC 6)) 0,oM 30 31 1] false [1,5,11,30] [5]) (.seq (.cond (.t 30) (.seq (.region [
 oM 33 1 0,oN 34 (.nilCheck (.t 33)) 1,oN 35 (fA 6 34) 2,oN 36 (lD 35) 3,oN 37 (fA 6 5) 4,oN 38 (lD 37) 5,oN 39 (.pcall 126 [(.t 36,.as),(.t 38,.as)]) 6,oM 32 39 7,oN 40 (.extract (.t 32) 0) 8,oN 41 (.extract (.t 32) 1) 9,oM 8 40 10,oM 9 41 11] true [1,8,9] []) (.seq (rN [
 oM 42 9 0,oN 43 (.un .not (.t 42)) 1] [1,8,43]) (.seq (.cond (.t 43) (.seq (rN [
 oN 6 (.move (iC 8)) 0] [6]) (kB [6] .ret)) (kS [1,8])) (kB [1,8] (.seq (rN [
 oM 44 1 0,oM 45 8 1,oN 46 (.nilCheck (.t 44)) 2,oN 47 (fA 6 46) 3,⟨none,.store 1 false (.t 47) (.t 45),none,4,[]⟩] []) (kS [])))))) (.seq (.region [
 oN 49 (.eq .i false (.t 11) (iC 7)) 0,oM 48 49 1] false [1,5,48] [5]) (.seq (.cond (.t 48) (.seq (rN [
 oM 50 1 0,oN 51 (fA 7 5) 1,oN 52 (lD 51) 2,oN 53 (.nilCheck (.t 50)) 3,oN 54 (fA 5 53) 4,⟨none,.store 1 false (.t 54) (.t 52),none,5,[]⟩] []) (kS [])) (kS [])) (kS [])))) (kS [])))) (kS [])))) (kB [] (.seq (rN [
 oN 6 (.move (iC 0)) 0] [6]) (kB [6] .ret)))))) }
theorem ok71:b0f Go.Proofs.Tryz.prog 71 F71=true:=by decide +kernel
def g4q:b1g :=
 (.seq (rN [
 oN 22 (.bin .lss (.t 21) (.t 20)) 0] [0,1,3,19,20,21,22]) (.seq (.cond (.t 22) (kS [0,1,3,19,20,21]) (kB [1] (.exit 0))) (kB [0,1,3,19,20,21] (.seq (.block 1 (.seq (rN [
 oN 23 (.indexAddr 1 (.t 19) (.t 21)) 0,oN 24 (lD 23) 1,oM 10 24 2] [0,1,3,10,19,20,21]) (.seq (.region [
 oM 25 0 0,oN 26 (.nilCheck (.t 25)) 1,oN 27 (fA 0 26) 2,oN 28 (lD 27) 3,oM 29 10 4,oN 30 (.indexAddr 7 (.t 28) (.t 29)) 5,oN 31 (.load 7 true (.t 30)) 6,oN 11 (.alloc false 11 [.p (.bool false),.p (.int .i64 0),.p (.list []),.p (.str []),.p (.str []),.p (.str []),.p (.list [])] []) 7,⟨none,.store 7 true (.t 11) (.t 31),none,8,[]⟩] false [0,1,3,10,11,19,20,21] [11]) (.seq (.draw [
 oM 32 1 0,oM 33 10 1,oM 34 3 2,oN 35 (fA 3 11) 3,oN 36 (lD 35) 4,oN 37 (fA 4 11) 5,oN 38 (lD 37) 6,oN 39 (fA 5 11) 7,oN 40 (lD 39) 8,oN 41 (fA 6 11) 9,oN 42 (lD 41) 10,oN 43 (.pcall 56 [(.t 42,.as)]) 11,oN 44 (.build [.p (.int .i64 0),.p (.int .i64 0),.p (.str []),.p (.str []),.p (.str []),.p (.list [])] [(0,1,.t 33),(1,1,.t 34),(2,1,.t 36),(3,1,.t 38),(4,1,.t 40),(5,1,.t 43)]) 12,oN 45 (.row 6 [.t 44]) 13,oN 46 (.append true 1000 6 88 (.t 32) (.t 45)) 14,oM 1 46 15] [0,1,3,10,19,20,21] []) (.seq (rN [
 oM 47 0 0,oM 48 1 1,oM 49 10 2,oM 50 1 3,oN 51 (.len 1 (.t 50)) 4,oN 52 (.call 72 [(.t 47,.as),(.t 48,.as),(.t 49,.as),(.t 51,.as)]) 5,oM 1 52 6] [0,1,3,19,20,21]) (kS [0,1,3,19,20,21])))))) (kB [0,1,3,19,20,21] (.seq (rN [
 oN 53 (.bin .add (.t 21) (iC 1)) 0,oM 21 53 1] [0,1,3,19,20,21]) (kS [0,1,3,19,20,21])))))))
def F72:b0u:={ nparams:=4,results:=[.tmp 8],pure:=false,body :=
 (.seq (rN [
 oN 8 (.move (.c (.list []))) 0] [0,1,2,3]) (.seq (rN [
 oM 12 0 0,oN 13 (.nilCheck (.t 12)) 1,oN 14 (fA 0 13) 2,oN 15 (lD 14) 3,oM 16 2 4,oN 17 (.indexAddr 7 (.t 15) (.t 16)) 5,oN 18 (fA 2 17) 6,oN 19 (lD 18) 7,oN 20 (.len 1 (.t 19)) 8,oN 21 (.move (iC 0)) 9] [0,1,3,19,20,21]) (.seq (.block 0 (.seq (kB [0,1,3,19,20,21] (.loop g4q)) (kS [1]))) (kB [1] (.seq (rN [
 oM 54 1 0,oM 8 54 1] [8]) (kB [8] .ret)))))) }
theorem ok72:b0f Go.Proofs.Tryz.prog 72 F72=true:=by decide +kernel
def F73:b0u:={ nparams:=1,results:=[.tmp 2],pure:=false,body :=
 (.seq (rN [
 oN 2 (.move (.c (.nilp))) 0] [0]) (.seq (rN [
 oM 3 0 0,oN 4 (.build [.p (.int .i64 0),.p (.nilp),.p (.nilp),.p (.nilp),.p (.nilp),.p (.nilp)] [(0,1,.t 3)]) 1,oN 5 (.box true 5 (.t 4)) 2,oM 2 5 3] [2]) (kB [2] .ret))) }
theorem ok73:b0f Go.Proofs.Tryz.prog 73 F73=true:=by decide +kernel
def F74:b0u:={ nparams:=5,results:=[.tmp 10,.tmp 11],pure:=false,body :=
 (.seq (rN [
 oN 10 (.move (iC 0)) 0,oN 11 (.move (iC 0)) 1] [0,1,2,3,4]) (.seq (.block 0 (.seq (rN [
 oM 16 0 0,oN 17 (.eq .ptr false (.t 16) (.c (.nilp))) 1,oM 15 17 2] [0,1,2,3,4,15]) (.seq (.cond (.t 15) (.seq (rN [
 oN 10 (.move (iC 0)) 0,oN 11 (.move (iC 1)) 1] [10,11]) (kB [10,11] .ret)) (.seq (rN [
 oM 19 1 0,oN 20 (.pcall 116 [(.t 19,.as)]) 1,oN 21 (.un .not (.t 20)) 2,oM 18 21 3] [0,1,2,3,4,18]) (.seq (.cond (.t 18) (.seq (rN [
 oN 10 (.move (iC 0)) 0,oN 11 (.move (iC 7)) 1] [10,11]) (kB [10,11] .ret)) (.seq (rN [
 oM 23 2 0,oN 24 (.pcall 118 [(.t 23,.as)]) 1,oN 25 (.un .not (.t 24)) 2,oM 26 25 3,oG 27 (.move (.t 3)) 26 false 4,oG 28 (.pcall 118 [(.t 27,.as)]) 26 false 5,oG 29 (.un .not (.t 28)) 26 false 6,oN 30 (.pick (.t 26) (.c (.bool true)) (.t 29)) 7,oM 22 30 8] [0,1,2,3,4,22]) (.seq (.cond (.t 22) (.seq (rN [
 oN 10 (.move (iC 0)) 0,oN 11 (.move (iC 3)) 1] [10,11]) (kB [10,11] .ret)) (kS [0,1,2,3,4])) (kS [0,1,2,3,4])))) (kS [0,1,2,3,4])))) (kS [0,1,2,3,4])))) (kB [0,1,2,3,4] (.seq (rN [
 oM 32 4 0,oN 33 (.pcall 119 [(.t 32,.as)]) 1,oM 31 33 2,oN 34 (.extract (.t 31) 0) 3,oN 35 (.extract (.t 31) 1) 4,oM 12 34 5,oM 13 35 6] [0,1,2,3,4,13]) (.seq (rN [
 oM 36 13 0,oN 37 (.eq .i true (.t 36) (iC 0)) 1] [0,1,2,3,4,13,37]) (.seq (.cond (.t 37) (.seq (rN [
 oM 38 13 0,oN 10 (.move (iC 0)) 1,oM 11 38 2] [10,11]) (kB [10,11] .ret)) (kS [0,1,2,3,4])) (kB [0,1,2,3,4] (.seq (rN [
 oM 39 0 0,oN 40 (.nilCheck (.t 39)) 1,oN 41 (fA 1 40) 2,oN 42 (lD 41) 3,oN 43 (.bin .gtr (.t 42) (iC 4294967295)) 4] [0,1,2,3,4,43]) (.seq (.cond (.t 43) (.seq (rN [
 oN 10 (.move (iC 0)) 0,oN 11 (.move (iC 21)) 1] [10,11]) (kB [10,11] .ret)) (kS [0,1,2,3,4])) (kB [0,1,2,3,4] (.seq (rN [
 oM 44 0 0,oN 45 (.nilCheck (.t 44)) 1,oN 46 (fA 1 45) 2,oN 47 (lD 46) 3,oM 14 47 4] [0,1,2,3,4,14]) (.seq (rN [
 oM 48 0 0,oN 49 (.nilCheck (.t 48)) 1,oN 50 (fA 1 49) 2,oN 51 (lD 50) 3,oN 52 (.bin .add (.t 51) (iC 1)) 4,oN 53 (.nilCheck (.t 48)) 5,oN 54 (fA 1 53) 6,⟨none,.store 1 false (.t 54) (.t 52),none,7,[]⟩] [0,1,2,3,4,14]) (.seq (.draw [
 oM 55 0 0,oN 56 (.nilCheck (.t 55)) 1,oN 57 (fA 0 56) 2,oN 58 (lD 57) 3,oM 59 14 4,oM 60 14 5,oM 62 1 7,oM 63 2 8,oM 64 3 9,oM 65 4 10,⟨some 61,.call 73 [(.t 60,.as)],none,6,[3]⟩,oN 66 (.pcall 56 [(.t 65,.as)]) 11,oN 67 (.build [.p (.nilp),.p (.str []),.p (.str []),.p (.str []),.p (.list [])] [(0,1,.t 61),(1,1,.t 62),(2,1,.t 63),(3,1,.t 64),(4,1,.t 66)]) 12,⟨some 68,.box true 68 (.t 67),none,13,[3]⟩,⟨none,.mapUpdate 1 (.t 58) (.t 59) (.t 68),none,14,[]⟩] [14] []) (.seq (rN [
 oM 69 14 0,oM 10 69 1,oN 11 (.move (iC 0)) 2] [10,11]) (kB [10,11] .ret))))))))))))))) }
theorem ok74:b0f Go.Proofs.Tryz.prog 74 F74=true:=by decide +kernel
def F75:b0u:={ nparams:=4,results:=[.tmp 8],pure:=false,body :=
 (.seq (rN [
 oN 8 (.move (iC 0)) 0] [0,1,2,3]) (.seq (rN [
 oM 14 0 0,oM 15 1 1,oN 16 (.call 127 [(.t 14,.as),(.t 15,.as)]) 2,oM 13 16 3,oN 17 (.extract (.t 13) 0) 4,oN 18 (.extract (.t 13) 1) 5,oM 9 17 6,oM 10 18 7] [0,2,3,9,10]) (.seq (rN [
 oM 19 10 0,oN 20 (.eq .i true (.t 19) (iC 0)) 1] [0,2,3,9,10,20]) (.seq (.cond (.t 20) (.seq (rN [
 oM 21 10 0,oM 8 21 1] [8]) (kB [8] .ret)) (kS [0,2,3,9])) (kB [0,2,3,9] (.seq (rN [
 oM 23 0 0,oM 24 3 1,oN 25 (.call 128 [(.t 23,.as),(.t 24,.as)]) 2,oM 22 25 3,oN 26 (.extract (.t 22) 0) 4,oN 27 (.extract (.t 22) 1) 5,oM 11 26 6,oM 10 27 7] [0,2,9,10,11]) (.seq (rN [
 oM 28 0 0,oN 29 (.nilCheck (.t 28)) 1,oN 30 (fA 0 29) 2,oN 31 (lD 30) 3,oM 32 2 4,oN 33 (.lookup 1 (.nilp) false (.t 31) (.t 32)) 5,oM 12 33 6] [9,10,11,12]) (.seq (rN [
 oM 34 10 0,oN 35 (.eq .i true (.t 34) (iC 0)) 1,oM 36 35 2,oG 37 (.move (.t 12)) 36 false 3,oG 38 (.eq .ptr false (.t 37) (.c (.nilp))) 36 false 4,oN 39 (.pick (.t 36) (.c (.bool true)) (.t 38)) 5] [9,11,12,39]) (.seq (.cond (.t 39) (.seq (rN [
 oN 8 (.move (iC 13)) 0] [8]) (kB [8] .ret)) (kS [9,11,12])) (kB [9,11,12] (.seq (.draw [
 oM 40 12 0,oN 41 (.nilCheck (.t 40)) 1,oN 42 (fA 0 41) 2,oN 43 (lD 42) 3,oM 44 9 4,oN 45 (.nilCheck (.t 44)) 5,oN 46 (fA 0 45) 6,oN 47 (lD 46) 7,oM 48 11 8,oN 49 (.call 129 [(.t 43,.as),(.t 47,.as),(.t 48,.as)]) 9,oM 8 49 10] [8] []) (kB [8] .ret)))))))))))) }
theorem ok75:b0f Go.Proofs.Tryz.prog 75 F75=true:=by decide +kernel
def h0a:b1g :=
 (.seq (rN [
 oM 11 7 0,oN 12 (.eq .ptr true (.t 11) (.c (.nilp))) 1] [1,2,3,4,7,12]) (.seq (.cond (.t 12) (kS [1,2,3,4,7]) (kB [] (.exit 0))) (kB [1,2,3,4,7] (.seq (.block 1 (.seq (.draw [
 oN 15 (lD 2) 0,oN 16 (.nilCheck (.t 15)) 1,oN 17 (fA 0 16) 2,oN 18 (lD 17) 3,oM 19 7 4,⟨some 20,.call 85 [(.t 19,.as)],none,5,[0,3]⟩,oN 21 (.lookup 1 (.nilp) false (.t 18) (.t 20)) 6,oM 8 21 7] [1,2,3,4,7,8] []) (.seq (.draw [
 oN 22 (lD 3) 0,oM 23 7 1,oM 25 1 3,oM 26 8 4,oN 27 (.nilCheck (.t 26)) 5,oN 28 (fA 1 27) 6,oN 29 (lD 28) 7,oM 30 8 8,oN 31 (.nilCheck (.t 30)) 9,oN 32 (fA 2 31) 10,oN 33 (lD 32) 11,oM 34 8 12,oN 35 (.nilCheck (.t 34)) 13,oN 36 (fA 3 35) 14,oN 37 (lD 36) 15,oM 38 8 16,oN 39 (.nilCheck (.t 38)) 17,oN 40 (fA 4 39) 18,oN 41 (lD 40) 19,⟨some 24,.call 85 [(.t 23,.as)],none,2,[0,7,11,15,19]⟩,oN 42 (.pcall 56 [(.t 41,.as)]) 20,oN 43 (.build [.p (.int .i64 0),.p (.int .i64 0),.p (.str []),.p (.str []),.p (.str []),.p (.list [])] [(0,1,.t 24),(1,1,.t 25),(2,1,.t 29),(3,1,.t 33),(4,1,.t 37),(5,1,.t 42)]) 21,oN 44 (.row 6 [.t 43]) 22,oN 45 (.append true 1000 6 88 (.t 22) (.t 44)) 23,⟨none,.store 1 false (.t 3) (.t 45),none,24,[]⟩] [1,2,3,4,7] []) (.seq (rN [
 oN 46 (lD 4) 0,oM 47 7 1,oN 48 (lD 3) 2,oN 49 (.len 1 (.t 48)) 3,oN 50 (.callv (.t 46) [(.t 47,.as),(.t 49,.as)]) 4] [1,2,3,4,7]) (kS [1,2,3,4,7]))))) (kB [1,2,3,4,7] (.seq (rN [
 oM 13 7 0,oN 14 (.call 84 [(.t 13,.as)]) 1,oM 7 14 2] [1,2,3,4,7]) (kS [1,2,3,4,7])))))))
def F82:b0u:={ nparams:=5,results:=[],pure:=false,body :=
 (.seq (rN [
 oM 9 0 0,oN 10 (.call 83 [(.t 9,.as)]) 1,oM 7 10 2] [1,2,3,4,7]) (.seq (.block 0 (.seq (kB [1,2,3,4,7] (.loop h0a)) (kS []))) (kS []))) }
theorem ok82:b0f Go.Proofs.Tryz.prog 82 F82=true:=by decide +kernel
def F83:b0u:={ nparams:=1,results:=[.tmp 2],pure:=false,body :=
 (.seq (rN [
 oN 2 (.move (.c (.nilp))) 0] [0]) (.seq (rN [
 oM 3 0 0,oN 4 (.eq .ptr false (.t 3) (.c (.nilp))) 1] [0,4]) (.seq (.cond (.t 4) (.seq (rN [
 oN 2 (.move (.c (.nilp))) 0] [2]) (kB [2] .ret)) (kS [0])) (kB [0] (.seq (rN [
 oM 5 0 0,oN 6 (.nilCheck (.t 5)) 1,oN 7 (fA 2 6) 2,oN 8 (lD 7) 3,oM 2 8 4] [2]) (kB [2] .ret)))))) }
theorem ok83:b0f Go.Proofs.Tryz.prog 83 F83=true:=by decide +kernel
def F84:b0u:={ nparams:=1,results:=[.tmp 2],pure:=false,body :=
 (.seq (rN [
 oN 2 (.move (.c (.nilp))) 0] [0]) (.seq (rN [
 oM 3 0 0,oN 4 (.eq .ptr false (.t 3) (.c (.nilp))) 1] [0,4]) (.seq (.cond (.t 4) (.seq (rN [
 oN 2 (.move (.c (.nilp))) 0] [2]) (kB [2] .ret)) (kS [0])) (kB [0] (.seq (rN [
 oM 5 0 0,oN 6 (.nilCheck (.t 5)) 1,oN 7 (fA 5 6) 2,oN 8 (lD 7) 3,oM 2 8 4] [2]) (kB [2] .ret)))))) }
theorem ok84:b0f Go.Proofs.Tryz.prog 84 F84=true:=by decide +kernel
def F85:b0u:={ nparams:=1,results:=[.tmp 2],pure:=false,body :=
 (.seq (rN [
 oN 2 (.move (iC 0)) 0] [0]) (.seq (rN [
 oM 3 0 0,oN 4 (.eq .ptr false (.t 3) (.c (.nilp))) 1] [0,4]) (.seq (.cond (.t 4) (.seq (rN [
 oN 2 (.move (iC 0)) 0] [2]) (kB [2] .ret)) (kS [0])) (kB [0] (.seq (rN [
 oM 5 0 0,oN 6 (.nilCheck (.t 5)) 1,oN 7 (fA 0 6) 2,oN 8 (lD 7) 3,oM 2 8 4] [2]) (kB [2] .ret)))))) }
theorem ok85:b0f Go.Proofs.Tryz.prog 85 F85=true:=by decide +kernel
def h4e:b1g :=
 (.seq (rN [
 oN 14 (.bin .lss (.t 13) (.t 12)) 0] [0,1,12,13,14]) (.seq (.cond (.t 14) (kS [0,1,12,13]) (kB [] (.exit 0))) (kB [0,1,12,13] (.seq (.block 1 (.seq (rN [
 oM 15 13 0,oM 5 15 1] [0,1,5,12,13]) (.seq (.region [
 oM 16 0 0,oM 17 5 1,oN 18 (.indexAddr 2 (.t 16) (.t 17)) 2,oN 19 (.load 2 true (.t 18)) 3,oM 20 1 4,oM 21 5 5,oN 22 (.indexAddr 2 (.t 20) (.t 21)) 6,oN 23 (.load 2 true (.t 22)) 7,oN 24 (.eq (.st [2,2]) true (.t 19) (.t 23)) 8] true [0,1,12,13,24] []) (.seq (.cond (.t 24) (.seq (rN [
 oN 4 (.move (.c (.bool false))) 0] [4]) (kB [4] .ret)) (kS [0,1,12,13])) (kS [0,1,12,13]))))) (kB [0,1,12,13] (.seq (rN [
 oN 25 (.bin .add (.t 13) (iC 1)) 0,oM 13 25 1] [0,1,12,13]) (kS [0,1,12,13])))))))
def F87:b0u:={ nparams:=2,results:=[.tmp 4],pure:=true,body :=
 (.seq (rN [
 oN 4 (.move (.c (.bool false))) 0] [0,1]) (.seq (rN [
 oM 6 0 0,oN 7 (.len 1 (.t 6)) 1,oM 8 1 2,oN 9 (.len 1 (.t 8)) 3,oN 10 (.eq .i true (.t 7) (.t 9)) 4] [0,1,10]) (.seq (.cond (.t 10) (.seq (rN [
 oN 4 (.move (.c (.bool false))) 0] [4]) (kB [4] .ret)) (kS [0,1])) (kB [0,1] (.seq (rN [
 oM 11 0 0,oN 12 (.len 1 (.t 11)) 1,oN 13 (.move (iC 0)) 2] [0,1,12,13]) (.seq (.block 0 (.seq (kB [0,1,12,13] (.loop h4e)) (kS []))) (kB [] (.seq (rN [
 oN 4 (.move (.c (.bool true))) 0] [4]) (kB [4] .ret))))))))) }
theorem ok87:b0f Go.Proofs.Tryz.prog 87 F87=true:=by decide +kernel
def F93:b0u:={ nparams:=1,results:=[.tmp 2],pure:=false,body :=
 (.seq (rN [
 oN 2 (.move (.c (.nilp))) 0] [0]) (.seq (rN [
 oM 3 0 0,oN 4 (.eq .ptr false (.t 3) (.c (.nilp))) 1] [0,4]) (.seq (.cond (.t 4) (.seq (rN [
 oN 2 (.move (.c (.nilp))) 0] [2]) (kB [2] .ret)) (kS [0])) (kB [0] (.seq (rN [
 oM 5 0 0,oN 6 (.nilCheck (.t 5)) 1,oN 7 (fA 1 6) 2,oN 8 (lD 7) 3,oM 2 8 4] [2]) (kB [2] .ret)))))) }
theorem ok93:b0f Go.Proofs.Tryz.prog 93 F93=true:=by decide +kernel
def d1o:b1g :=
 (.seq (rN [
 oM 9 7 0,oN 10 (.bin .gtr (.t 9) (iC 0)) 1] [0,2,7,10]) (.seq (.cond (.t 10) (kS [0,2,7]) (kB [] (.exit 0))) (kB [0,2,7] (.seq (.block 1 (.seq (rN [
 oM 11 7 0,oM 12 2 1,oN 13 (.eq .i false (.t 11) (.t 12)) 2] [0,2,7,13]) (.seq (.cond (.t 13) (.seq (rN [
 oN 6 (.move (.c (.bool true))) 0] [6]) (kB [6] .ret)) (kS [0,2,7])) (kB [0,2,7] (.seq (rN [
 oM 14 0 0,oM 15 7 1,oN 16 (.bin .sub (.t 15) (iC 1)) 2,oN 17 (.indexAddr 6 (.t 14) (.t 16)) 3,oN 18 (fA 1 17) 4,oN 19 (lD 18) 5,oM 7 19 6] [0,2,7]) (kS [0,2,7])))))) (kS [0,2,7])))))
def F104:b0u:={ nparams:=3,results:=[.tmp 6],pure:=true,body :=
 (.seq (rN [
 oN 6 (.move (.c (.bool false))) 0] [0,1,2]) (.seq (rN [
 oM 8 1 0,oM 7 8 1] [0,2,7]) (.seq (.block 0 (.seq (kB [0,2,7] (.loop d1o)) (kS []))) (kB [] (.seq (rN [
 oN 6 (.move (.c (.bool false))) 0] [6]) (kB [6] .ret)))))) }
theorem j1x:b0f Go.Proofs.Tryz.prog 104 F104=true:=by decide +kernel
def F105:b0u:={ nparams:=1,results:=[.cell 2 5 true,.tmp 3],pure:=true,body :=
 (.seq (.region [
 oN 2 (.alloc false 2 [.p (.str []),.p (.str []),.p (.str []),.p (.list []),.p (.list [])] []) 0,oN 3 (.move (iC 0)) 1] false [0,2] [2,1000,1001,1002]) (.seq (.block 0 (.seq (.region [
 oM 9 0 0,oN 10 (.len 1 (.t 9)) 1,oN 11 (.eq .i false (.t 10) (iC 0)) 2,oM 8 11 3] false [0,2,8] [2,1000,1001,1002]) (.seq (.cond (.t 8) (.seq (.region [
 oN 12 (.build [.p (.str []),.p (.str []),.p (.str []),.p (.list []),.nils] []) 0,⟨none,.store 5 true (.t 2) (.t 12),none,1,[]⟩,oN 3 (.move (iC 23)) 2] false [2,3] [2,1000,1001,1002]) (.keep [2,3] [2,1000,1001,1002] .ret)) (.seq (.region [
 oM 14 0 0,oN 15 (.pcall 158 [(.t 14,.as)]) 1,oN 16 (.un .not (.t 15)) 2,oM 13 16 3] false [0,2,13] [2,1000,1001,1002]) (.seq (.cond (.t 13) (.seq (.region [
 oN 17 (.build [.p (.str []),.p (.str []),.p (.str []),.p (.list []),.nils] []) 0,⟨none,.store 5 true (.t 2) (.t 17),none,1,[]⟩,oN 3 (.move (iC 2)) 2] false [2,3] [2,1000,1001,1002]) (.keep [2,3] [2,1000,1001,1002] .ret)) (.keep [0,2] [2,1000,1001,1002] .skip)) (.keep [0,2] [2,1000,1001,1002] .skip)))) (.keep [0,2] [2,1000,1001,1002] .skip)))) (.keep [0,2] [2,1000,1001,1002] (.seq (.region [
 oM 18 0 0,oN 19 (.pcall 159 [(.t 18,.as)]) 1] false [0,2,19] [2,1000,1001,1002]) (.seq (.cond (.t 19) (.seq (.region [
 oM 20 0 0,oN 21 (.pcall 160 [(.t 20,.as)]) 1,oM 0 21 2] false [0,2] [2,1000,1001,1002]) (.keep [0,2] [2,1000,1001,1002] .skip)) (.keep [0,2] [2,1000,1001,1002] .skip)) (.keep [0,2] [2,1000,1001,1002] (.seq (.region [
 oM 23 0 0,oN 24 (.pcall 161 [(.t 23,.as),(.c (.int .i64 0),.as)]) 1,oM 22 24 2,oN 25 (.extract (.t 22) 0) 3,oN 26 (.extract (.t 22) 1) 4,oN 4 (.alloc false 4 [.p (.str []),.p (.str []),.p (.str []),.p (.list []),.p (.list [])] []) 5,⟨none,.store 5 true (.t 4) (.t 25),none,6,[]⟩,oM 5 26 7] false [2,4] [2,4,1000,1001,1002]) (.seq (.region [
 oN 28 (.load 5 true (.t 4)) 0,oN 29 (.pcall 162 [(.t 28,.as)]) 1,oM 27 29 2,oN 30 (.extract (.t 27) 0) 3,oN 31 (.extract (.t 27) 1) 4,oM 6 30 5,oM 7 31 6] false [2,4,7] [2,4,1000,1001,1002]) (.seq (.region [
 oM 32 7 0,oN 33 (.eq .i true (.t 32) (iC 0)) 1] false [2,4,7,33] [2,4,1000,1001,1002]) (.seq (.cond (.t 33) (.seq (.region [
 oN 34 (.build [.p (.str []),.p (.str []),.p (.str []),.p (.list []),.nils] []) 0,oM 35 7 1,⟨none,.store 5 true (.t 2) (.t 34),none,2,[]⟩,oM 3 35 3] false [2,3] [2,1000,1001,1002]) (.keep [2,3] [2,1000,1001,1002] .ret)) (.keep [2,4] [2,4,1000,1001,1002] .skip)) (.keep [2,4] [2,4,1000,1001,1002] (.seq (.region [
 oN 36 (.load 5 true (.t 4)) 0,⟨none,.store 5 true (.t 2) (.t 36),none,1,[]⟩,oN 3 (.move (iC 0)) 2] false [2,3] [2,1000,1001,1002]) (.keep [2,3] [2,1000,1001,1002] .ret))))))))))))) }
theorem j1w:b0f Go.Proofs.Tryz.prog 105 F105=true:=by decide +kernel
def F106:b0u:={ nparams:=3,results:=[.tmp 6],pure:=false,body :=
 (.seq (rN [
 oN 6 (.move (iC 0)) 0] [0,1,2]) (.seq (rN [
 oM 12 0 0,oM 13 1 1,oN 14 (.call 127 [(.t 12,.as),(.t 13,.as)]) 2,oM 11 14 3,oN 15 (.extract (.t 11) 0) 4,oN 16 (.extract (.t 11) 1) 5,oM 7 15 6,oM 8 16 7] [0,2,7,8]) (.seq (rN [
 oM 17 8 0,oN 18 (.eq .i true (.t 17) (iC 0)) 1] [0,2,7,8,18]) (.seq (.cond (.t 18) (.seq (rN [
 oM 19 8 0,oM 6 19 1] [6]) (kB [6] .ret)) (kS [0,2,7])) (kB [0,2,7] (.seq (rN [
 oM 21 0 0,oM 22 2 1,oN 23 (.call 128 [(.t 21,.as),(.t 22,.as)]) 2,oM 20 23 3,oN 24 (.extract (.t 20) 0) 4,oN 25 (.extract (.t 20) 1) 5,oM 9 24 6,oM 8 25 7] [7,8,9]) (.seq (rN [
 oM 26 7 0,oN 27 (.nilCheck (.t 26)) 1,oN 28 (fA 0 27) 2,oN 29 (lD 28) 3,oN 30 (.call 93 [(.t 29,.as)]) 4,oM 10 30 5] [7,8,9,10]) (.seq (.block 0 (.seq (rN [
 oM 32 8 0,oN 33 (.eq .i true (.t 32) (iC 0)) 1,oM 31 33 2] [7,9,10,31]) (.seq (.cond (.t 31) (.seq (rN [
 oN 6 (.move (iC 13)) 0] [6]) (kB [6] .ret)) (.seq (rN [
 oM 35 10 0,oN 36 (.eq .ptr false (.t 35) (.c (.nilp))) 1,oM 34 36 2] [7,9,10,34]) (.seq (.cond (.t 34) (.seq (rN [
 oN 6 (.move (iC 16)) 0] [6]) (kB [6] .ret)) (.seq (rN [
 oM 38 9 0,oN 39 (.eq .ptr true (.t 38) (.c (.nilp))) 1,oM 40 39 2,oG 41 (.move (.t 9)) 40 true 3,oG 42 (.move (.t 7)) 40 true 4,oG 43 (.nilCheck (.t 42)) 40 true 5,oG 44 (fA 0 43) 40 true 6,oG 45 (lD 44) 40 true 7,oG 46 (.eq .ptr false (.t 41) (.t 45)) 40 true 8,oG 47 (.move (.t 46)) 40 true 9,oG 48 (.move (.t 9)) 47 false 10,oG 49 (.call 93 [(.t 48,.as)]) 47 false 11,oG 50 (.move (.t 10)) 47 false 12,oG 51 (.eq .ptr true (.t 49) (.t 50)) 47 false 13,oG 52 (.pick (.t 47) (.c (.bool true)) (.t 51)) 40 true 14,oN 53 (.pick (.t 40) (.t 52) (.c (.bool false))) 15,oM 37 53 16] [7,9,10,37]) (.seq (.cond (.t 37) (.seq (rN [
 oN 6 (.move (iC 18)) 0] [6]) (kB [6] .ret)) (kS [7,9,10])) (kS [7,9,10])))) (kS [7,9,10])))) (kS [7,9,10])))) (kB [7,9,10] (.seq (rN [
 oM 54 7 0,oN 55 (.nilCheck (.t 54)) 1,oN 56 (fA 0 55) 2,oN 57 (lD 56) 3,oN 58 (.call 163 [(.t 57,.as)]) 4] [7,9,10]) (.seq (rN [
 oM 59 10 0,oM 60 7 1,oN 61 (.nilCheck (.t 60)) 2,oN 62 (fA 0 61) 3,oN 63 (lD 62) 4,oM 64 9 5,oN 65 (.call 129 [(.t 59,.as),(.t 63,.as),(.t 64,.as)]) 6,oM 6 65 7] [6]) (kB [6] .ret)))))))))))) }
theorem j1v:b0f Go.Proofs.Tryz.prog 106 F106=true:=by decide +kernel
def F107:b0u:={ nparams:=2,results:=[.tmp 4],pure:=false,body :=
 (.seq (rN [
 oN 2 (.box true 2 (.t 0)) 0,oN 4 (.move (iC 0)) 1] [1,2]) (.seq (rN [
 oN 9 (lD 2) 0,oM 10 1 1,oN 11 (.call 127 [(.t 9,.as),(.t 10,.as)]) 2,oM 8 11 3,oN 12 (.extract (.t 8) 0) 4,oN 13 (.extract (.t 8) 1) 5,oM 5 12 6,oM 6 13 7] [2,5,6]) (.seq (rN [
 oM 14 6 0,oN 15 (.eq .i true (.t 14) (iC 0)) 1] [2,5,6,15]) (.seq (.cond (.t 15) (.seq (rN [
 oM 16 6 0,oM 4 16 1] [4]) (kB [4] .ret)) (kS [2,5])) (kB [2,5] (.seq (rN [
 oM 17 5 0,oN 18 (.nilCheck (.t 17)) 1,oN 19 (fA 0 18) 2,oN 20 (lD 19) 3,oN 21 (.call 163 [(.t 20,.as)]) 4] [2,5]) (.seq (rN [
 oN 7 (.alloc true 7 [.p (.nilf)] []) 0] [2,5,7]) (.seq (rN [
 oN 22 (.makeFunc 164 [.t 2,.t 7]) 0,⟨none,.store 1 false (.t 7) (.t 22),none,1,[]⟩] [5,7]) (.seq (.draw [
 oN 23 (lD 7) 0,oM 24 5 1,oN 25 (.nilCheck (.t 24)) 2,oN 26 (fA 0 25) 3,oN 27 (lD 26) 4,oN 28 (.callv (.t 23) [(.t 27,.as)]) 5] [] []) (.seq (rN [
 oN 4 (.move (iC 0)) 0] [4]) (kB [4] .ret))))))))))) }
theorem j1u:b0f Go.Proofs.Tryz.prog 107 F107=true:=by decide +kernel
def F108:b0u:={ nparams:=4,results:=[.tmp 8],pure:=false,body :=
 (.seq (rN [
 oN 8 (.move (iC 0)) 0] [0,1,2,3]) (.seq (rN [
 oM 13 0 0,oM 14 1 1,oN 15 (.call 127 [(.t 13,.as),(.t 14,.as)]) 2,oM 12 15 3,oN 16 (.extract (.t 12) 0) 4,oN 17 (.extract (.t 12) 1) 5,oM 9 16 6,oM 10 17 7] [2,3,9,10]) (.seq (.block 0 (.seq (rN [
 oM 19 10 0,oN 20 (.eq .i true (.t 19) (iC 0)) 1,oM 18 20 2] [2,3,9,10,18]) (.seq (.cond (.t 18) (.seq (rN [
 oM 21 10 0,oM 8 21 1] [8]) (kB [8] .ret)) (.seq (rN [
 oM 23 2 0,oN 24 (.pcall 117 [(.t 23,.as)]) 1,oN 25 (.un .not (.t 24)) 2,oM 22 25 3] [2,3,9,22]) (.seq (.cond (.t 22) (.seq (rN [
 oN 8 (.move (iC 8)) 0] [8]) (kB [8] .ret)) (.seq (rN [
 oM 27 3 0,oN 28 (.pcall 118 [(.t 27,.as)]) 1,oN 29 (.un .not (.t 28)) 2,oM 26 29 3] [2,3,9,26]) (.seq (.cond (.t 26) (.seq (rN [
 oN 8 (.move (iC 3)) 0] [8]) (kB [8] .ret)) (kS [2,3,9])) (kS [2,3,9])))) (kS [2,3,9])))) (kS [2,3,9])))) (kB [2,3,9] (.seq (rN [
 oM 30 9 0,oN 31 (.nilCheck (.t 30)) 1,oN 32 (fA 4 31) 2,oN 33 (lD 32) 3,oM 34 2 4,oM 35 3 5,oN 36 (.pcall 125 [(.t 33,.as),(.t 34,.as),(.t 35,.as)]) 6,oM 11 36 7] [9,11]) (.seq (rN [
 oM 37 11 0,oN 38 (.len 1 (.t 37)) 1,oN 39 (.bin .gtr (.t 38) (iC 64)) 2] [9,11,39]) (.seq (.cond (.t 39) (.seq (rN [
 oN 8 (.move (iC 12)) 0] [8]) (kB [8] .ret)) (kS [9,11])) (kB [9,11] (.seq (rN [
 oM 40 9 0,oM 41 11 1,oN 42 (.nilCheck (.t 40)) 2,oN 43 (fA 4 42) 3,⟨none,.store 1 false (.t 43) (.t 41),none,4,[]⟩] []) (.seq (rN [
 oN 8 (.move (iC 0)) 0] [8]) (kB [8] .ret))))))))))) }
theorem j1t:b0f Go.Proofs.Tryz.prog 108 F108=true:=by decide +kernel
def F109:b0u:={ nparams:=3,results:=[.tmp 6],pure:=false,body :=
 (.seq (rN [
 oN 6 (.move (iC 0)) 0] [0,1,2]) (.seq (rN [
 oM 12 0 0,oM 13 1 1,oN 14 (.call 127 [(.t 12,.as),(.t 13,.as)]) 2,oM 11 14 3,oN 15 (.extract (.t 11) 0) 4,oN 16 (.extract (.t 11) 1) 5,oM 7 15 6,oM 8 16 7] [2,7,8]) (.seq (rN [
 oM 17 8 0,oN 18 (.eq .i true (.t 17) (iC 0)) 1] [2,7,8,18]) (.seq (.cond (.t 18) (.seq (rN [
 oM 19 8 0,oM 6 19 1] [6]) (kB [6] .ret)) (kS [2,7])) (kB [2,7] (.seq (rN [
 oM 21 7 0,oN 22 (.nilCheck (.t 21)) 1,oN 23 (fA 4 22) 2,oN 24 (lD 23) 3,oM 25 2 4,oN 26 (.pcall 126 [(.t 24,.as),(.t 25,.as)]) 5,oM 20 26 6,oN 27 (.extract (.t 20) 0) 7,oN 28 (.extract (.t 20) 1) 8,oM 9 27 9,oM 10 28 10] [7,9,10]) (.seq (rN [
 oM 29 10 0,oN 30 (.un .not (.t 29)) 1] [7,9,30]) (.seq (.cond (.t 30) (.seq (rN [
 oN 6 (.move (iC 8)) 0] [6]) (kB [6] .ret)) (kS [7,9])) (kB [7,9] (.seq (rN [
 oM 31 7 0,oM 32 9 1,oN 33 (.nilCheck (.t 31)) 2,oN 34 (fA 4 33) 3,⟨none,.store 1 false (.t 34) (.t 32),none,4,[]⟩] []) (.seq (rN [
 oN 6 (.move (iC 0)) 0] [6]) (kB [6] .ret)))))))))))) }
theorem j1s:b0f Go.Proofs.Tryz.prog 109 F109=true:=by decide +kernel
def F110:b0u:={ nparams:=3,results:=[.tmp 6],pure:=false,body :=
 (.seq (rN [
 oN 6 (.move (iC 0)) 0] [0,1,2]) (.seq (rN [
 oM 10 0 0,oM 11 1 1,oN 12 (.call 127 [(.t 10,.as),(.t 11,.as)]) 2,oM 9 12 3,oN 13 (.extract (.t 9) 0) 4,oN 14 (.extract (.t 9) 1) 5,oM 7 13 6,oM 8 14 7] [2,7,8]) (.seq (.block 0 (.seq (rN [
 oM 16 8 0,oN 17 (.eq .i true (.t 16) (iC 0)) 1,oM 15 17 2] [2,7,8,15]) (.seq (.cond (.t 15) (.seq (rN [
 oM 18 8 0,oM 6 18 1] [6]) (kB [6] .ret)) (.seq (rN [
 oM 20 2 0,oN 21 (.pcall 118 [(.t 20,.as)]) 1,oN 22 (.un .not (.t 21)) 2,oM 19 22 3] [2,7,19]) (.seq (.cond (.t 19) (.seq (rN [
 oN 6 (.move (iC 3)) 0] [6]) (kB [6] .ret)) (kS [2,7])) (kS [2,7])))) (kS [2,7])))) (kB [2,7] (.seq (rN [
 oM 23 7 0,oM 24 2 1,oN 25 (.nilCheck (.t 23)) 2,oN 26 (fA 3 25) 3,⟨none,.store 1 false (.t 26) (.t 24),none,4,[]⟩] []) (.seq (rN [
 oN 6 (.move (iC 0)) 0] [6]) (kB [6] .ret))))))) }
theorem j1r:b0f Go.Proofs.Tryz.prog 110 F110=true:=by decide +kernel
def F111:b0u:={ nparams:=2,results:=[.tmp 4],pure:=true,body :=
 (.seq (rN [
 oN 4 (.move (.c (.bool false))) 0] [0,1]) (.seq (rN [
 oM 5 0 0,oN 6 (.bin .geq (.t 5) (.c (.int .u8 97))) 1,oM 7 6 2,oG 8 (.move (.t 0)) 7 true 3,oG 9 (.bin .leq (.t 8) (.c (.int .u8 122))) 7 true 4,oN 10 (.pick (.t 7) (.t 9) (.c (.bool false))) 5,oM 11 10 6,oG 12 (.move (.t 0)) 11 false 7,oG 13 (.bin .geq (.t 12) (.c (.int .u8 48))) 11 false 8,oG 14 (.move (.t 13)) 11 false 9,oG 15 (.move (.t 0)) 14 true 10,oG 16 (.bin .leq (.t 15) (.c (.int .u8 57))) 14 true 11,oG 17 (.pick (.t 14) (.t 16) (.c (.bool false))) 11 false 12,oN 18 (.pick (.t 11) (.c (.bool true)) (.t 17)) 13,oM 19 18 14,oG 20 (.move (.t 0)) 19 false 15,oG 21 (.eq .i false (.t 20) (.c (.int .u8 45))) 19 false 16,oN 22 (.pick (.t 19) (.c (.bool true)) (.t 21)) 17,oM 23 22 18,oG 24 (.move (.t 1)) 23 false 19,oG 25 (.move (.t 24)) 23 false 20,oG 26 (.move (.t 0)) 25 true 21,oG 27 (.eq .i false (.t 26) (.c (.int .u8 58))) 25 true 22,oG 28 (.move (.t 27)) 25 true 23,oG 29 (.move (.t 0)) 28 false 24,oG 30 (.eq .i false (.t 29) (.c (.int .u8 46))) 28 false 25,oG 31 (.pick (.t 28) (.c (.bool true)) (.t 30)) 25 true 26,oG 32 (.pick (.t 25) (.t 31) (.c (.bool false))) 23 false 27,oN 33 (.pick (.t 23) (.c (.bool true)) (.t 32)) 28,oM 4 33 29] [4]) (kB [4] .ret))) }
theorem j1q:b0f Go.Proofs.Tryz.prog 111 F111=true:=by decide +kernel
def c6c:b1g :=
 (.seq (rN [
 oM 6 5 0,oM 7 0 1,oN 8 (.len 0 (.t 7)) 2,oN 9 (.bin .lss (.t 6) (.t 8)) 3,oM 10 9 4,oG 11 (.move (.t 5)) 10 true 5,oG 12 (.move (.t 1)) 10 true 6,oG 13 (.len 0 (.t 12)) 10 true 7,oG 14 (.bin .lss (.t 11) (.t 13)) 10 true 8,oN 15 (.pick (.t 10) (.t 14) (.c (.bool false))) 9] [0,1,5,15]) (.seq (.cond (.t 15) (kS [0,1,5]) (kB [0,1] (.exit 0))) (kB [0,1,5] (.seq (.block 1 (.seq (.region [
 oM 18 0 0,oM 19 5 1,oN 20 (.index (.t 18) (.t 19)) 2,oM 21 1 3,oM 22 5 4,oN 23 (.index (.t 21) (.t 22)) 5,oN 24 (.bin .lss (.t 20) (.t 23)) 6] true [0,1,5,24] []) (.seq (.cond (.t 24) (.seq (rN [
 oN 4 (.move (iC (-1))) 0] [4]) (kB [4] .ret)) (kS [0,1,5])) (kB [0,1,5] (.seq (.region [
 oM 25 0 0,oM 26 5 1,oN 27 (.index (.t 25) (.t 26)) 2,oM 28 1 3,oM 29 5 4,oN 30 (.index (.t 28) (.t 29)) 5,oN 31 (.bin .gtr (.t 27) (.t 30)) 6] true [0,1,5,31] []) (.seq (.cond (.t 31) (.seq (rN [
 oN 4 (.move (iC 1)) 0] [4]) (kB [4] .ret)) (kS [0,1,5])) (kS [0,1,5]))))))) (kB [0,1,5] (.seq (rN [
 oM 16 5 0,oN 17 (.bin .add (.t 16) (iC 1)) 1,oM 5 17 2] [0,1,5]) (kS [0,1,5])))))))
def F112:b0u:={ nparams:=2,results:=[.tmp 4],pure:=true,body :=
 (.seq (rN [
 oN 4 (.move (iC 0)) 0] [0,1]) (.seq (rN [
 oN 5 (.move (iC 0)) 0] [0,1,5]) (.seq (.block 0 (.seq (kB [0,1,5] (.loop c6c)) (kS [0,1]))) (kB [0,1] (.seq (rN [
 oM 32 0 0,oN 33 (.len 0 (.t 32)) 1,oM 34 1 2,oN 35 (.len 0 (.t 34)) 3,oN 36 (.bin .lss (.t 33) (.t 35)) 4] [0,1,36]) (.seq (.cond (.t 36) (.seq (rN [
 oN 4 (.move (iC (-1))) 0] [4]) (kB [4] .ret)) (kS [0,1])) (kB [0,1] (.seq (rN [
 oM 37 0 0,oN 38 (.len 0 (.t 37)) 1,oM 39 1 2,oN 40 (.len 0 (.t 39)) 3,oN 41 (.bin .gtr (.t 38) (.t 40)) 4] [41]) (.seq (.cond (.t 41) (.seq (rN [
 oN 4 (.move (iC 1)) 0] [4]) (kB [4] .ret)) (kS [])) (kB [] (.seq (rN [
 oN 4 (.move (iC 0)) 0] [4]) (kB [4] .ret)))))))))))) }
theorem j1p:b0f Go.Proofs.Tryz.prog 112 F112=true:=by decide +kernel
def F113:b0u:={ nparams:=1,results:=[.tmp 2],pure:=true,body :=
 (.seq (rN [
 oN 2 (.move (.c (.bool false))) 0] [0]) (.seq (rN [
 oM 3 0 0,oN 4 (.bin .geq (.t 3) (iC 0)) 1,oM 5 4 2,oG 6 (.move (.t 0)) 5 true 3,oG 7 (.bin .leq (.t 6) (iC 4294967295)) 5 true 4,oN 8 (.pick (.t 5) (.t 7) (.c (.bool false))) 5,oM 2 8 6] [2]) (kB [2] .ret))) }
theorem j1o:b0f Go.Proofs.Tryz.prog 113 F113=true:=by decide +kernel
def F114:b0u:={ nparams:=2,results:=[.tmp 4],pure:=true,body :=
 (.seq (.region [
 oN 2 (.box false 2 (.t 0)) 0,oN 3 (.box false 3 (.t 1)) 1,oN 4 (.move (.c (.bool false))) 2] false [2,3] [2,3]) (.seq (.region [
 oN 6 (fA 8 2) 0,oN 7 (lD 6) 1,oN 8 (fA 8 3) 2,oN 9 (lD 8) 3,oN 10 (.pcall 165 [(.t 7,.as),(.t 9,.as)]) 4,oN 11 (.un .not (.t 10)) 5] false [2,3,11] [2,3]) (.seq (.cond (.t 11) (.seq (rN [
 oN 4 (.move (.c (.bool false))) 0] [4]) (kB [4] .ret)) (.keep [2,3] [2,3] .skip)) (.keep [2,3] [2,3] (.seq (.region [
 oN 5 (.move (.f 166)) 0] false [2,3,5] [2,3]) (.seq (.draw [
 oM 12 5 0,oN 13 (.load 9 true (.t 2)) 1,oM 15 5 3,oN 16 (.load 9 true (.t 3)) 4,⟨some 14,.callv (.t 12) [(.t 13,.as)],none,2,[4]⟩,oN 17 (.callv (.t 15) [(.t 16,.as)]) 5,oN 18 (.eq (.st [2,2,2,2,2,2,2,2,2]) false (.t 14) (.t 17)) 6,oM 4 18 7] [4] []) (kB [4] .ret))))))) }
theorem j1n:b0f Go.Proofs.Tryz.prog 114 F114=true:=by decide +kernel
def F115:b0u:={ nparams:=1,results:=[.cell 2 9 true],pure:=true,body :=
 (.seq (.region [
 oN 1 (.box false 1 (.t 0)) 0,oN 2 (.alloc false 2 [.p (.int .i64 0),.p (.int .i64 0),.p (.int .i64 0),.p (.int .i64 0),.p (.str []),.p (.str []),.p (.str []),.p (.str []),.p (.list [])] []) 1] false [1,2] [1,2]) (.seq (.region [
 oN 4 (fA 0 1) 0,oN 5 (lD 4) 1,oN 6 (.build [.p (.int .i64 0),.p (.int .i64 0),.p (.int .i64 0),.p (.int .i64 0),.p (.str []),.p (.str []),.p (.str []),.p (.str []),.p (.list [])] [(0,1,.t 5)]) 2,oN 3 (.alloc false 3 [.p (.int .i64 0),.p (.int .i64 0),.p (.int .i64 0),.p (.int .i64 0),.p (.str []),.p (.str []),.p (.str []),.p (.str []),.p (.list [])] []) 3,⟨none,.store 9 true (.t 3) (.t 6),none,4,[]⟩] false [1,2,3] [1,2,3]) (.seq (.region [
 oN 7 (fA 0 1) 0,oN 8 (lD 7) 1] false [1,2,3,8] [1,2,3]) (.seq (.block 0 (.seq (.block 6 (.seq (.block 5 (.seq (.block 4 (.seq (.block 3 (.seq (.block 2 (.seq (.block 1 (.seq (.region [
 oN 10 (.eq .i false (.t 8) (iC 1)) 0,oM 9 10 1] false [1,2,3,8,9] [1,2,3]) (.seq (.cond (.t 9) (.keep [1,2,3] [1,2,3] (.exit 1)) (.keep [1,2,3,8] [1,2,3] .skip)) (.keep [1,2,3,8] [1,2,3] (.seq (.region [
 oN 12 (.eq .i false (.t 8) (iC 2)) 0,oM 11 12 1] false [1,2,3,8,11] [1,2,3]) (.seq (.cond (.t 11) (.keep [1,2,3] [1,2,3] (.exit 2)) (.keep [1,2,3,8] [1,2,3] .skip)) (.keep [1,2,3,8] [1,2,3] (.seq (.region [
 oN 14 (.eq .i false (.t 8) (iC 3)) 0,oM 13 14 1] false [1,2,3,8,13] [1,2,3]) (.seq (.cond (.t 13) (.keep [1,2,3] [1,2,3] (.exit 3)) (.keep [1,2,3,8] [1,2,3] .skip)) (.keep [1,2,3,8] [1,2,3] (.seq (.region [
 oN 16 (.eq .i false (.t 8) (iC 5)) 0,oM 15 16 1] false [1,2,3,8,15] [1,2,3]) (.seq (.cond (.t 15) (.keep [1,2,3] [1,2,3] (.exit 4)) (.keep [1,2,3,8] [1,2,3] .skip)) (.keep [1,2,3,8] [1,2,3] (.seq (.region [
 oN 18 (.eq .i false (.t 8) (iC 7)) 0,oM 17 18 1] false [1,2,3,8,17] [1,2,3]) (.seq (.cond (.t 17) (.keep [1,2,3] [1,2,3] (.exit 5)) (.keep [1,2,3,8] [1,2,3] .skip)) (.keep [1,2,3,8] [1,2,3] (.seq (.region [
 oN 20 (.eq .i false (.t 8) (iC 6)) 0,oM 19 20 1] false [1,2,3,19] [1,2,3]) (.seq (.cond (.t 19) (.keep [1,2,3] [1,2,3] (.exit 6)) (.keep [1,2,3] [1,2,3] .skip)) (.keep [1,2,3] [1,2,3] (.exit 0)))))))))))))))))))) (.keep [1,2,3] [1,2,3] (.seq (.draw [
 oN 21 (fA 4 1) 0,oN 22 (lD 21) 1,oN 23 (fA 5 1) 2,oN 24 (lD 23) 3,oN 25 (fA 7 1) 4,oN 26 (lD 25) 5,oN 27 (fA 8 1) 6,oN 28 (lD 27) 7,oN 29 (fA 4 3) 8,⟨none,.store 1 false (.t 29) (.t 22),none,9,[3,5,7]⟩,oN 30 (fA 5 3) 10,⟨none,.store 1 false (.t 30) (.t 24),none,11,[5,7]⟩,oN 31 (fA 7 3) 12,⟨none,.store 1 false (.t 31) (.t 26),none,13,[7]⟩,oN 32 (fA 8 3) 14,⟨none,.store 1 false (.t 32) (.t 28),none,15,[]⟩] [2,3] [2,3]) (.seq (.region [
 oN 33 (.load 9 true (.t 3)) 0,⟨none,.store 9 true (.t 2) (.t 33),none,1,[]⟩] false [2] [2]) (.seq (.keep [2] [2] .ret) (.keep [1,2,3] [1,2,3] (.exit 0)))))))) (.keep [1,2,3] [1,2,3] (.seq (.region [
 oN 34 (fA 2 1) 0,oN 35 (lD 34) 1,oN 36 (fA 2 3) 2,⟨none,.store 1 false (.t 36) (.t 35),none,3,[]⟩] false [1,2,3] [1,2,3]) (.keep [1,2,3] [1,2,3] .skip))))) (.keep [1,2,3] [1,2,3] (.seq (.region [
 oN 37 (fA 3 1) 0,oN 38 (lD 37) 1,oN 39 (fA 3 3) 2,⟨none,.store 1 false (.t 39) (.t 38),none,3,[]⟩] false [1,2,3] [1,2,3]) (.keep [1,2,3] [1,2,3] (.exit 0)))))) (.keep [1,2,3] [1,2,3] (.seq (.region [
 oN 40 (fA 6 1) 0,oN 41 (lD 40) 1,oN 42 (fA 6 3) 2,⟨none,.store 1 false (.t 42) (.t 41),none,3,[]⟩] false [1,2,3] [1,2,3]) (.keep [1,2,3] [1,2,3] .skip))))) (.keep [1,2,3] [1,2,3] (.seq (.region [
 oN 43 (fA 7 1) 0,oN 44 (lD 43) 1,oN 45 (fA 7 3) 2,⟨none,.store 1 false (.t 45) (.t 44),none,3,[]⟩] false [1,2,3] [1,2,3]) (.keep [1,2,3] [1,2,3] (.exit 0)))))) (.keep [1,2,3] [1,2,3] (.seq (.region [
 oN 46 (fA 6 1) 0,oN 47 (lD 46) 1,oN 48 (fA 6 3) 2,⟨none,.store 1 false (.t 48) (.t 47),none,3,[]⟩] false [1,2,3] [1,2,3]) (.keep [1,2,3] [1,2,3] (.exit 0)))))) (.keep [1,2,3] [1,2,3] (.seq (.region [
 oN 49 (fA 1 1) 0,oN 50 (lD 49) 1,oN 51 (fA 1 3) 2,⟨none,.store 1 false (.t 51) (.t 50),none,3,[]⟩] false [2,3] [2,3]) (.seq (.region [
 oN 52 (.load 9 true (.t 3)) 0,⟨none,.store 9 true (.t 2) (.t 52),none,1,[]⟩] false [2] [2]) (.keep [2] [2] .ret)))))))) }
theorem j1m:b0f Go.Proofs.Tryz.prog 115 F115=true:=by decide +kernel
def F116:b0u:={ nparams:=1,results:=[.tmp 2],pure:=true,body :=
 (.seq (rN [
 oN 2 (.move (.c (.bool false))) 0] [0]) (.seq (rN [
 oM 3 0 0,oN 4 (.pcall 168 [(.t 3,.as),(.c (.str [45]),.as)]) 1,oM 2 4 2] [2]) (kB [2] .ret))) }
theorem j1l:b0f Go.Proofs.Tryz.prog 116 F116=true:=by decide +kernel
def F117:b0u:={ nparams:=1,results:=[.tmp 2],pure:=true,body :=
 (.seq (rN [
 oN 2 (.move (.c (.bool false))) 0] [0]) (.seq (rN [
 oM 3 0 0,oN 4 (.pcall 168 [(.t 3,.as),(.c (.str [45,58,46]),.as)]) 1,oM 2 4 2] [2]) (kB [2] .ret))) }
theorem j1k:b0f Go.Proofs.Tryz.prog 117 F117=true:=by decide +kernel
def F118:b0u:={ nparams:=1,results:=[.tmp 2],pure:=true,body :=
 (.seq (rN [
 oN 2 (.move (.c (.bool false))) 0] [0]) (.seq (rN [
 oM 3 0 0,oN 4 (.len 0 (.t 3)) 1,oN 5 (.bin .leq (.t 4) (iC 65536)) 2,oM 2 5 3] [2]) (kB [2] .ret))) }
theorem j1j:b0f Go.Proofs.Tryz.prog 118 F118=true:=by decide +kernel
def b7w:b1g :=
 (.seq (rN [
 oN 10 (.bin .lss (.t 9) (.t 8)) 0] [0,7,8,9,10]) (.seq (.cond (.t 10) (kS [0,7,8,9]) (kB [] (.exit 0))) (kB [0,7,8,9] (.seq (.block 1 (.seq (.region [
 oM 11 9 0,oN 12 (.indexAddr 2 (.t 7) (.t 9)) 1,oN 13 (.load 2 true (.t 12)) 2,oN 5 (.alloc false 5 [.p (.str []),.p (.str [])] []) 3,oM 4 11 4,⟨none,.store 2 true (.t 5) (.t 13),none,5,[]⟩] false [0,4,5,7,8,9] [5]) (.seq (.region [
 oN 6 (.move (iC 0)) 0] false [0,4,5,6,7,8,9] [5]) (.seq (.block 2 (.seq (.region [
 oM 15 4 0,oN 16 (.eq .i false (.t 15) (iC 64)) 1,oM 14 16 2] false [0,4,5,6,7,8,9,14] [5]) (.seq (.cond (.t 14) (.seq (rN [
 oN 6 (.move (iC 12)) 0] [0,4,6,7,8,9]) (kS [0,4,6,7,8,9])) (.seq (.region [
 oN 18 (fA 0 5) 0,oN 19 (lD 18) 1,oN 20 (.pcall 117 [(.t 19,.as)]) 2,oN 21 (.un .not (.t 20)) 3,oM 17 21 4] false [0,4,5,6,7,8,9,17] [5]) (.seq (.cond (.t 17) (.seq (rN [
 oN 6 (.move (iC 8)) 0] [0,4,6,7,8,9]) (kS [0,4,6,7,8,9])) (.seq (.region [
 oN 23 (fA 1 5) 0,oN 24 (lD 23) 1,oN 25 (.pcall 118 [(.t 24,.as)]) 2,oN 26 (.un .not (.t 25)) 3,oM 22 26 4] false [0,4,5,6,7,8,9,22] [5]) (.seq (.cond (.t 22) (.seq (rN [
 oN 6 (.move (iC 3)) 0] [0,4,6,7,8,9]) (kS [0,4,6,7,8,9])) (.seq (.region [
 oM 28 4 0,oN 29 (.bin .gtr (.t 28) (iC 0)) 1,oM 30 29 2,oG 31 (.move (.t 0)) 30 true 3,oG 32 (.move (.t 4)) 30 true 4,oG 33 (.bin .sub (.t 32) (iC 1)) 30 true 5,oG 34 (.indexAddr 2 (.t 31) (.t 33)) 30 true 6,oG 35 (fA 0 34) 30 true 7,oG 36 (lD 35) 30 true 8,oG 37 (fA 0 5) 30 true 9,oG 38 (lD 37) 30 true 10,oG 39 (.eq .s false (.t 36) (.t 38)) 30 true 11,oN 40 (.pick (.t 30) (.t 39) (.c (.bool false))) 12,oM 27 40 13] true [0,4,5,6,7,8,9,27] [5]) (.seq (.cond (.t 27) (.seq (rN [
 oN 6 (.move (iC 10)) 0] [0,4,6,7,8,9]) (kS [0,4,6,7,8,9])) (.seq (.region [
 oM 42 4 0,oN 43 (.bin .gtr (.t 42) (iC 0)) 1,oM 44 43 2,oG 45 (.move (.t 0)) 44 true 3,oG 46 (.move (.t 4)) 44 true 4,oG 47 (.bin .sub (.t 46) (iC 1)) 44 true 5,oG 48 (.indexAddr 2 (.t 45) (.t 47)) 44 true 6,oG 49 (fA 0 48) 44 true 7,oG 50 (lD 49) 44 true 8,oG 51 (fA 0 5) 44 true 9,oG 52 (lD 51) 44 true 10,oG 53 (.bin .gtr (.t 50) (.t 52)) 44 true 11,oN 54 (.pick (.t 44) (.t 53) (.c (.bool false))) 12,oM 41 54 13] true [0,4,6,7,8,9,41] []) (.seq (.cond (.t 41) (.seq (rN [
 oN 6 (.move (iC 9)) 0] [0,4,6,7,8,9]) (kS [0,4,6,7,8,9])) (kS [0,4,6,7,8,9])) (kS [0,4,6,7,8,9])))) (kS [0,4,6,7,8,9])))) (kS [0,4,6,7,8,9])))) (kS [0,4,6,7,8,9])))) (kS [0,4,6,7,8,9])))) (kB [0,4,6,7,8,9] (.seq (rN [
 oM 55 6 0,oN 56 (.eq .i true (.t 55) (iC 0)) 1] [0,4,6,7,8,9,56]) (.seq (.cond (.t 56) (.seq (rN [
 oM 57 4 0,oM 58 6 1,oM 2 57 2,oM 3 58 3] [2,3]) (kB [2,3] .ret)) (kS [0,7,8,9])) (kS [0,7,8,9])))))))) (kB [0,7,8,9] (.seq (rN [
 oN 59 (.bin .add (.t 9) (iC 1)) 0,oM 9 59 1] [0,7,8,9]) (kS [0,7,8,9])))))))
def F119:b0u:={ nparams:=1,results:=[.tmp 2,.tmp 3],pure:=true,body :=
 (.seq (rN [
 oN 2 (.move (iC 0)) 0,oN 3 (.move (iC 0)) 1] [0]) (.seq (rN [
 oM 7 0 0,oN 8 (.len 1 (.t 7)) 1,oN 9 (.move (iC 0)) 2] [0,7,8,9]) (.seq (.block 0 (.seq (kB [0,7,8,9] (.loop b7w)) (kS []))) (kB [] (.seq (rN [
 oN 2 (.move (iC 0)) 0,oN 3 (.move (iC 0)) 1] [2,3]) (kB [2,3] .ret)))))) }
theorem j1i:b0f Go.Proofs.Tryz.prog 119 F119=true:=by decide +kernel
def F120:b0u:={ nparams:=2,results:=[.tmp 4],pure:=false,body :=
 (.seq (rN [
 oN 4 (.move (.c (.bool false))) 0] [0,1]) (.seq (rN [
 oM 5 1 0,oN 6 (.bin .geq (.t 5) (iC 0)) 1,oM 7 6 2,oG 8 (.move (.t 1)) 7 true 3,oG 9 (.move (.t 0)) 7 true 4,oG 10 (.nilCheck (.t 9)) 7 true 5,oG 11 (fA 0 10) 7 true 6,oG 12 (lD 11) 7 true 7,oG 13 (.len 1 (.t 12)) 7 true 8,oG 14 (.bin .lss (.t 8) (.t 13)) 7 true 9,oN 15 (.pick (.t 7) (.t 14) (.c (.bool false))) 10,oM 16 15 11,oG 17 (.move (.t 0)) 16 true 12,oG 18 (.nilCheck (.t 17)) 16 true 13,oG 19 (fA 0 18) 16 true 14,oG 20 (lD 19) 16 true 15,oG 21 (.move (.t 1)) 16 true 16,oG 22 (.indexAddr 7 (.t 20) (.t 21)) 16 true 17,oG 23 (fA 0 22) 16 true 18,oG 24 (lD 23) 16 true 19,oN 25 (.pick (.t 16) (.t 24) (.c (.bool false))) 20,oM 4 25 21] [4]) (kB [4] .ret))) }
theorem j1h:b0f Go.Proofs.Tryz.prog 120 F120=true:=by decide +kernel
def d1n:b1g :=
 (.seq (rN [
 oM 7 1 0,oN 8 (.bin .geq (.t 7) (iC 0)) 1] [0,1,2,8]) (.seq (.cond (.t 8) (kS [0,1,2]) (kB [] (.exit 0))) (kB [0,1,2] (.seq (.block 1 (.seq (rN [
 oM 17 1 0,oM 18 2 1,oN 19 (.eq .i false (.t 17) (.t 18)) 2] [0,1,2,19]) (.seq (.cond (.t 19) (.seq (rN [
 oN 6 (.move (.c (.bool true))) 0] [6]) (kB [6] .ret)) (kS [0,1,2])) (kS [0,1,2])))) (kB [0,1,2] (.seq (rN [
 oM 9 0 0,oN 10 (.nilCheck (.t 9)) 1,oN 11 (fA 0 10) 2,oN 12 (lD 11) 3,oM 13 1 4,oN 14 (.indexAddr 7 (.t 12) (.t 13)) 5,oN 15 (fA 1 14) 6,oN 16 (lD 15) 7,oM 1 16 8] [0,1,2]) (kS [0,1,2])))))))
def F121:b0u:={ nparams:=3,results:=[.tmp 6],pure:=false,body :=
 (.seq (rN [
 oN 6 (.move (.c (.bool false))) 0] [0,1,2]) (.seq (.block 0 (.seq (kB [0,1,2] (.loop d1n)) (kS []))) (kB [] (.seq (rN [
 oN 6 (.move (.c (.bool false))) 0] [6]) (kB [6] .ret))))) }
theorem j1g:b0f Go.Proofs.Tryz.prog 121 F121=true:=by decide +kernel
def F122:b0u:={ nparams:=4,results:=[],pure:=false,body :=
 (.seq (rN [
 oM 10 0 0,oN 11 (.nilCheck (.t 10)) 1,oN 12 (fA 0 11) 2,oN 13 (lD 12) 3,oM 14 2 4,oN 15 (.indexAddr 7 (.t 13) (.t 14)) 5,oN 16 (fA 2 15) 6,oN 17 (lD 16) 7,oM 8 17 8] [0,1,2,3,8]) (.seq (rN [
 oM 18 8 0,oN 19 (.len 1 (.t 18)) 1,oM 9 19 2] [0,1,2,3,8,9]) (.seq (rN [
 oM 20 3 0,oN 21 (.eq .i true (.t 20) (iC 0)) 1] [0,1,2,3,8,9,21]) (.seq (.cond (.t 21) (.seq (rN [
 oM 22 8 0,oM 23 3 1,oN 24 (.pcall 150 [(.t 22,.look),(.t 23,.as)]) 2,oM 9 24 3] [0,1,2,8,9]) (kS [0,1,2,8,9])) (kS [0,1,2,8,9])) (kB [0,1,2,8,9] (.seq (.draw [
 oM 25 0 0,oN 26 (.nilCheck (.t 25)) 1,oN 27 (fA 0 26) 2,oN 28 (lD 27) 3,oM 29 2 4,oM 30 8 5,oM 32 9 7,oM 33 1 8,oN 34 (.row 1 [.t 33]) 9,⟨some 31,.call 78 [(.t 30,.as)],none,6,[3]⟩,⟨some 35,.call 169 [(.t 31,.as),(.t 32,.as),(.t 34,.freeze)],none,10,[3]⟩,oN 36 (.indexAddr 7 (.t 28) (.t 29)) 11,oN 37 (fA 2 36) 12,⟨none,.store 1 false (.t 37) (.t 35),none,13,[]⟩] [0,1,2] []) (.seq (rN [
 oM 38 0 0,oN 39 (.nilCheck (.t 38)) 1,oN 40 (fA 0 39) 2,oN 41 (lD 40) 3,oM 42 1 4,oM 43 2 5,oN 44 (.indexAddr 7 (.t 41) (.t 42)) 6,oN 45 (fA 1 44) 7,⟨none,.store 1 false (.t 45) (.t 43),none,8,[]⟩] []) (kS [])))))))) }
theorem j1f:b0f Go.Proofs.Tryz.prog 122 F122=true:=by decide +kernel
def F124:b0u:={ nparams:=2,results:=[.tmp 3],pure:=false,body :=
 (.seq (rN [
 oN 3 (.move (.c (.bool false))) 0] [0,1]) (.seq (rN [
 oM 4 0 0,oN 5 (lD 1) 1,oN 6 (.eq .i false (.t 4) (.t 5)) 2,oM 3 6 3] [3]) (kB [3] .ret))) }
theorem j1e:b0f Go.Proofs.Tryz.prog 124 F124=true:=by decide +kernel
def F125:b0u:={ nparams:=3,results:=[.tmp 6],pure:=true,body :=
 (.seq (rN [
 oN 6 (.move (.c (.list []))) 0] [0,1,2]) (.seq (rN [
 oM 11 0 0,oM 12 1 1,oN 13 (.pcall 171 [(.t 11,.as),(.t 12,.as)]) 2,oM 10 13 3,oN 14 (.extract (.t 10) 0) 4,oN 15 (.extract (.t 10) 1) 5,oM 7 14 6,oM 8 15 7] [0,1,2,7,8]) (.seq (rN [
 oM 16 0 0,oN 17 (.call 56 [(.t 16,.as)]) 1,oM 9 17 2] [1,2,7,8,9]) (.seq (rN [
 oM 18 8 0] [1,2,7,9,18]) (.seq (.cond (.t 18) (.seq (rN [
 oM 19 9 0,oM 20 7 1,oM 21 2 2,oN 22 (.indexAddr 2 (.t 19) (.t 20)) 3,oN 23 (fA 1 22) 4,⟨none,.store 1 false (.t 23) (.t 21),none,5,[]⟩] [9]) (.seq (rN [
 oM 24 9 0,oM 6 24 1] [6]) (kB [6] .ret))) (kS [1,2,7,9])) (kB [1,2,7,9] (.seq (rN [
 oM 25 9 0,oM 26 7 1,oM 27 1 2,oM 28 2 3,oN 29 (.build [.p (.str []),.p (.str [])] [(0,1,.t 27),(1,1,.t 28)]) 4,oN 30 (.row 2 [.t 29]) 5,oN 31 (.call 172 [(.t 25,.as),(.t 26,.as),(.t 30,.freeze)]) 6,oM 6 31 7] [6]) (kB [6] .ret)))))))) }
theorem j1d:b0f Go.Proofs.Tryz.prog 125 F125=true:=by decide +kernel
def F126:b0u:={ nparams:=2,results:=[.tmp 4,.tmp 5],pure:=true,body :=
 (.seq (rN [
 oN 3 (.box true 3 (.t 1)) 0,oN 4 (.move (.c (.list []))) 1,oN 5 (.move (.c (.bool false))) 2] [0,3]) (.seq (rN [
 oM 7 0 0,oN 8 (.call 56 [(.t 7,.as)]) 1,oN 9 (.makeFunc 174 [.t 3]) 2,oN 10 (.call 173 [(.t 8,.as),(.t 9,.as)]) 3,oM 6 10 4] [0,6]) (.seq (rN [
 oM 11 6 0,oM 12 6 1,oN 13 (.len 1 (.t 12)) 2,oM 14 0 3,oN 15 (.len 1 (.t 14)) 4,oN 16 (.bin .lss (.t 13) (.t 15)) 5,oM 4 11 6,oM 5 16 7] [4,5]) (kB [4,5] .ret)))) }
theorem j1c:b0f Go.Proofs.Tryz.prog 126 F126=true:=by decide +kernel
def F127:b0u:={ nparams:=2,results:=[.tmp 4,.tmp 5],pure:=false,body :=
 (.seq (rN [
 oN 4 (.move (.c (.nilp))) 0,oN 5 (.move (iC 0)) 1] [0,1]) (.seq (.block 0 (.seq (rN [
 oM 8 0 0,oN 9 (.eq .ptr false (.t 8) (.c (.nilp))) 1,oM 7 9 2] [0,1,7]) (.seq (.cond (.t 7) (.seq (rN [
 oN 4 (.move (.c (.nilp))) 0,oN 5 (.move (iC 1)) 1] [4,5]) (kB [4,5] .ret)) (.seq (rN [
 oM 11 1 0,oN 12 (.eq .i false (.t 11) (iC 0)) 1,oM 10 12 2] [0,1,10]) (.seq (.cond (.t 10) (.seq (rN [
 oN 4 (.move (.c (.nilp))) 0,oN 5 (.move (iC 14)) 1] [4,5]) (kB [4,5] .ret)) (kS [0,1])) (kS [0,1])))) (kS [0,1])))) (kB [0,1] (.seq (rN [
 oM 13 0 0,oN 14 (.nilCheck (.t 13)) 1,oN 15 (fA 0 14) 2,oN 16 (lD 15) 3,oM 17 1 4,oN 18 (.lookup 1 (.nilp) false (.t 16) (.t 17)) 5,oM 6 18 6] [6]) (.seq (rN [
 oM 19 6 0,oN 20 (.eq .ptr false (.t 19) (.c (.nilp))) 1] [6,20]) (.seq (.cond (.t 20) (.seq (rN [
 oN 4 (.move (.c (.nilp))) 0,oN 5 (.move (iC 13)) 1] [4,5]) (kB [4,5] .ret)) (kS [6])) (kB [6] (.seq (rN [
 oM 21 6 0,oM 4 21 1,oN 5 (.move (iC 0)) 2] [4,5]) (kB [4,5] .ret))))))))) }
theorem j1b:b0f Go.Proofs.Tryz.prog 127 F127=true:=by decide +kernel
def F128:b0u:={ nparams:=2,results:=[.tmp 4,.tmp 5],pure:=false,body :=
 (.seq (rN [
 oN 4 (.move (.c (.nilp))) 0,oN 5 (.move (iC 0)) 1] [0,1]) (.seq (rN [
 oM 8 1 0,oN 9 (.eq .i false (.t 8) (iC 0)) 1] [0,1,9]) (.seq (.cond (.t 9) (.seq (rN [
 oN 4 (.move (.c (.nilp))) 0,oN 5 (.move (iC 0)) 1] [4,5]) (kB [4,5] .ret)) (kS [0,1])) (kB [0,1] (.seq (rN [
 oM 11 0 0,oM 12 1 1,oN 13 (.call 127 [(.t 11,.as),(.t 12,.as)]) 2,oM 10 13 3,oN 14 (.extract (.t 10) 0) 4,oN 15 (.extract (.t 10) 1) 5,oM 6 14 6,oM 7 15 7] [6,7]) (.seq (rN [
 oM 16 7 0,oN 17 (.eq .i true (.t 16) (iC 0)) 1] [6,7,17]) (.seq (.cond (.t 17) (.seq (rN [
 oM 18 7 0,oN 4 (.move (.c (.nilp))) 1,oM 5 18 2] [4,5]) (kB [4,5] .ret)) (kS [6])) (kB [6] (.seq (rN [
 oM 19 6 0,oN 20 (.nilCheck (.t 19)) 1,oN 21 (fA 0 20) 2,oN 22 (lD 21) 3,oM 4 22 4,oN 5 (.move (iC 0)) 5] [4,5]) (kB [4,5] .ret)))))))))) }
theorem j1a:b0f Go.Proofs.Tryz.prog 128 F128=true:=by decide +kernel
def F129:b0u:={ nparams:=3,results:=[.tmp 6],pure:=false,body :=
 (.seq (rN [
 oN 6 (.move (iC 0)) 0] [0,1,2]) (.seq (.block 0 (.seq (rN [
 oM 8 0 0,oN 9 (.eq .ptr false (.t 8) (.c (.nilp))) 1,oM 10 9 2,oG 11 (.move (.t 1)) 10 false 3,oG 12 (.eq .ptr false (.t 11) (.c (.nilp))) 10 false 4,oN 13 (.pick (.t 10) (.c (.bool true)) (.t 12)) 5,oM 7 13 6] [0,1,2,7]) (.seq (.cond (.t 7) (.seq (rN [
 oN 6 (.move (iC 1)) 0] [6]) (kB [6] .ret)) (.seq (rN [
 oM 15 1 0,oN 16 (.nilCheck (.t 15)) 1,oN 17 (fA 1 16) 2,oN 18 (lD 17) 3,oN 19 (.eq .ptr true (.t 18) (.c (.nilp))) 4,oM 14 19 5] [0,1,2,14]) (.seq (.cond (.t 14) (.seq (rN [
 oN 6 (.move (iC 15)) 0] [6]) (kB [6] .ret)) (.seq (rN [
 oM 21 0 0,oM 22 1 1,oN 23 (.call 175 [(.t 21,.as),(.t 22,.as)]) 2,oM 20 23 3] [0,1,2,20]) (.seq (.cond (.t 20) (.seq (rN [
 oN 6 (.move (iC 17)) 0] [6]) (kB [6] .ret)) (.seq (rN [
 oM 25 2 0,oN 26 (.eq .ptr true (.t 25) (.c (.nilp))) 1,oM 27 26 2,oG 28 (.move (.t 2)) 27 true 3,oG 29 (.nilCheck (.t 28)) 27 true 4,oG 30 (fA 1 29) 27 true 5,oG 31 (lD 30) 27 true 6,oG 32 (.move (.t 0)) 27 true 7,oG 33 (.eq .ptr true (.t 31) (.t 32)) 27 true 8,oN 34 (.pick (.t 27) (.t 33) (.c (.bool false))) 9,oM 24 34 10] [0,1,2,24]) (.seq (.cond (.t 24) (.seq (rN [
 oN 6 (.move (iC 18)) 0] [6]) (kB [6] .ret)) (kS [0,1,2])) (kS [0,1,2])))) (kS [0,1,2])))) (kS [0,1,2])))) (kS [0,1,2])))) (kB [0,1,2] (.seq (rN [
 oM 35 1 0,oM 36 1 1,oM 37 0 2,oM 38 2 3,oN 39 (.nilCheck (.t 35)) 4,oN 40 (fA 1 39) 5,⟨none,.store 1 false (.t 40) (.t 37),none,6,[]⟩,oN 41 (.nilCheck (.t 36)) 7,oN 42 (fA 5 41) 8,⟨none,.store 1 false (.t 42) (.t 38),none,9,[]⟩] [0,1,2]) (.seq (rN [
 oM 43 2 0,oN 44 (.eq .ptr false (.t 43) (.c (.nilp))) 1] [0,1,2,44]) (.seq (.cond (.t 44) (.seq (rN [
 oM 45 1 0,oM 46 0 1,oN 47 (.nilCheck (.t 46)) 2,oN 48 (fA 3 47) 3,oN 49 (lD 48) 4,oN 50 (.nilCheck (.t 45)) 5,oN 51 (fA 4 50) 6,⟨none,.store 1 false (.t 51) (.t 49),none,7,[]⟩] [0,1]) (.seq (rN [
 oM 52 0 0,oM 53 1 1,oN 54 (.nilCheck (.t 52)) 2,oN 55 (fA 3 54) 3,⟨none,.store 1 false (.t 55) (.t 53),none,4,[]⟩] [0,1]) (kS [0,1]))) (.seq (rN [
 oM 56 1 0,oM 57 2 1,oN 58 (.nilCheck (.t 57)) 2,oN 59 (fA 4 58) 3,oN 60 (lD 59) 4,oN 61 (.nilCheck (.t 56)) 5,oN 62 (fA 4 61) 6,⟨none,.store 1 false (.t 62) (.t 60),none,7,[]⟩] [0,1,2]) (.seq (rN [
 oM 63 2 0,oM 64 1 1,oN 65 (.nilCheck (.t 63)) 2,oN 66 (fA 4 65) 3,⟨none,.store 1 false (.t 66) (.t 64),none,4,[]⟩] [0,1]) (kS [0,1])))) (kB [0,1] (.seq (rN [
 oM 67 1 0,oN 68 (.nilCheck (.t 67)) 1,oN 69 (fA 4 68) 2,oN 70 (lD 69) 3,oN 71 (.eq .ptr false (.t 70) (.c (.nilp))) 4] [0,1,71]) (.seq (.cond (.t 71) (.seq (rN [
 oM 72 0 0,oM 73 1 1,oN 74 (.nilCheck (.t 72)) 2,oN 75 (fA 2 74) 3,⟨none,.store 1 false (.t 75) (.t 73),none,4,[]⟩] []) (kS [])) (.seq (rN [
 oM 76 1 0,oN 77 (.nilCheck (.t 76)) 1,oN 78 (fA 4 77) 2,oN 79 (lD 78) 3,oM 80 1 4,oN 81 (.nilCheck (.t 79)) 5,oN 82 (fA 5 81) 6,⟨none,.store 1 false (.t 82) (.t 80),none,7,[]⟩] []) (kS []))) (kB [] (.seq (rN [
 oN 6 (.move (iC 0)) 0] [6]) (kB [6] .ret)))))))))))) }
theorem j0z:b0f Go.Proofs.Tryz.prog 129 F129=true:=by decide +kernel
def g1u:b1g :=
 (.seq (rN [
 oN 9 (.bin .lss (.t 8) (.t 7)) 0] [0,1,7,8,9]) (.seq (.cond (.t 9) (kS [0,1,7,8]) (kB [] (.exit 0))) (kB [0,1,7,8] (.seq (.block 1 (.seq (rN [
 oM 10 8 0,oM 5 10 1] [0,1,5,7,8]) (.seq (rN [
 oM 11 1 0,oM 12 0 1,oM 13 5 2,oN 14 (.indexAddr 1 (.t 12) (.t 13)) 3,oN 15 (lD 14) 4,oN 16 (.eq .i false (.t 11) (.t 15)) 5] [0,1,5,7,8,16]) (.seq (.cond (.t 16) (.seq (rN [
 oM 17 5 0,oM 4 17 1] [4]) (kB [4] .ret)) (kS [0,1,7,8])) (kS [0,1,7,8]))))) (kB [0,1,7,8] (.seq (rN [
 oN 18 (.bin .add (.t 8) (iC 1)) 0,oM 8 18 1] [0,1,7,8]) (kS [0,1,7,8])))))))
def F150:b0u:={ nparams:=2,results:=[.tmp 4],pure:=true,body :=
 (.seq (rN [
 oN 4 (.move (iC 0)) 0] [0,1]) (.seq (rN [
 oM 6 0 0,oN 7 (.len 1 (.t 6)) 1,oN 8 (.move (iC 0)) 2] [0,1,7,8]) (.seq (.block 0 (.seq (kB [0,1,7,8] (.loop g1u)) (kS []))) (kB [] (.seq (rN [
 oN 4 (.move (iC (-1))) 0] [4]) (kB [4] .ret)))))) }
theorem j0y:b0f Go.Proofs.Tryz.prog 150 F150=true:=by decide +kernel
def d1m:b1g :=
 (.seq (.region [
 oM 14 5 0,oN 15 (.eq .i true (.t 14) (iC 0)) 1,oM 16 15 2,oG 17 (.move (.t 5)) 16 true 3,oG 18 (fA 1 4) 16 true 4,oG 19 (lD 18) 16 true 5,oG 20 (.eq .i true (.t 17) (.t 19)) 16 true 6,oN 21 (.pick (.t 16) (.t 20) (.c (.bool false))) 7] false [0,3,4,5,6,7,8,21] [4]) (.seq (.cond (.t 21) (.keep [0,3,4,5,6,7,8] [4] .skip) (.keep [0,3,4,5,6,7,8] [4] (.exit 2))) (.keep [0,3,4,5,6,7,8] [4] (.seq (.block 3 (.seq (.region [
 oM 22 0 0,oM 23 5 1,oN 24 (.bin .sub (.t 23) (iC 1)) 2,oN 25 (.indexAddr 6 (.t 22) (.t 24)) 3,oN 26 (fA 1 25) 4,oN 27 (lD 26) 5,oM 5 27 6] false [0,3,4,5,6,7,8] [4]) (.keep [0,3,4,5,6,7,8] [4] .skip))) (.keep [0,3,4,5,6,7,8] [4] .skip)))))
def c6b:b1g :=
 (.seq (rN [
 oN 9 (.bin .lss (.t 8) (.t 7)) 0] [0,6,7,8,9]) (.seq (.cond (.t 9) (kS [0,6,7,8]) (kB [] (.exit 0))) (kB [0,6,7,8] (.seq (.block 1 (.seq (.region [
 oM 10 8 0,oN 11 (.indexAddr 6 (.t 6) (.t 8)) 1,oN 12 (.load 6 true (.t 11)) 2,oN 4 (.alloc false 4 [.p (.int .i64 0),.p (.int .i64 0),.p (.str []),.p (.str []),.p (.str []),.p (.list [])] []) 3,oM 3 10 4,⟨none,.store 6 true (.t 4) (.t 12),none,5,[]⟩] false [0,3,4,6,7,8] [4]) (.seq (.region [
 oM 13 3 0,oM 5 13 1] false [0,3,4,5,6,7,8] [4]) (.seq (.block 2 (.seq (.keep [0,3,4,5,6,7,8] [4] (.loop d1m)) (.keep [0,3,4,5,6,7,8] [4] .skip))) (.keep [0,3,4,5,6,7,8] [4] (.seq (rN [
 oM 28 5 0,oN 29 (fA 1 4) 1,oN 30 (lD 29) 2,oN 31 (.eq .i true (.t 28) (.t 30)) 3,oM 32 31 4,oG 33 (.move (.t 5)) 32 false 5,oG 34 (.eq .i false (.t 33) (iC 0)) 32 false 6,oG 35 (.move (.t 3)) 32 false 7,oG 36 (.eq .i false (.t 35) (iC 0)) 32 false 8,oG 37 (.eq .b true (.t 34) (.t 36)) 32 false 9,oN 38 (.pick (.t 32) (.c (.bool true)) (.t 37)) 10] [0,6,7,8,38]) (.seq (.cond (.t 38) (.seq (rN [
 oN 2 (.move (.c (.bool false))) 0] [2]) (kB [2] .ret)) (kS [0,6,7,8])) (kS [0,6,7,8])))))))) (kB [0,6,7,8] (.seq (rN [
 oN 39 (.bin .add (.t 8) (iC 1)) 0,oM 8 39 1] [0,6,7,8]) (kS [0,6,7,8])))))))
def F158:b0u:={ nparams:=1,results:=[.tmp 2],pure:=true,body :=
 (.seq (rN [
 oN 2 (.move (.c (.bool false))) 0] [0]) (.seq (rN [
 oM 6 0 0,oN 7 (.len 1 (.t 6)) 1,oN 8 (.move (iC 0)) 2] [0,6,7,8]) (.seq (.block 0 (.seq (kB [0,6,7,8] (.loop c6b)) (kS []))) (kB [] (.seq (rN [
 oN 2 (.move (.c (.bool true))) 0] [2]) (kB [2] .ret)))))) }
theorem j0x:b0f Go.Proofs.Tryz.prog 158 F158=true:=by decide +kernel
def d7c:b1g :=
 (.seq (.region [
 oN 13 (.bin .lss (.t 12) (.t 11)) 0] false [0,3,10,11,12,13] [9]) (.seq (.cond (.t 13) (.keep [0,3,10,11,12] [9] .skip) (kB [0] (.exit 0))) (.keep [0,3,10,11,12] [9] (.seq (.block 1 (.seq (.region [
 oM 14 12 0,oN 15 (.indexAddr 6 (.t 10) (.t 12)) 1,oN 16 (.load 6 true (.t 15)) 2,oN 5 (.alloc false 5 [.p (.int .i64 0),.p (.int .i64 0),.p (.str []),.p (.str []),.p (.str []),.p (.list [])] []) 3,oM 4 14 4,⟨none,.store 6 true (.t 5) (.t 16),none,5,[]⟩] false [0,3,4,5,10,11,12] [5,9]) (.seq (.region [
 oM 17 3 0,oM 18 4 1,oN 19 (.bin .add (.t 18) (iC 1)) 2,oM 20 3 3,oN 21 (fA 1 5) 4,oN 22 (lD 21) 5,oN 23 (.indexAddr 1 (.t 20) (.t 22)) 6,oN 24 (lD 23) 7,oN 25 (.bin .add (.t 24) (iC 1)) 8,oN 26 (.indexAddr 1 (.t 17) (.t 19)) 9,⟨none,.store 1 false (.t 26) (.t 25),none,10,[]⟩] false [0,3,4,10,11,12] [9]) (.seq (.region [
 oM 27 3 0,oM 28 4 1,oN 29 (.bin .add (.t 28) (iC 1)) 2,oN 30 (.indexAddr 1 (.t 27) (.t 29)) 3,oN 31 (lD 30) 4,oN 32 (.bin .gtr (.t 31) (iC 64)) 5] false [0,3,10,11,12,32] [9]) (.seq (.cond (.t 32) (.seq (rN [
 oN 2 (.move (.c (.bool true))) 0] [2]) (kB [2] .ret)) (.keep [0,3,10,11,12] [9] .skip)) (.keep [0,3,10,11,12] [9] .skip)))))) (.keep [0,3,10,11,12] [9] (.seq (.region [
 oN 33 (.bin .add (.t 12) (iC 1)) 0,oM 12 33 1] false [0,3,10,11,12] [9]) (.keep [0,3,10,11,12] [9] .skip)))))))
def F159:b0u:={ nparams:=1,results:=[.tmp 2],pure:=true,body :=
 (.seq (rN [
 oN 2 (.move (.c (.bool false))) 0] [0]) (.seq (.region [
 oM 6 0 0,oN 7 (.len 1 (.t 6)) 1,oN 8 (.bin .add (.t 7) (iC 1)) 2,oN 9 (.makeRow false 9 1 8 [.int .i64 0] (.t 8) (.t 8)) 3,oM 3 9 4] false [0,3] [9]) (.seq (.region [
 oM 10 0 0,oN 11 (.len 1 (.t 10)) 1,oN 12 (.move (iC 0)) 2] false [0,3,10,11,12] [9]) (.seq (.block 0 (.seq (.keep [0,3,10,11,12] [9] (.loop d7c)) (kS [0]))) (kB [0] (.seq (rN [
 oM 34 0 0,oN 35 (.len 1 (.t 34)) 1,oN 36 (.bin .gtr (.t 35) (iC 4096)) 2,oM 2 36 3] [2]) (kB [2] .ret))))))) }
theorem j0w:b0f Go.Proofs.Tryz.prog 159 F159=true:=by decide +kernel
def d7b:b1g :=
 (.seq (.region [
 oN 13 (.bin .lss (.t 12) (.t 11)) 0] false [0,3,10,11,12,13] [9]) (.seq (.cond (.t 13) (.keep [0,3,10,11,12] [9] .skip) (kB [0] (.exit 0))) (.keep [0,3,10,11,12] [9] (.seq (.block 1 (.seq (.region [
 oM 14 12 0,oN 15 (.indexAddr 6 (.t 10) (.t 12)) 1,oN 16 (.load 6 true (.t 15)) 2,oN 5 (.alloc false 5 [.p (.int .i64 0),.p (.int .i64 0),.p (.str []),.p (.str []),.p (.str []),.p (.list [])] []) 3,oM 4 14 4,⟨none,.store 6 true (.t 5) (.t 16),none,5,[]⟩] false [0,3,4,5,10,11,12] [5,9]) (.seq (.region [
 oM 17 3 0,oM 18 4 1,oN 19 (.bin .add (.t 18) (iC 1)) 2,oM 20 3 3,oN 21 (fA 1 5) 4,oN 22 (lD 21) 5,oN 23 (.indexAddr 1 (.t 20) (.t 22)) 6,oN 24 (lD 23) 7,oN 25 (.bin .add (.t 24) (iC 1)) 8,oN 26 (.indexAddr 1 (.t 17) (.t 19)) 9,⟨none,.store 1 false (.t 26) (.t 25),none,10,[]⟩] false [0,3,4,10,11,12] [9]) (.seq (.region [
 oM 27 3 0,oM 28 4 1,oN 29 (.bin .add (.t 28) (iC 1)) 2,oN 30 (.indexAddr 1 (.t 27) (.t 29)) 3,oN 31 (lD 30) 4,oN 32 (.bin .gtr (.t 31) (iC 64)) 5,oM 33 32 6,oG 34 (.move (.t 4)) 33 false 7,oG 35 (.eq .i false (.t 34) (iC 4096)) 33 false 8,oN 36 (.pick (.t 33) (.c (.bool true)) (.t 35)) 9] false [0,3,4,10,11,12,36] [9]) (.seq (.cond (.t 36) (.seq (rN [
 oM 37 0 0,oM 38 4 1,oN 39 (.bin .add (.t 38) (iC 1)) 2,oN 40 (.slice false 6 (.t 37) none (some (.t 39))) 3,oM 2 40 4] [2]) (kB [2] .ret)) (.keep [0,3,10,11,12] [9] .skip)) (.keep [0,3,10,11,12] [9] .skip)))))) (.keep [0,3,10,11,12] [9] (.seq (.region [
 oN 41 (.bin .add (.t 12) (iC 1)) 0,oM 12 41 1] false [0,3,10,11,12] [9]) (.keep [0,3,10,11,12] [9] .skip)))))))
def F160:b0u:={ nparams:=1,results:=[.tmp 2],pure:=true,body :=
 (.seq (rN [
 oN 2 (.move (.c (.list []))) 0] [0]) (.seq (.region [
 oM 6 0 0,oN 7 (.len 1 (.t 6)) 1,oN 8 (.bin .add (.t 7) (iC 1)) 2,oN 9 (.makeRow false 9 1 8 [.int .i64 0] (.t 8) (.t 8)) 3,oM 3 9 4] false [0,3] [9]) (.seq (.region [
 oM 10 0 0,oN 11 (.len 1 (.t 10)) 1,oN 12 (.move (iC 0)) 2] false [0,3,10,11,12] [9]) (.seq (.block 0 (.seq (.keep [0,3,10,11,12] [9] (.loop d7b)) (kS [0]))) (kB [0] (.seq (rN [
 oM 42 0 0,oM 2 42 1] [2]) (kB [2] .ret))))))) }
theorem j0v:b0f Go.Proofs.Tryz.prog 160 F160=true:=by decide +kernel
end Go.TA.Tryz


end
