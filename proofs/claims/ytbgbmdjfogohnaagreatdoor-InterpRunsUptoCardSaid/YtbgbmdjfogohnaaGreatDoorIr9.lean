/- Part 9 of 15 of a proof; joined from IrnLow1, Prims, PrimW, PrimX, PrimC, PrimI. strconv.Itoa, told at once. -/
import Derived.Test.YtbgbmdjfogohnaaGreatDoorIr6
import Derived.Test.YtbgbmdjfogohnaaGreatDoorProg
import Derived.Lib.Bytealg
import Derived.Laws.IdiomCopy
import Derived.Deep.Upon
import Derived.Lib.ItoaNum
import Derived.Lib.LaidTab
import Derived.Lib.AppendIntMem
set_option linter.unusedSimpArgs false
set_option linter.unusedVariables false
set_option linter.defProp false
set_option maxRecDepth 100000
set_option maxHeartbeats 8000000
section
/- Functions of the program, lowered: each is held against the program's own text by the kernel. -/
namespace Go.TA.Tryz
def F142:LFunc:={ nparams:=3,results:=[.tmp 6],pure:=false,body :=
 (.seq (rN [
 oN 6 (.move (iC 0)) 0] [0,1,2]) (.seq (rN [
 oM 10 0 0,oM 11 1 1,oN 12 (.call 130 [(.t 10,.as),(.t 11,.as)]) 2,oM 7 12 3] [0,1,2,7]) (.seq (rN [
 oM 13 7 0,oN 14 (.eq .i true (.t 13) (iC 0)) 1] [0,1,2,7,14]) (.seq (.cond (.t 14) (.seq (rN [
 oM 15 7 0,oM 6 15 1] [6]) (kB [6] .ret)) (kS [0,1,2])) (kB [0,1,2] (.seq (.draw [
 oM 17 0 0,oN 18 (.nilCheck (.t 17)) 1,oN 19 (fA 0 18) 2,oN 20 (lD 19) 3,oM 21 0 4,oM 22 1 5,oM 27 2 10,⟨some 23,.call 131 [(.t 21,.as),(.t 22,.as)],none,6,[3]⟩,oN 24 (.indexAddr 7 (.t 20) (.t 23)) 7,oN 25 (fA 6 24) 8,oN 26 (lD 25) 9,oN 28 (.pcall 178 [(.t 26,.as),(.t 27,.as)]) 11,oM 16 28 12,oN 29 (.extract (.t 16) 0) 13,oN 30 (.extract (.t 16) 1) 14,oM 8 29 15,oM 9 30 16] [0,1,8,9] []) (.seq (rN [
 oM 31 9 0,oN 32 (.un .not (.t 31)) 1] [0,1,8,32]) (.seq (.cond (.t 32) (.seq (rN [
 oN 6 (.move (iC 8)) 0] [6]) (kB [6] .ret)) (kS [0,1,8])) (kB [0,1,8] (.seq (.draw [
 oM 33 0 0,oN 34 (.nilCheck (.t 33)) 1,oN 35 (fA 0 34) 2,oN 36 (lD 35) 3,oM 37 0 4,oM 38 1 5,oM 40 8 7,⟨some 39,.call 131 [(.t 37,.as),(.t 38,.as)],none,6,[3]⟩,oN 41 (.indexAddr 7 (.t 36) (.t 39)) 8,oN 42 (fA 6 41) 9,⟨none,.store 1 false (.t 42) (.t 40),none,10,[]⟩] [] []) (.seq (rN [
 oN 6 (.move (iC 0)) 0] [6]) (kB [6] .ret)))))))))))) }
theorem ok142:fnSoundB Go.Proofs.Tryz.prog 142 F142=true:=by decide +kernel
def F143:LFunc:={ nparams:=3,results:=[.tmp 6],pure:=false,body :=
 (.seq (rN [
 oN 6 (.move (iC 0)) 0] [0,1,2]) (.seq (rN [
 oM 8 0 0,oM 9 1 1,oN 10 (.call 130 [(.t 8,.as),(.t 9,.as)]) 2,oM 7 10 3] [0,1,2,7]) (.seq (rN [
 oM 11 7 0,oN 12 (.eq .i true (.t 11) (iC 0)) 1] [0,1,2,7,12]) (.seq (.cond (.t 12) (.seq (rN [
 oM 13 7 0,oM 6 13 1] [6]) (kB [6] .ret)) (kS [0,1,2])) (kB [0,1,2] (.seq (rN [
 oM 14 2 0,oN 15 (.len 0 (.t 14)) 1,oN 16 (.bin .gtr (.t 15) (iC 65536)) 2] [0,1,2,16]) (.seq (.cond (.t 16) (.seq (rN [
 oN 6 (.move (iC 3)) 0] [6]) (kB [6] .ret)) (kS [0,1,2])) (kB [0,1,2] (.seq (.draw [
 oM 17 0 0,oN 18 (.nilCheck (.t 17)) 1,oN 19 (fA 0 18) 2,oN 20 (lD 19) 3,oM 21 0 4,oM 22 1 5,oM 24 2 7,⟨some 23,.call 131 [(.t 21,.as),(.t 22,.as)],none,6,[3]⟩,oN 25 (.indexAddr 7 (.t 20) (.t 23)) 8,oN 26 (fA 5 25) 9,⟨none,.store 1 false (.t 26) (.t 24),none,10,[]⟩] [] []) (.seq (rN [
 oN 6 (.move (iC 0)) 0] [6]) (kB [6] .ret))))))))))) }
theorem ok143:fnSoundB Go.Proofs.Tryz.prog 143 F143=true:=by decide +kernel
def B158x1:LCode :=
 (.seq (.region [
 oM 14 5 0,oN 15 (.eq .i true (.t 14) (iC 0)) 1,oM 16 15 2,oG 17 (.move (.t 5)) 16 true 3,oG 18 (fA 1 4) 16 true 4,oG 19 (lD 18) 16 true 5,oG 20 (.eq .i true (.t 17) (.t 19)) 16 true 6,oN 21 (.pick (.t 16) (.t 20) (.c (.bool false))) 7] false [0,3,4,5,6,7,8,21] [4]) (.seq (.cond (.t 21) (.keep [0,3,4,5,6,7,8] [4] .skip) (.keep [0,3,4,5,6,7,8] [4] (.exit 2))) (.keep [0,3,4,5,6,7,8] [4] (.seq (.block 3 (.seq (.region [
 oM 22 0 0,oM 23 5 1,oN 24 (.bin .sub (.t 23) (iC 1)) 2,oN 25 (.indexAddr 6 (.t 22) (.t 24)) 3,oN 26 (fA 1 25) 4,oN 27 (lD 26) 5,oM 5 27 6] false [0,3,4,5,6,7,8] [4]) (.keep [0,3,4,5,6,7,8] [4] .skip))) (.keep [0,3,4,5,6,7,8] [4] .skip)))))
def B158x0:LCode :=
 (.seq (rN [
 oN 9 (.bin .lss (.t 8) (.t 7)) 0] [0,6,7,8,9]) (.seq (.cond (.t 9) (kS [0,6,7,8]) (kB [] (.exit 0))) (kB [0,6,7,8] (.seq (.block 1 (.seq (.region [
 oM 10 8 0,oN 11 (.indexAddr 6 (.t 6) (.t 8)) 1,oN 12 (.load 6 true (.t 11)) 2,oN 4 (.alloc false 4 [.p (.int .i64 0),.p (.int .i64 0),.p (.str []),.p (.str []),.p (.str []),.p (.list [])] []) 3,oM 3 10 4,⟨none,.store 6 true (.t 4) (.t 12),none,5,[]⟩] false [0,3,4,6,7,8] [4]) (.seq (.region [
 oM 13 3 0,oM 5 13 1] false [0,3,4,5,6,7,8] [4]) (.seq (.block 2 (.seq (.keep [0,3,4,5,6,7,8] [4] (.loop B158x1)) (.keep [0,3,4,5,6,7,8] [4] .skip))) (.keep [0,3,4,5,6,7,8] [4] (.seq (rN [
 oM 28 5 0,oN 29 (fA 1 4) 1,oN 30 (lD 29) 2,oN 31 (.eq .i true (.t 28) (.t 30)) 3,oM 32 31 4,oG 33 (.move (.t 5)) 32 false 5,oG 34 (.eq .i false (.t 33) (iC 0)) 32 false 6,oG 35 (.move (.t 3)) 32 false 7,oG 36 (.eq .i false (.t 35) (iC 0)) 32 false 8,oG 37 (.eq .b true (.t 34) (.t 36)) 32 false 9,oN 38 (.pick (.t 32) (.c (.bool true)) (.t 37)) 10] [0,6,7,8,38]) (.seq (.cond (.t 38) (.seq (rN [
 oN 2 (.move (.c (.bool false))) 0] [2]) (kB [2] .ret)) (kS [0,6,7,8])) (kS [0,6,7,8])))))))) (kB [0,6,7,8] (.seq (rN [
 oN 39 (.bin .add (.t 8) (iC 1)) 0,oM 8 39 1] [0,6,7,8]) (kS [0,6,7,8])))))))
def F158:LFunc:={ nparams:=1,results:=[.tmp 2],pure:=true,body :=
 (.seq (rN [
 oN 2 (.move (.c (.bool false))) 0] [0]) (.seq (rN [
 oM 6 0 0,oN 7 (.len 1 (.t 6)) 1,oN 8 (.move (iC 0)) 2] [0,6,7,8]) (.seq (.block 0 (.seq (kB [0,6,7,8] (.loop B158x0)) (kS []))) (kB [] (.seq (rN [
 oN 2 (.move (.c (.bool true))) 0] [2]) (kB [2] .ret)))))) }
theorem ok158:fnSoundB Go.Proofs.Tryz.prog 158 F158=true:=by decide +kernel
def B159x0:LCode :=
 (.seq (.region [
 oN 13 (.bin .lss (.t 12) (.t 11)) 0] false [0,3,10,11,12,13] [9]) (.seq (.cond (.t 13) (.keep [0,3,10,11,12] [9] .skip) (kB [0] (.exit 0))) (.keep [0,3,10,11,12] [9] (.seq (.block 1 (.seq (.region [
 oM 14 12 0,oN 15 (.indexAddr 6 (.t 10) (.t 12)) 1,oN 16 (.load 6 true (.t 15)) 2,oN 5 (.alloc false 5 [.p (.int .i64 0),.p (.int .i64 0),.p (.str []),.p (.str []),.p (.str []),.p (.list [])] []) 3,oM 4 14 4,⟨none,.store 6 true (.t 5) (.t 16),none,5,[]⟩] false [0,3,4,5,10,11,12] [5,9]) (.seq (.region [
 oM 17 3 0,oM 18 4 1,oN 19 (.bin .add (.t 18) (iC 1)) 2,oM 20 3 3,oN 21 (fA 1 5) 4,oN 22 (lD 21) 5,oN 23 (.indexAddr 1 (.t 20) (.t 22)) 6,oN 24 (lD 23) 7,oN 25 (.bin .add (.t 24) (iC 1)) 8,oN 26 (.indexAddr 1 (.t 17) (.t 19)) 9,⟨none,.store 1 false (.t 26) (.t 25),none,10,[]⟩] false [0,3,4,10,11,12] [9]) (.seq (.region [
 oM 27 3 0,oM 28 4 1,oN 29 (.bin .add (.t 28) (iC 1)) 2,oN 30 (.indexAddr 1 (.t 27) (.t 29)) 3,oN 31 (lD 30) 4,oN 32 (.bin .gtr (.t 31) (iC 64)) 5] false [0,3,10,11,12,32] [9]) (.seq (.cond (.t 32) (.seq (rN [
 oN 2 (.move (.c (.bool true))) 0] [2]) (kB [2] .ret)) (.keep [0,3,10,11,12] [9] .skip)) (.keep [0,3,10,11,12] [9] .skip)))))) (.keep [0,3,10,11,12] [9] (.seq (.region [
 oN 33 (.bin .add (.t 12) (iC 1)) 0,oM 12 33 1] false [0,3,10,11,12] [9]) (.keep [0,3,10,11,12] [9] .skip)))))))
def F159:LFunc:={ nparams:=1,results:=[.tmp 2],pure:=true,body :=
 (.seq (rN [
 oN 2 (.move (.c (.bool false))) 0] [0]) (.seq (.region [
 oM 6 0 0,oN 7 (.len 1 (.t 6)) 1,oN 8 (.bin .add (.t 7) (iC 1)) 2,oN 9 (.makeRow false 9 1 8 [.int .i64 0] (.t 8) (.t 8)) 3,oM 3 9 4] false [0,3] [9]) (.seq (.region [
 oM 10 0 0,oN 11 (.len 1 (.t 10)) 1,oN 12 (.move (iC 0)) 2] false [0,3,10,11,12] [9]) (.seq (.block 0 (.seq (.keep [0,3,10,11,12] [9] (.loop B159x0)) (kS [0]))) (kB [0] (.seq (rN [
 oM 34 0 0,oN 35 (.len 1 (.t 34)) 1,oN 36 (.bin .gtr (.t 35) (iC 4096)) 2,oM 2 36 3] [2]) (kB [2] .ret))))))) }
theorem ok159:fnSoundB Go.Proofs.Tryz.prog 159 F159=true:=by decide +kernel
def B160x0:LCode :=
 (.seq (.region [
 oN 13 (.bin .lss (.t 12) (.t 11)) 0] false [0,3,10,11,12,13] [9]) (.seq (.cond (.t 13) (.keep [0,3,10,11,12] [9] .skip) (kB [0] (.exit 0))) (.keep [0,3,10,11,12] [9] (.seq (.block 1 (.seq (.region [
 oM 14 12 0,oN 15 (.indexAddr 6 (.t 10) (.t 12)) 1,oN 16 (.load 6 true (.t 15)) 2,oN 5 (.alloc false 5 [.p (.int .i64 0),.p (.int .i64 0),.p (.str []),.p (.str []),.p (.str []),.p (.list [])] []) 3,oM 4 14 4,⟨none,.store 6 true (.t 5) (.t 16),none,5,[]⟩] false [0,3,4,5,10,11,12] [5,9]) (.seq (.region [
 oM 17 3 0,oM 18 4 1,oN 19 (.bin .add (.t 18) (iC 1)) 2,oM 20 3 3,oN 21 (fA 1 5) 4,oN 22 (lD 21) 5,oN 23 (.indexAddr 1 (.t 20) (.t 22)) 6,oN 24 (lD 23) 7,oN 25 (.bin .add (.t 24) (iC 1)) 8,oN 26 (.indexAddr 1 (.t 17) (.t 19)) 9,⟨none,.store 1 false (.t 26) (.t 25),none,10,[]⟩] false [0,3,4,10,11,12] [9]) (.seq (.region [
 oM 27 3 0,oM 28 4 1,oN 29 (.bin .add (.t 28) (iC 1)) 2,oN 30 (.indexAddr 1 (.t 27) (.t 29)) 3,oN 31 (lD 30) 4,oN 32 (.bin .gtr (.t 31) (iC 64)) 5,oM 33 32 6,oG 34 (.move (.t 4)) 33 false 7,oG 35 (.eq .i false (.t 34) (iC 4096)) 33 false 8,oN 36 (.pick (.t 33) (.c (.bool true)) (.t 35)) 9] false [0,3,4,10,11,12,36] [9]) (.seq (.cond (.t 36) (.seq (rN [
 oM 37 0 0,oM 38 4 1,oN 39 (.bin .add (.t 38) (iC 1)) 2,oN 40 (.slice false 6 (.t 37) none (some (.t 39))) 3,oM 2 40 4] [2]) (kB [2] .ret)) (.keep [0,3,10,11,12] [9] .skip)) (.keep [0,3,10,11,12] [9] .skip)))))) (.keep [0,3,10,11,12] [9] (.seq (.region [
 oN 41 (.bin .add (.t 12) (iC 1)) 0,oM 12 41 1] false [0,3,10,11,12] [9]) (.keep [0,3,10,11,12] [9] .skip)))))))
def F160:LFunc:={ nparams:=1,results:=[.tmp 2],pure:=true,body :=
 (.seq (rN [
 oN 2 (.move (.c (.list []))) 0] [0]) (.seq (.region [
 oM 6 0 0,oN 7 (.len 1 (.t 6)) 1,oN 8 (.bin .add (.t 7) (iC 1)) 2,oN 9 (.makeRow false 9 1 8 [.int .i64 0] (.t 8) (.t 8)) 3,oM 3 9 4] false [0,3] [9]) (.seq (.region [
 oM 10 0 0,oN 11 (.len 1 (.t 10)) 1,oN 12 (.move (iC 0)) 2] false [0,3,10,11,12] [9]) (.seq (.block 0 (.seq (.keep [0,3,10,11,12] [9] (.loop B160x0)) (kS [0]))) (kB [0] (.seq (rN [
 oM 42 0 0,oM 2 42 1] [2]) (kB [2] .ret))))))) }
theorem ok160:fnSoundB Go.Proofs.Tryz.prog 160 F160=true:=by decide +kernel
def B161x0:LCode :=
 (.seq (.region [
 oM 26 8 0,oM 27 0 1,oN 28 (.len 1 (.t 27)) 2,oN 29 (.bin .lss (.t 26) (.t 28)) 3,oM 30 29 4,oG 31 (.move (.t 0)) 30 true 5,oG 32 (.move (.t 8)) 30 true 6,oG 33 (.indexAddr 6 (.t 31) (.t 32)) 30 true 7,oG 34 (fA 1 33) 30 true 8,oG 35 (lD 34) 30 true 9,oG 36 (.move (.t 1)) 30 true 10,oG 37 (.bin .add (.t 36) (iC 1)) 30 true 11,oG 38 (.eq .i false (.t 35) (.t 37)) 30 true 12,oN 39 (.pick (.t 30) (.t 38) (.c (.bool false))) 13] false [0,1,4,7,8,39] [4,7,1000,1001]) (.seq (.cond (.t 39) (.keep [0,1,4,7,8] [4,7,1000,1001] .skip) (.keep [4,7,8] [4,7,1000,1001] (.exit 0))) (.keep [0,1,4,7,8] [4,7,1000,1001] (.seq (.block 1 (.seq (.region [
 oN 9 (.alloc false 9 [.p (.str []),.p (.str []),.p (.str []),.p (.list []),.p (.list [])] []) 0] false [0,1,4,7,8,9] [4,7,9,1000,1001]) (.seq (.region [
 oM 41 0 0,oM 42 8 1,oN 43 (.pcall 161 [(.t 41,.as),(.t 42,.as)]) 2,oM 40 43 3,oN 44 (.extract (.t 40) 0) 4,oN 45 (.extract (.t 40) 1) 5,⟨none,.store 5 true (.t 9) (.t 44),none,6,[]⟩,oM 8 45 7] false [0,1,4,7,8,9] [4,7,9,1000,1001]) (.seq (.region [
 oN 46 (fA 4 7) 0,oN 47 (lD 46) 1,oN 48 (.load 5 true (.t 9)) 2,oN 49 (.row 5 [.t 48]) 3,oN 50 (.append true 1002 5 96 (.t 47) (.t 49)) 4,oN 51 (fA 4 7) 5,⟨none,.store 1 false (.t 51) (.t 50),none,6,[]⟩] false [0,1,4,7,8] [4,7,1000,1001]) (.keep [0,1,4,7,8] [4,7,1000,1001] .skip))))) (.keep [0,1,4,7,8] [4,7,1000,1001] .skip)))))
def F161:LFunc:={ nparams:=2,results:=[.cell 4 5 true,.tmp 5],pure:=true,body :=
 (.seq (.region [
 oN 4 (.alloc false 4 [.p (.str []),.p (.str []),.p (.str []),.p (.list []),.p (.list [])] []) 0,oN 5 (.move (iC 0)) 1] false [0,1,4] [4,1000,1001]) (.seq (.region [
 oM 10 0 0,oM 11 1 1,oN 12 (.indexAddr 6 (.t 10) (.t 11)) 2,oN 13 (.load 6 true (.t 12)) 3,oN 6 (.alloc false 6 [.p (.int .i64 0),.p (.int .i64 0),.p (.str []),.p (.str []),.p (.str []),.p (.list [])] []) 4,⟨none,.store 6 true (.t 6) (.t 13),none,5,[]⟩] false [0,1,4,6] [4,6,1000,1001]) (.seq (.draw [
 oN 14 (fA 2 6) 0,oN 15 (lD 14) 1,oN 16 (fA 3 6) 2,oN 17 (lD 16) 3,oN 18 (fA 4 6) 4,oN 19 (lD 18) 5,oN 20 (fA 5 6) 6,oN 21 (lD 20) 7,oN 22 (.pcall 56 [(.t 21,.as)]) 8,oN 23 (.build [.p (.str []),.p (.str []),.p (.str []),.p (.list []),.nils] [(0,1,.t 15),(1,1,.t 17),(2,1,.t 19),(3,1,.t 22)]) 9,⟨some 7,.alloc false 7 [.p (.str []),.p (.str []),.p (.str []),.p (.list []),.p (.list [])] [(4,1000,5)],none,10,[1,3,5,7,8]⟩,⟨none,.store 5 true (.t 7) (.t 23),none,11,[]⟩] [0,1,4,7] [4,7,1000,1001]) (.seq (.region [
 oM 24 1 0,oN 25 (.bin .add (.t 24) (iC 1)) 1,oM 8 25 2] false [0,1,4,7,8] [4,7,1000,1001]) (.seq (.block 0 (.seq (.keep [0,1,4,7,8] [4,7,1000,1001] (.loop B161x0)) (.keep [4,7,8] [4,7,1000,1001] .skip))) (.keep [4,7,8] [4,7,1000,1001] (.seq (.region [
 oN 52 (.load 5 true (.t 7)) 0,oM 53 8 1,⟨none,.store 5 true (.t 4) (.t 52),none,2,[]⟩,oM 5 53 3] false [4,5] [4,1000,1001]) (.keep [4,5] [4,1000,1001] .ret)))))))) }
theorem ok161:fnSoundB Go.Proofs.Tryz.prog 161 F161=true:=by decide +kernel
def F162:LFunc:={ nparams:=1,results:=[.tmp 2,.tmp 3],pure:=true,body :=
 (.seq (.region [
 oN 1 (.box false 1 (.t 0)) 0,oN 2 (.move (iC 0)) 1,oN 3 (.move (iC 0)) 2] false [1] [1]) (.seq (.region [
 oN 5 (.load 5 true (.t 1)) 0,oN 6 (.pcall 195 [(.t 5,.as)]) 1,oN 4 (.alloc false 4 [.p (.int .i64 0),.p (.int .i64 0),.p (.int .i64 0)] []) 2,⟨none,.store 3 true (.t 4) (.t 6),none,3,[]⟩] false [4] [4]) (.seq (.region [
 oN 7 (fA 2 4) 0,oN 8 (lD 7) 1,oN 9 (.eq .i false (.t 8) (iC 0)) 2] false [4,9] [4]) (.seq (.cond (.t 9) (.seq (rN [
 oN 2 (.move (iC 0)) 0,oN 3 (.move (iC 0)) 1] [2,3]) (kB [2,3] .ret)) (.keep [4] [4] .skip)) (.keep [4] [4] (.seq (.region [
 oN 10 (fA 0 4) 0,oN 11 (lD 10) 1,oN 12 (fA 2 4) 2,oN 13 (lD 12) 3,oM 2 11 4,oM 3 13 5] true [2,3] []) (kB [2,3] .ret))))))) }
theorem ok162:fnSoundB Go.Proofs.Tryz.prog 162 F162=true:=by decide +kernel
def F163:LFunc:={ nparams:=1,results:=[.tmp 2],pure:=false,body :=
 (.seq (rN [
 oN 2 (.move (iC 0)) 0] [0]) (.seq (.block 0 (.seq (rN [
 oM 4 0 0,oN 5 (.eq .ptr false (.t 4) (.c (.nilp))) 1,oM 3 5 2] [0,3]) (.seq (.cond (.t 3) (.seq (rN [
 oN 2 (.move (iC 1)) 0] [2]) (kB [2] .ret)) (.seq (rN [
 oM 7 0 0,oN 8 (.nilCheck (.t 7)) 1,oN 9 (fA 1 8) 2,oN 10 (lD 9) 3,oN 11 (.eq .ptr false (.t 10) (.c (.nilp))) 4,oM 6 11 5] [0,6]) (.seq (.cond (.t 6) (.seq (rN [
 oN 2 (.move (iC 16)) 0] [2]) (kB [2] .ret)) (kS [0])) (kS [0])))) (kS [0])))) (kB [0] (.seq (rN [
 oM 12 0 0,oN 13 (.nilCheck (.t 12)) 1,oN 14 (fA 4 13) 2,oN 15 (lD 14) 3,oN 16 (.eq .ptr false (.t 15) (.c (.nilp))) 4] [0,16]) (.seq (.cond (.t 16) (.seq (.draw [
 oM 17 0 0,oN 18 (.nilCheck (.t 17)) 1,oN 19 (fA 1 18) 2,oN 20 (lD 19) 3,oM 21 0 4,oN 22 (.nilCheck (.t 21)) 5,oN 23 (fA 5 22) 6,oN 24 (lD 23) 7,oN 25 (.nilCheck (.t 20)) 8,oN 26 (fA 2 25) 9,⟨none,.store 1 false (.t 26) (.t 24),none,10,[]⟩] [0] []) (kS [0])) (.seq (.draw [
 oM 27 0 0,oN 28 (.nilCheck (.t 27)) 1,oN 29 (fA 4 28) 2,oN 30 (lD 29) 3,oM 31 0 4,oN 32 (.nilCheck (.t 31)) 5,oN 33 (fA 5 32) 6,oN 34 (lD 33) 7,oN 35 (.nilCheck (.t 30)) 8,oN 36 (fA 5 35) 9,⟨none,.store 1 false (.t 36) (.t 34),none,10,[]⟩] [0] []) (kS [0]))) (kB [0] (.seq (rN [
 oM 37 0 0,oN 38 (.nilCheck (.t 37)) 1,oN 39 (fA 5 38) 2,oN 40 (lD 39) 3,oN 41 (.eq .ptr false (.t 40) (.c (.nilp))) 4] [0,41]) (.seq (.cond (.t 41) (.seq (.draw [
 oM 42 0 0,oN 43 (.nilCheck (.t 42)) 1,oN 44 (fA 1 43) 2,oN 45 (lD 44) 3,oM 46 0 4,oN 47 (.nilCheck (.t 46)) 5,oN 48 (fA 4 47) 6,oN 49 (lD 48) 7,oN 50 (.nilCheck (.t 45)) 8,oN 51 (fA 3 50) 9,⟨none,.store 1 false (.t 51) (.t 49),none,10,[]⟩] [0] []) (kS [0])) (.seq (.draw [
 oM 52 0 0,oN 53 (.nilCheck (.t 52)) 1,oN 54 (fA 5 53) 2,oN 55 (lD 54) 3,oM 56 0 4,oN 57 (.nilCheck (.t 56)) 5,oN 58 (fA 4 57) 6,oN 59 (lD 58) 7,oN 60 (.nilCheck (.t 55)) 8,oN 61 (fA 4 60) 9,⟨none,.store 1 false (.t 61) (.t 59),none,10,[]⟩] [0] []) (kS [0]))) (kB [0] (.seq (rN [
 oM 62 0 0,oM 63 0 1,oM 64 0 2,oN 65 (.nilCheck (.t 62)) 3,oN 66 (fA 1 65) 4,⟨none,.store 1 false (.t 66) (.c (.nilp)),none,5,[]⟩,oN 67 (.nilCheck (.t 63)) 6,oN 68 (fA 4 67) 7,⟨none,.store 1 false (.t 68) (.c (.nilp)),none,8,[]⟩,oN 69 (.nilCheck (.t 64)) 9,oN 70 (fA 5 69) 10,⟨none,.store 1 false (.t 70) (.c (.nilp)),none,11,[]⟩] []) (.seq (rN [
 oN 2 (.move (iC 0)) 0] [2]) (kB [2] .ret)))))))))))) }
theorem ok163:fnSoundB Go.Proofs.Tryz.prog 163 F163=true:=by decide +kernel
def B164x0:LCode :=
 (.seq (rN [
 oM 13 4 0,oN 14 (.eq .ptr true (.t 13) (.c (.nilp))) 1] [2,4,14]) (.seq (.cond (.t 14) (kS [2,4]) (kB [] (.exit 0))) (kB [2,4] (.seq (.block 1 (.seq (rN [
 oN 17 (lD 2) 0,oM 18 4 1,oN 19 (.callv (.t 17) [(.t 18,.as)]) 2] [2,4]) (kS [2,4]))) (kB [2,4] (.seq (rN [
 oM 15 4 0,oN 16 (.call 84 [(.t 15,.as)]) 1,oM 4 16 2] [2,4]) (kS [2,4])))))))
def F164:LFunc:={ nparams:=3,results:=[],pure:=false,body :=
 (.seq (.draw [
 oN 5 (lD 1) 0,oN 6 (.nilCheck (.t 5)) 1,oN 7 (fA 0 6) 2,oN 8 (lD 7) 3,oM 9 0 4,⟨some 10,.call 85 [(.t 9,.as)],none,5,[0,3]⟩,⟨none,.delete 1 (.t 8) (.t 10),none,6,[]⟩] [0,2] []) (.seq (rN [
 oM 11 0 0,oN 12 (.call 83 [(.t 11,.as)]) 1,oM 4 12 2] [2,4]) (.seq (.block 0 (.seq (kB [2,4] (.loop B164x0)) (kS []))) (kS [])))) }
theorem ok164:fnSoundB Go.Proofs.Tryz.prog 164 F164=true:=by decide +kernel
def B165x0:LCode :=
 (.seq (rN [
 oN 14 (.bin .lss (.t 13) (.t 12)) 0] [0,1,12,13,14]) (.seq (.cond (.t 14) (kS [0,1,12,13]) (kB [] (.exit 0))) (kB [0,1,12,13] (.seq (.block 1 (.seq (rN [
 oM 15 13 0,oM 5 15 1] [0,1,5,12,13]) (.seq (.region [
 oM 16 0 0,oM 17 5 1,oN 18 (.indexAddr 2 (.t 16) (.t 17)) 2,oN 19 (.load 2 true (.t 18)) 3,oM 20 1 4,oM 21 5 5,oN 22 (.indexAddr 2 (.t 20) (.t 21)) 6,oN 23 (.load 2 true (.t 22)) 7,oN 24 (.eq (.st [2,2]) true (.t 19) (.t 23)) 8] true [0,1,12,13,24] []) (.seq (.cond (.t 24) (.seq (rN [
 oN 4 (.move (.c (.bool false))) 0] [4]) (kB [4] .ret)) (kS [0,1,12,13])) (kS [0,1,12,13]))))) (kB [0,1,12,13] (.seq (rN [
 oN 25 (.bin .add (.t 13) (iC 1)) 0,oM 13 25 1] [0,1,12,13]) (kS [0,1,12,13])))))))
def F165:LFunc:={ nparams:=2,results:=[.tmp 4],pure:=true,body :=
 (.seq (rN [
 oN 4 (.move (.c (.bool false))) 0] [0,1]) (.seq (rN [
 oM 6 0 0,oN 7 (.len 1 (.t 6)) 1,oM 8 1 2,oN 9 (.len 1 (.t 8)) 3,oN 10 (.eq .i true (.t 7) (.t 9)) 4] [0,1,10]) (.seq (.cond (.t 10) (.seq (rN [
 oN 4 (.move (.c (.bool false))) 0] [4]) (kB [4] .ret)) (kS [0,1])) (kB [0,1] (.seq (rN [
 oM 11 0 0,oN 12 (.len 1 (.t 11)) 1,oN 13 (.move (iC 0)) 2] [0,1,12,13]) (.seq (.block 0 (.seq (kB [0,1,12,13] (.loop B165x0)) (kS []))) (kB [] (.seq (rN [
 oN 4 (.move (.c (.bool true))) 0] [4]) (kB [4] .ret))))))))) }
theorem ok165:fnSoundB Go.Proofs.Tryz.prog 165 F165=true:=by decide +kernel
def F166:LFunc:={ nparams:=1,results:=[.cell 2 9 true],pure:=true,body :=
 (.seq (.region [
 oN 1 (.box false 1 (.t 0)) 0,oN 2 (.alloc false 2 [.p (.str []),.p (.str []),.p (.str []),.p (.str []),.p (.str []),.p (.str []),.p (.str []),.p (.str []),.p (.str [])] []) 1] false [1,2] [1,2]) (.seq (.draw [
 oN 3 (fA 0 1) 0,oN 4 (lD 3) 1,oN 5 (.pcall 167 [(.t 4,.as)]) 2,oN 6 (fA 1 1) 3,oN 7 (lD 6) 4,oN 8 (.pcall 167 [(.t 7,.as)]) 5,oN 9 (fA 2 1) 6,oN 10 (lD 9) 7,oN 11 (.pcall 167 [(.t 10,.as)]) 8,oN 12 (fA 3 1) 9,oN 13 (lD 12) 10,oN 14 (.pcall 167 [(.t 13,.as)]) 11,oN 15 (fA 4 1) 12,oN 16 (lD 15) 13,oN 17 (fA 5 1) 14,oN 18 (lD 17) 15,oN 19 (fA 6 1) 16,oN 20 (lD 19) 17,oN 21 (fA 7 1) 18,oN 22 (lD 21) 19,oN 23 (.build [.p (.str []),.p (.str []),.p (.str []),.p (.str []),.p (.str []),.p (.str []),.p (.str []),.p (.str []),.p (.str [])] [(0,1,.t 5),(1,1,.t 8),(2,1,.t 11),(3,1,.t 14),(4,1,.t 16),(5,1,.t 18),(6,1,.t 20),(7,1,.t 22)]) 20,⟨none,.store 9 true (.t 2) (.t 23),none,21,[]⟩] [2] [2]) (.keep [2] [2] .ret))) }
theorem ok166:fnSoundB Go.Proofs.Tryz.prog 166 F166=true:=by decide +kernel
def B168x0:LCode :=
 (.seq (rN [
 oN 23 (.bin .lss (.t 22) (.t 21)) 0] [0,1,21,22,23]) (.seq (.cond (.t 23) (kS [0,1,21,22]) (kB [] (.exit 0))) (kB [0,1,21,22] (.seq (.block 1 (.seq (rN [
 oM 24 22 0,oM 5 24 1] [0,1,5,21,22]) (.seq (rN [
 oM 25 0 0,oM 26 5 1,oN 27 (.index (.t 25) (.t 26)) 2,oM 6 27 3] [0,1,6,21,22]) (.seq (rN [
 oM 28 6 0,oN 29 (.pcall 197 [(.t 28,.as)]) 1,oN 30 (.un .not (.t 29)) 2,oM 31 30 3,oG 32 (.move (.t 6)) 31 true 4,oG 33 (.bin .lss (.t 32) (.c (.int .u8 48))) 31 true 5,oG 34 (.move (.t 33)) 31 true 6,oG 35 (.move (.t 6)) 34 false 7,oG 36 (.bin .gtr (.t 35) (.c (.int .u8 57))) 34 false 8,oG 37 (.pick (.t 34) (.c (.bool true)) (.t 36)) 31 true 9,oN 38 (.pick (.t 31) (.t 37) (.c (.bool false))) 10,oM 39 38 11,oG 40 (.move (.t 1)) 39 true 12,oG 41 (.move (.t 6)) 39 true 13,oG 42 (.pcall 198 [(.t 40,.as),(.t 41,.as)]) 39 true 14,oG 43 (.bin .lss (.t 42) (iC 0)) 39 true 15,oN 44 (.pick (.t 39) (.t 43) (.c (.bool false))) 16] [0,1,21,22,44]) (.seq (.cond (.t 44) (.seq (rN [
 oN 4 (.move (.c (.bool false))) 0] [4]) (kB [4] .ret)) (kS [0,1,21,22])) (kS [0,1,21,22])))))) (kB [0,1,21,22] (.seq (rN [
 oN 45 (.bin .add (.t 22) (iC 1)) 0,oM 22 45 1] [0,1,21,22]) (kS [0,1,21,22])))))))
def F168:LFunc:={ nparams:=2,results:=[.tmp 4],pure:=true,body :=
 (.seq (rN [
 oN 4 (.move (.c (.bool false))) 0] [0,1]) (.seq (rN [
 oM 7 0 0,oN 8 (.eq .s false (.t 7) (.c (.str []))) 1,oM 9 8 2,oG 10 (.move (.t 0)) 9 false 3,oG 11 (.len 0 (.t 10)) 9 false 4,oG 12 (.bin .gtr (.t 11) (iC 32)) 9 false 5,oN 13 (.pick (.t 9) (.c (.bool true)) (.t 12)) 6,oM 14 13 7,oG 15 (.move (.t 0)) 14 false 8,oG 16 (.index (.t 15) (iC 0)) 14 false 9,oG 17 (.pcall 197 [(.t 16,.as)]) 14 false 10,oG 18 (.un .not (.t 17)) 14 false 11,oN 19 (.pick (.t 14) (.c (.bool true)) (.t 18)) 12] [0,1,19]) (.seq (.cond (.t 19) (.seq (rN [
 oN 4 (.move (.c (.bool false))) 0] [4]) (kB [4] .ret)) (kS [0,1])) (kB [0,1] (.seq (rN [
 oM 20 0 0,oN 21 (.len 0 (.t 20)) 1,oN 22 (.move (iC 0)) 2] [0,1,21,22]) (.seq (.block 0 (.seq (kB [0,1,21,22] (.loop B168x0)) (kS []))) (kB [] (.seq (rN [
 oN 4 (.move (.c (.bool true))) 0] [4]) (kB [4] .ret))))))))) }
theorem ok168:fnSoundB Go.Proofs.Tryz.prog 168 F168=true:=by decide +kernel
def B171x0:LCode :=
 (.seq (rN [
 oN 14 (.bin .lss (.t 13) (.t 12)) 0] [0,1,6,11,12,13,14]) (.seq (.cond (.t 14) (kS [0,1,6,11,12,13]) (kB [6] (.exit 0))) (kB [0,1,6,11,12,13] (.seq (.block 1 (.seq (.region [
 oM 15 13 0,oN 16 (.indexAddr 2 (.t 11) (.t 13)) 1,oN 17 (.load 2 true (.t 16)) 2,oN 8 (.alloc false 8 [.p (.str []),.p (.str [])] []) 3,oM 7 15 4,⟨none,.store 2 true (.t 8) (.t 17),none,5,[]⟩] false [0,1,6,7,8,11,12,13] [8]) (.seq (.block 2 (.seq (.block 5 (.seq (.block 4 (.seq (.block 3 (.seq (.region [
 oN 19 (fA 0 8) 0,oN 20 (lD 19) 1,oM 21 1 2,oN 22 (.eq .s false (.t 20) (.t 21)) 3,oM 18 22 4] false [0,1,6,7,8,11,12,13,18] [8]) (.seq (.cond (.t 18) (kB [7] (.exit 3)) (.keep [0,1,6,7,8,11,12,13] [8] .skip)) (.keep [0,1,6,7,8,11,12,13] [8] (.seq (.region [
 oM 24 6 0,oM 25 0 1,oN 26 (.len 1 (.t 25)) 2,oN 27 (.bin .lss (.t 24) (.t 26)) 3,oM 23 27 4] false [0,1,6,7,8,11,12,13,23] [8]) (.seq (.cond (.t 23) (kB [0,1,6,11,12,13] (.exit 4)) (.keep [0,1,6,7,8,11,12,13] [8] .skip)) (.keep [0,1,6,7,8,11,12,13] [8] (.seq (rN [
 oN 29 (fA 0 8) 0,oN 30 (lD 29) 1,oM 31 1 2,oN 32 (.bin .lss (.t 30) (.t 31)) 3,oM 28 32 4] [0,1,6,7,11,12,13,28]) (.seq (.cond (.t 28) (kB [0,1,6,11,12,13] (.exit 5)) (kS [0,1,7,11,12,13])) (kB [0,1,7,11,12,13] (.exit 2))))))))))) (kB [7] (.seq (rN [
 oM 33 7 0,oM 4 33 1,oN 5 (.move (.c (.bool true))) 2] [4,5]) (.seq (kB [4,5] .ret) (kB [0,1,7,11,12,13] (.exit 2))))))) (kS [0,1,6,11,12,13]))) (.seq (kB [0,1,6,11,12,13] (.exit 1)) (kB [0,1,7,11,12,13] (.exit 2))))) (kB [0,1,7,11,12,13] (.seq (rN [
 oM 34 7 0,oM 6 34 1] [0,1,6,11,12,13]) (kS [0,1,6,11,12,13])))))) (kB [0,1,6,11,12,13] (.seq (rN [
 oN 35 (.bin .add (.t 13) (iC 1)) 0,oM 13 35 1] [0,1,6,11,12,13]) (kS [0,1,6,11,12,13])))))))
def F171:LFunc:={ nparams:=2,results:=[.tmp 4,.tmp 5],pure:=true,body :=
 (.seq (rN [
 oN 4 (.move (iC 0)) 0,oN 5 (.move (.c (.bool false))) 1] [0,1]) (.seq (rN [
 oM 9 0 0,oN 10 (.len 1 (.t 9)) 1,oM 6 10 2] [0,1,6]) (.seq (rN [
 oM 11 0 0,oN 12 (.len 1 (.t 11)) 1,oN 13 (.move (iC 0)) 2] [0,1,6,11,12,13]) (.seq (.block 0 (.seq (kB [0,1,6,11,12,13] (.loop B171x0)) (kS [6]))) (kB [6] (.seq (rN [
 oM 36 6 0,oM 4 36 1,oN 5 (.move (.c (.bool false))) 2] [4,5]) (kB [4,5] .ret))))))) }
theorem ok171:fnSoundB Go.Proofs.Tryz.prog 171 F171=true:=by decide +kernel
def F174:LFunc:={ nparams:=2,results:=[.tmp 3],pure:=false,body :=
 (.seq (.region [
 oN 2 (.box false 2 (.t 0)) 0,oN 3 (.move (.c (.bool false))) 1] false [1,2] [2]) (.seq (rN [
 oN 4 (fA 0 2) 0,oN 5 (lD 4) 1,oN 6 (lD 1) 2,oN 7 (.eq .s false (.t 5) (.t 6)) 3,oM 3 7 4] [3]) (kB [3] .ret))) }
theorem ok174:fnSoundB Go.Proofs.Tryz.prog 174 F174=true:=by decide +kernel
def B175x0:LCode :=
 (.seq (rN [
 oM 7 0 0,oN 8 (.eq .ptr true (.t 7) (.c (.nilp))) 1] [0,1,8]) (.seq (.cond (.t 8) (kS [0,1]) (kB [] (.exit 0))) (kB [0,1] (.seq (.block 1 (.seq (rN [
 oM 13 0 0,oM 14 1 1,oN 15 (.eq .ptr false (.t 13) (.t 14)) 2] [0,1,15]) (.seq (.cond (.t 15) (.seq (rN [
 oN 4 (.move (.c (.bool true))) 0] [4]) (kB [4] .ret)) (kS [0,1])) (kS [0,1])))) (kB [0,1] (.seq (rN [
 oM 9 0 0,oN 10 (.nilCheck (.t 9)) 1,oN 11 (fA 1 10) 2,oN 12 (lD 11) 3,oM 0 12 4] [0,1]) (kS [0,1])))))))
def F175:LFunc:={ nparams:=2,results:=[.tmp 4],pure:=false,body :=
 (.seq (rN [
 oN 4 (.move (.c (.bool false))) 0] [0,1]) (.seq (rN [
 oM 5 1 0,oN 6 (.eq .ptr false (.t 5) (.c (.nilp))) 1] [0,1,6]) (.seq (.cond (.t 6) (.seq (rN [
 oN 4 (.move (.c (.bool false))) 0] [4]) (kB [4] .ret)) (kS [0,1])) (kB [0,1] (.seq (.block 0 (.seq (kB [0,1] (.loop B175x0)) (kS []))) (kB [] (.seq (rN [
 oN 4 (.move (.c (.bool false))) 0] [4]) (kB [4] .ret)))))))) }
theorem ok175:fnSoundB Go.Proofs.Tryz.prog 175 F175=true:=by decide +kernel
def B176x0:LCode :=
 (.seq (.region [
 oN 10 (.bin .lss (.t 9) (.t 8)) 0] false [0,1,5,8,9,10] [1000]) (.seq (.cond (.t 10) (.keep [0,1,5,8,9] [1000] .skip) (.keep [5] [1000] (.exit 0))) (.keep [0,1,5,8,9] [1000] (.seq (.block 1 (.seq (.region [
 oM 11 9 0,oM 6 11 1] false [0,1,5,6,8,9] [1000]) (.seq (.region [
 oM 12 0 0,oM 13 6 1,oN 14 (.indexAddr 1 (.t 12) (.t 13)) 2,oN 15 (lD 14) 3,oM 16 1 4,oN 17 (.eq .i true (.t 15) (.t 16)) 5] false [0,1,5,6,8,9,17] [1000]) (.seq (.cond (.t 17) (.seq (.region [
 oM 18 5 0,oM 19 0 1,oM 20 6 2,oN 21 (.indexAddr 1 (.t 19) (.t 20)) 3,oN 22 (lD 21) 4,oN 23 (.row 1 [.t 22]) 5,oN 24 (.append false 1001 1 8 (.t 18) (.t 23)) 6,oM 5 24 7] false [0,1,5,8,9] [1000]) (.keep [0,1,5,8,9] [1000] .skip)) (.keep [0,1,5,8,9] [1000] .skip)) (.keep [0,1,5,8,9] [1000] .skip))))) (.keep [0,1,5,8,9] [1000] (.seq (.region [
 oN 25 (.bin .add (.t 9) (iC 1)) 0,oM 9 25 1] false [0,1,5,8,9] [1000]) (.keep [0,1,5,8,9] [1000] .skip)))))))
def F176:LFunc:={ nparams:=2,results:=[.tmp 4],pure:=true,body :=
 (.seq (rN [
 oN 4 (.move (.c (.list []))) 0] [0,1]) (.seq (.region [
 oN 5 (.nilown false 1000 1) 0] false [0,1,5] [1000]) (.seq (.region [
 oM 7 0 0,oN 8 (.len 1 (.t 7)) 1,oN 9 (.move (iC 0)) 2] false [0,1,5,8,9] [1000]) (.seq (.block 0 (.seq (.keep [0,1,5,8,9] [1000] (.loop B176x0)) (.keep [5] [1000] .skip))) (.keep [5] [1000] (.seq (.region [
 oM 26 5 0,oM 4 26 1] false [4] [1000]) (.keep [4] [1000] .ret))))))) }
theorem ok176:fnSoundB Go.Proofs.Tryz.prog 176 F176=true:=by decide +kernel
def B177x0:LCode :=
 (.seq (rN [
 oM 15 8 0,oM 16 0 1,oN 17 (.len 1 (.t 16)) 2,oN 18 (.bin .lss (.t 15) (.t 17)) 3,oM 19 18 4,oG 20 (.move (.t 0)) 19 true 5,oG 21 (.move (.t 8)) 19 true 6,oG 22 (.indexAddr 2 (.t 20) (.t 21)) 19 true 7,oG 23 (fA 0 22) 19 true 8,oG 24 (lD 23) 19 true 9,oG 25 (.move (.t 1)) 19 true 10,oG 26 (.pcall 112 [(.t 24,.as),(.t 25,.as)]) 19 true 11,oG 27 (.bin .leq (.t 26) (iC 0)) 19 true 12,oN 28 (.pick (.t 19) (.t 27) (.c (.bool false))) 13] [0,1,2,7,8,28]) (.seq (.cond (.t 28) (kS [0,1,2,7,8]) (kB [0,1,2,7,8] (.exit 0))) (kB [0,1,2,7,8] (.seq (.block 1 (.seq (rN [
 oM 29 8 0,oN 30 (.bin .add (.t 29) (iC 1)) 1,oM 8 30 2] [0,1,2,7,8]) (kS [0,1,2,7,8]))) (kS [0,1,2,7,8])))))
def B177x1:LCode :=
 (.seq (.region [
 oN 34 (.bin .lss (.t 33) (.t 32)) 0] false [0,1,2,7,8,9,32,33,34] [1000]) (.seq (.cond (.t 34) (.keep [0,1,2,7,8,9,32,33] [1000] .skip) (.keep [0,1,2,7,8,9] [1000] (.exit 2))) (.keep [0,1,2,7,8,9,32,33] [1000] (.seq (.block 3 (.seq (.region [
 oM 35 33 0,oM 10 35 1] false [0,1,2,7,8,9,10,32,33] [1000]) (.seq (.region [
 oM 36 7 0,oN 37 (.bin .lss (.t 36) (iC 0)) 1,oM 38 37 2,oG 39 (.move (.t 10)) 38 true 3,oG 40 (.move (.t 8)) 38 true 4,oG 41 (.eq .i false (.t 39) (.t 40)) 38 true 5,oN 42 (.pick (.t 38) (.t 41) (.c (.bool false))) 6] false [0,1,2,7,8,9,10,32,33,42] [1000]) (.seq (.cond (.t 42) (.seq (.region [
 oM 43 9 0,oM 44 1 1,oM 45 2 2,oN 46 (.build [.p (.str []),.p (.str [])] [(0,1,.t 44),(1,1,.t 45)]) 3,oN 47 (.row 2 [.t 46]) 4,oN 48 (.append false 1001 2 32 (.t 43) (.t 47)) 5,oM 9 48 6] false [0,1,2,7,8,9,10,32,33] [1000]) (.keep [0,1,2,7,8,9,10,32,33] [1000] .skip)) (.keep [0,1,2,7,8,9,10,32,33] [1000] .skip)) (.keep [0,1,2,7,8,9,10,32,33] [1000] (.seq (.region [
 oM 49 0 0,oM 50 10 1,oN 51 (.indexAddr 2 (.t 49) (.t 50)) 2,oN 52 (.load 2 true (.t 51)) 3,oN 11 (.alloc false 11 [.p (.str []),.p (.str [])] []) 4,⟨none,.store 2 true (.t 11) (.t 52),none,5,[]⟩] false [0,1,2,7,8,9,10,11,32,33] [11,1000]) (.seq (.region [
 oM 53 10 0,oM 54 7 1,oN 55 (.eq .i false (.t 53) (.t 54)) 2] false [0,1,2,7,8,9,11,32,33,55] [11,1000]) (.seq (.cond (.t 55) (.seq (.region [
 oM 56 2 0,oN 57 (fA 1 11) 1,⟨none,.store 1 false (.t 57) (.t 56),none,2,[]⟩] false [0,1,2,7,8,9,11,32,33] [11,1000]) (.keep [0,1,2,7,8,9,11,32,33] [11,1000] .skip)) (.keep [0,1,2,7,8,9,11,32,33] [11,1000] .skip)) (.keep [0,1,2,7,8,9,11,32,33] [11,1000] (.seq (.region [
 oM 58 9 0,oN 59 (.load 2 true (.t 11)) 1,oN 60 (.row 2 [.t 59]) 2,oN 61 (.append false 1002 2 32 (.t 58) (.t 60)) 3,oM 9 61 4] false [0,1,2,7,8,9,32,33] [1000]) (.keep [0,1,2,7,8,9,32,33] [1000] .skip))))))))))) (.keep [0,1,2,7,8,9,32,33] [1000] (.seq (.region [
 oN 62 (.bin .add (.t 33) (iC 1)) 0,oM 33 62 1] false [0,1,2,7,8,9,32,33] [1000]) (.keep [0,1,2,7,8,9,32,33] [1000] .skip)))))))
def F177:LFunc:={ nparams:=3,results:=[.tmp 6],pure:=true,body :=
 (.seq (rN [
 oN 6 (.move (.c (.list []))) 0] [0,1,2]) (.seq (rN [
 oM 12 0 0,oM 13 1 1,oN 14 (.pcall 193 [(.t 12,.as),(.t 13,.as)]) 2,oM 7 14 3] [0,1,2,7]) (.seq (rN [
 oN 8 (.move (iC 0)) 0] [0,1,2,7,8]) (.seq (.block 0 (.seq (kB [0,1,2,7,8] (.loop B177x0)) (kS [0,1,2,7,8]))) (kB [0,1,2,7,8] (.seq (.region [
 oN 9 (.nilown false 1000 2) 0] false [0,1,2,7,8,9] [1000]) (.seq (.region [
 oM 31 0 0,oN 32 (.len 1 (.t 31)) 1,oN 33 (.move (iC 0)) 2] false [0,1,2,7,8,9,32,33] [1000]) (.seq (.block 2 (.seq (.keep [0,1,2,7,8,9,32,33] [1000] (.loop B177x1)) (.keep [0,1,2,7,8,9] [1000] .skip))) (.keep [0,1,2,7,8,9] [1000] (.seq (.region [
 oM 63 7 0,oN 64 (.bin .lss (.t 63) (iC 0)) 1,oM 65 64 2,oG 66 (.move (.t 8)) 65 true 3,oG 67 (.move (.t 0)) 65 true 4,oG 68 (.len 1 (.t 67)) 65 true 5,oG 69 (.eq .i false (.t 66) (.t 68)) 65 true 6,oN 70 (.pick (.t 65) (.t 69) (.c (.bool false))) 7] false [1,2,9,70] [1000]) (.seq (.cond (.t 70) (.seq (.region [
 oM 71 9 0,oM 72 1 1,oM 73 2 2,oN 74 (.build [.p (.str []),.p (.str [])] [(0,1,.t 72),(1,1,.t 73)]) 3,oN 75 (.row 2 [.t 74]) 4,oN 76 (.append false 1003 2 32 (.t 71) (.t 75)) 5,oM 9 76 6] false [9] [1000]) (.keep [9] [1000] .skip)) (.keep [9] [1000] .skip)) (.keep [9] [1000] (.seq (.region [
 oM 77 9 0,oM 6 77 1] false [6] [1000]) (.keep [6] [1000] .ret)))))))))))))) }
theorem ok177:fnSoundB Go.Proofs.Tryz.prog 177 F177=true:=by decide +kernel
def B178x0:LCode :=
 (.seq (.region [
 oN 11 (.bin .lss (.t 10) (.t 9)) 0] false [0,1,6,9,10,11] [1000]) (.seq (.cond (.t 11) (.keep [0,1,6,9,10] [1000] .skip) (.keep [0,6] [1000] (.exit 0))) (.keep [0,1,6,9,10] [1000] (.seq (.block 1 (.seq (.region [
 oM 12 10 0,oM 7 12 1] false [0,1,6,7,9,10] [1000]) (.seq (.region [
 oM 13 0 0,oM 14 7 1,oN 15 (.indexAddr 2 (.t 13) (.t 14)) 2,oN 16 (fA 0 15) 3,oN 17 (lD 16) 4,oM 18 1 5,oN 19 (.eq .s true (.t 17) (.t 18)) 6] false [0,1,6,7,9,10,19] [1000]) (.seq (.cond (.t 19) (.seq (.region [
 oM 20 6 0,oM 21 0 1,oM 22 7 2,oN 23 (.indexAddr 2 (.t 21) (.t 22)) 3,oN 24 (.load 2 true (.t 23)) 4,oN 25 (.row 2 [.t 24]) 5,oN 26 (.append false 1001 2 32 (.t 20) (.t 25)) 6,oM 6 26 7] false [0,1,6,9,10] [1000]) (.keep [0,1,6,9,10] [1000] .skip)) (.keep [0,1,6,9,10] [1000] .skip)) (.keep [0,1,6,9,10] [1000] .skip))))) (.keep [0,1,6,9,10] [1000] (.seq (.region [
 oN 27 (.bin .add (.t 10) (iC 1)) 0,oM 10 27 1] false [0,1,6,9,10] [1000]) (.keep [0,1,6,9,10] [1000] .skip)))))))
def F178:LFunc:={ nparams:=2,results:=[.tmp 4,.tmp 5],pure:=true,body :=
 (.seq (rN [
 oN 4 (.move (.c (.list []))) 0,oN 5 (.move (.c (.bool false))) 1] [0,1]) (.seq (.region [
 oN 6 (.nilown false 1000 2) 0] false [0,1,6] [1000]) (.seq (.region [
 oM 8 0 0,oN 9 (.len 1 (.t 8)) 1,oN 10 (.move (iC 0)) 2] false [0,1,6,9,10] [1000]) (.seq (.block 0 (.seq (.keep [0,1,6,9,10] [1000] (.loop B178x0)) (.keep [0,6] [1000] .skip))) (.keep [0,6] [1000] (.seq (.region [
 oM 28 6 0,oM 29 6 1,oN 30 (.len 1 (.t 29)) 2,oM 31 0 3,oN 32 (.len 1 (.t 31)) 4,oN 33 (.bin .lss (.t 30) (.t 32)) 5,oM 4 28 6,oM 5 33 7] false [4,5] [1000]) (.keep [4,5] [1000] .ret))))))) }
theorem ok178:fnSoundB Go.Proofs.Tryz.prog 178 F178=true:=by decide +kernel
def B193x0:LCode :=
 (.seq (rN [
 oN 9 (.bin .lss (.t 8) (.t 7)) 0] [0,1,7,8,9]) (.seq (.cond (.t 9) (kS [0,1,7,8]) (kB [] (.exit 0))) (kB [0,1,7,8] (.seq (.block 1 (.seq (rN [
 oM 10 8 0,oM 5 10 1] [0,1,5,7,8]) (.seq (rN [
 oM 11 0 0,oM 12 5 1,oN 13 (.indexAddr 2 (.t 11) (.t 12)) 2,oN 14 (fA 0 13) 3,oN 15 (lD 14) 4,oM 16 1 5,oN 17 (.eq .s false (.t 15) (.t 16)) 6] [0,1,5,7,8,17]) (.seq (.cond (.t 17) (.seq (rN [
 oM 18 5 0,oM 4 18 1] [4]) (kB [4] .ret)) (kS [0,1,7,8])) (kS [0,1,7,8]))))) (kB [0,1,7,8] (.seq (rN [
 oN 19 (.bin .add (.t 8) (iC 1)) 0,oM 8 19 1] [0,1,7,8]) (kS [0,1,7,8])))))))
def F193:LFunc:={ nparams:=2,results:=[.tmp 4],pure:=true,body :=
 (.seq (rN [
 oN 4 (.move (iC 0)) 0] [0,1]) (.seq (rN [
 oM 6 0 0,oN 7 (.len 1 (.t 6)) 1,oN 8 (.move (iC 0)) 2] [0,1,7,8]) (.seq (.block 0 (.seq (kB [0,1,7,8] (.loop B193x0)) (kS []))) (kB [] (.seq (rN [
 oN 4 (.move (iC (-1))) 0] [4]) (kB [4] .ret)))))) }
theorem ok193:fnSoundB Go.Proofs.Tryz.prog 193 F193=true:=by decide +kernel
def F195:LFunc:={ nparams:=1,results:=[.cell 2 3 true],pure:=true,body :=
 (.seq (.region [
 oN 1 (.box false 1 (.t 0)) 0,oN 2 (.alloc false 2 [.p (.int .i64 0),.p (.int .i64 0),.p (.int .i64 0)] []) 1] false [1,2] [1,2]) (.seq (.region [
 oN 3 (.alloc true 3 [.p (.int .i64 0),.p (.int .i64 0),.p (.int .i64 0)] []) 0] false [1,2,3] [1,2]) (.seq (.region [
 oN 4 (.alloc true 4 [.p (.nilf)] []) 0] false [1,2,3,4] [1,2]) (.seq (.region [
 oN 5 (.makeFunc 215 [.t 3,.t 4]) 0,⟨none,.store 1 false (.t 4) (.t 5),none,1,[]⟩] false [1,2,3,4] [1,2]) (.seq (.region [
 oN 6 (lD 4) 0,oN 7 (.load 5 true (.t 1)) 1,oN 8 (.makeMap true 8) 2,oN 9 (.callv (.t 6) [(.t 7,.as),(.c (.int .i64 1),.as),(.t 8,.as)]) 3] false [2,3] [2]) (.seq (.region [
 oN 10 (.load 3 true (.t 3)) 0,⟨none,.store 3 true (.t 2) (.t 10),none,1,[]⟩] false [2] [2]) (.keep [2] [2] .ret))))))) }
theorem ok195:fnSoundB Go.Proofs.Tryz.prog 195 F195=true:=by decide +kernel
def F197:LFunc:={ nparams:=1,results:=[.tmp 2],pure:=true,body :=
 (.seq (rN [
 oN 2 (.move (.c (.bool false))) 0] [0]) (.seq (rN [
 oM 3 0 0,oN 4 (.bin .geq (.t 3) (.c (.int .u8 97))) 1,oM 5 4 2,oG 6 (.move (.t 0)) 5 true 3,oG 7 (.bin .leq (.t 6) (.c (.int .u8 122))) 5 true 4,oN 8 (.pick (.t 5) (.t 7) (.c (.bool false))) 5,oM 2 8 6] [2]) (kB [2] .ret))) }
theorem ok197:fnSoundB Go.Proofs.Tryz.prog 197 F197=true:=by decide +kernel
def B215x0:LCode :=
 (.seq (rN [
 oN 64 (.bin .lss (.t 63) (.t 62)) 0] [1,4,11,61,62,63,64]) (.seq (.cond (.t 64) (kS [1,4,11,61,62,63]) (kB [] (.exit 1))) (kB [1,4,11,61,62,63] (.seq (.block 2 (.seq (.region [
 oN 65 (.indexAddr 5 (.t 61) (.t 63)) 0,oN 66 (.load 5 true (.t 65)) 1,oN 13 (.alloc false 13 [.p (.str []),.p (.str []),.p (.str []),.p (.list []),.p (.list [])] []) 2,⟨none,.store 5 true (.t 13) (.t 66),none,3,[]⟩] false [1,4,11,13,61,62,63] [13]) (.seq (rN [
 oN 67 (lD 4) 0,oN 68 (.load 5 true (.t 13)) 1,oM 69 1 2,oN 70 (.bin .add (.t 69) (iC 1)) 3,oM 71 11 4,oN 72 (.callv (.t 67) [(.t 68,.as),(.t 70,.as),(.t 71,.as)]) 5,oN 73 (.un .not (.t 72)) 6] [1,4,11,61,62,63,73]) (.seq (.cond (.t 73) (.seq (rN [
 oN 8 (.move (.c (.bool false))) 0] [8]) (kB [8] .ret)) (kS [1,4,11,61,62,63])) (kS [1,4,11,61,62,63]))))) (kB [1,4,11,61,62,63] (.seq (rN [
 oN 74 (.bin .add (.t 63) (iC 1)) 0,oM 63 74 1] [1,4,11,61,62,63]) (kS [1,4,11,61,62,63])))))))
def F215:LFunc:={ nparams:=5,results:=[.tmp 8],pure:=false,body :=
 (.seq (.region [
 oN 5 (.box false 5 (.t 0)) 0,oN 8 (.move (.c (.bool false))) 1] false [1,2,3,4,5] [5]) (.seq (.region [
 oN 14 (fA 1 3) 0,oN 15 (lD 14) 1,oM 16 1 2,oN 17 (.maxI (.t 15) (.t 16)) 3,oN 18 (fA 1 3) 4,⟨none,.store 1 false (.t 18) (.t 17),none,5,[]⟩] false [1,2,3,4,5] [5]) (.seq (.block 0 (.seq (.region [
 oN 23 (fA 0 3) 0,oN 24 (lD 23) 1,oN 25 (.eq .i false (.t 24) (iC 4096)) 2,oM 22 25 3] false [1,2,3,4,5,22] [5]) (.seq (.cond (.t 22) (.seq (.region [
 oN 26 (fA 2 3) 0,⟨none,.store 1 false (.t 26) (iC 12),none,1,[]⟩] false [1,2,3,4,5] [5]) (.keep [1,2,3,4,5] [5] .skip)) (.seq (.region [
 oM 28 1 0,oN 29 (.bin .gtr (.t 28) (iC 64)) 1,oM 27 29 2] false [1,2,3,4,5,27] [5]) (.seq (.cond (.t 27) (.seq (.region [
 oN 30 (fA 2 3) 0,⟨none,.store 1 false (.t 30) (iC 11),none,1,[]⟩] false [1,2,3,4,5] [5]) (.keep [1,2,3,4,5] [5] .skip)) (.seq (.region [
 oN 19 (.load 5 true (.t 5)) 0,oN 20 (.pcall 216 [(.t 19,.as)]) 1,oN 21 (fA 2 3) 2,⟨none,.store 1 false (.t 21) (.t 20),none,3,[]⟩] false [1,2,3,4,5] [5]) (.keep [1,2,3,4,5] [5] .skip))) (.keep [1,2,3,4,5] [5] .skip)))) (.keep [1,2,3,4,5] [5] .skip)))) (.keep [1,2,3,4,5] [5] (.seq (.region [
 oM 32 2 0,oN 33 (fA 1 5) 1,oN 34 (lD 33) 2,oN 35 (.lookup 2 (.agg []) true (.t 32) (.t 34)) 3,oM 31 35 4,oN 36 (.extract (.t 31) 0) 5,oN 37 (.extract (.t 31) 1) 6,oN 9 (.alloc false 9 [] []) 7,⟨none,.store 0 true (.t 9) (.t 36),none,8,[]⟩,oM 10 37 9] false [1,2,3,4,5,10] [5]) (.seq (.region [
 oN 38 (fA 2 3) 0,oN 39 (lD 38) 1,oN 40 (.eq .i false (.t 39) (iC 0)) 2,oM 41 40 3,oG 42 (.move (.t 10)) 41 true 4,oN 43 (.pick (.t 41) (.t 42) (.c (.bool false))) 5] false [1,2,3,4,5,43] [5]) (.seq (.cond (.t 43) (.seq (.region [
 oN 44 (fA 2 3) 0,⟨none,.store 1 false (.t 44) (iC 10),none,1,[]⟩] false [1,2,3,4,5] [5]) (.keep [1,2,3,4,5] [5] .skip)) (.keep [1,2,3,4,5] [5] .skip)) (.keep [1,2,3,4,5] [5] (.seq (.region [
 oN 45 (fA 2 3) 0,oN 46 (lD 45) 1,oN 47 (.eq .i true (.t 46) (iC 0)) 2] false [1,2,3,4,5,47] [5]) (.seq (.cond (.t 47) (.seq (rN [
 oN 8 (.move (.c (.bool false))) 0] [8]) (kB [8] .ret)) (.keep [1,2,3,4,5] [5] .skip)) (.keep [1,2,3,4,5] [5] (.seq (.region [
 oN 48 (fA 1 5) 0,oN 49 (lD 48) 1,oN 50 (.eq .s true (.t 49) (.c (.str []))) 2] false [1,2,3,4,5,50] [5]) (.seq (.cond (.t 50) (.seq (.region [
 oM 51 2 0,oN 52 (fA 1 5) 1,oN 53 (lD 52) 2,oN 54 (.build [] []) 3,⟨none,.mapUpdate 2 (.t 51) (.t 53) (.t 54),none,4,[]⟩] false [1,3,4,5] [5]) (.keep [1,3,4,5] [5] .skip)) (.keep [1,3,4,5] [5] .skip)) (.keep [1,3,4,5] [5] (.seq (.region [
 oN 55 (fA 0 3) 0,oN 56 (lD 55) 1,oN 57 (.bin .add (.t 56) (iC 1)) 2,oN 58 (fA 0 3) 3,⟨none,.store 1 false (.t 58) (.t 57),none,4,[]⟩] false [1,4,5] [5]) (.seq (.region [
 oN 59 (.makeMap true 59) 0,oM 11 59 1] false [1,4,5,11] [5]) (.seq (rN [
 oN 60 (fA 4 5) 0,oN 61 (lD 60) 1,oN 62 (.len 1 (.t 61)) 2,oN 63 (.move (iC 0)) 3] [1,4,11,61,62,63]) (.seq (.block 1 (.seq (kB [1,4,11,61,62,63] (.loop B215x0)) (kS []))) (kB [] (.seq (rN [
 oN 8 (.move (.c (.bool true))) 0] [8]) (kB [8] .ret))))))))))))))))))))) }
theorem ok215:fnSoundB Go.Proofs.Tryz.prog 215 F215=true:=by decide +kernel
def F216:LFunc:={ nparams:=1,results:=[.tmp 2],pure:=true,body :=
 (.seq (.region [
 oN 1 (.box false 1 (.t 0)) 0,oN 2 (.move (iC 0)) 1] false [1] [1]) (.seq (.block 0 (.seq (.region [
 oN 6 (fA 0 1) 0,oN 7 (lD 6) 1,oN 8 (.pcall 116 [(.t 7,.as)]) 2,oN 9 (.un .not (.t 8)) 3,oM 5 9 4] false [1,5] [1]) (.seq (.cond (.t 5) (.seq (rN [
 oN 2 (.move (iC 7)) 0] [2]) (kB [2] .ret)) (.seq (.region [
 oN 11 (fA 1 1) 0,oN 12 (lD 11) 1,oN 13 (.pcall 118 [(.t 12,.as)]) 2,oN 14 (.un .not (.t 13)) 3,oM 15 14 4,oG 16 (fA 2 1) 15 false 5,oG 17 (lD 16) 15 false 6,oG 18 (.pcall 118 [(.t 17,.as)]) 15 false 7,oG 19 (.un .not (.t 18)) 15 false 8,oN 20 (.pick (.t 15) (.c (.bool true)) (.t 19)) 9,oM 10 20 10] false [1,10] [1]) (.seq (.cond (.t 10) (.seq (rN [
 oN 2 (.move (iC 3)) 0] [2]) (kB [2] .ret)) (.keep [1] [1] .skip)) (.keep [1] [1] .skip)))) (.keep [1] [1] .skip)))) (.keep [1] [1] (.seq (rN [
 oN 22 (fA 3 1) 0,oN 23 (lD 22) 1,oN 24 (.pcall 119 [(.t 23,.as)]) 2,oM 21 24 3,oN 25 (.extract (.t 21) 0) 4,oN 26 (.extract (.t 21) 1) 5,oM 3 25 6,oM 4 26 7] [4]) (.seq (rN [
 oM 27 4 0,oM 2 27 1] [2]) (kB [2] .ret)))))) }
theorem ok216:fnSoundB Go.Proofs.Tryz.prog 216 F216=true:=by decide +kernel
def B203x0:LCode :=
 (.seq (rN [
 oN 9 (.bin .lss (.t 8) (.t 7)) 0] [0,1,7,8,9]) (.seq (.cond (.t 9) (kS [0,1,7,8]) (kB [] (.exit 0))) (kB [0,1,7,8] (.seq (.block 1 (.seq (rN [
 oM 10 8 0,oM 5 10 1] [0,1,5,7,8]) (.seq (rN [
 oM 11 1 0,oM 12 0 1,oM 13 5 2,oN 14 (.indexAddr 2 (.t 12) (.t 13)) 3,oN 15 (.load 2 true (.t 14)) 4,oN 16 (.callv (.t 11) [(.t 15,.as)]) 5] [0,1,5,7,8,16]) (.seq (.cond (.t 16) (.seq (rN [
 oM 17 5 0,oM 4 17 1] [4]) (kB [4] .ret)) (kS [0,1,7,8])) (kS [0,1,7,8]))))) (kB [0,1,7,8] (.seq (rN [
 oN 18 (.bin .add (.t 8) (iC 1)) 0,oM 8 18 1] [0,1,7,8]) (kS [0,1,7,8])))))))
def F203:LFunc:={ nparams:=2,results:=[.tmp 4],pure:=false,body :=
 (.seq (rN [
 oN 4 (.move (iC 0)) 0] [0,1]) (.seq (rN [
 oM 6 0 0,oN 7 (.len 1 (.t 6)) 1,oN 8 (.move (iC 0)) 2] [0,1,7,8]) (.seq (.block 0 (.seq (kB [0,1,7,8] (.loop B203x0)) (kS []))) (kB [] (.seq (rN [
 oN 4 (.move (iC (-1))) 0] [4]) (kB [4] .ret)))))) }
theorem ok203:fnSoundB Go.Proofs.Tryz.prog 203 F203=true:=by decide +kernel
end Go.TA.Tryz


end
section
/- Functions of the library, told at once. -/
namespace Go.TA
def pIndexByte (C:Calls'):List AV→List AObj→Option (AV × List AObj)
 | [.p (.str s),.p (.int .u8 c)],g=>some (.p (.int .i64 (Lib.indexByte s c.toNat.toUInt8)),g)
 | _,_=>none
section
variable {P:Program} {Γ : Ground} {f:Nat}
theorem prim_still {f:Nat} (hcal:calleeOk P f=true) {args:List AV} {g:List AObj} {r:AV} (hg:gOk g) (hr:noLocal r=true)
  (h:∀ (c:Cx) (vs:List Value),args.length=vs.length→(∀ j (h:j<args.length) (h':j<vs.length),RelV c (args[j]) (vs[j]))→∃ v,RelV c r v∧Calls P f vs.toArray c.w (fun e w'=>e = .returned v∧w'=c.w)):SoundAt P Γ f args g r g:=by
 refine ⟨hcal,hg,hr,fun c vs hl hgc hH hlen hrel => ?_⟩
 obtain ⟨v,hv,hc⟩:=h c vs hlen hrel
 refine Calls.mono hc (fun e w' he => ?_)
 obtain ⟨rfl,rfl⟩:=he
 exact ⟨v,rfl,c,hl,hgc,rfl,Evolve.refl c,hH,hv⟩
theorem pIndexByte_ok (hcal:calleeOk P f=true) (h:∀ (s:ByteArray) (c:Int) (w:World),Calls P f #[.string s,.int .u8 c] w fun e w'=>e = .returned (.int .i64 (Lib.indexByte s.data.toList c.toNat.toUInt8))∧w'=w):PrimOk P Γ f pIndexByte:=by
  intro C hC args g r g' hp hno hgo
  unfold pIndexByte at hp
  split at hp
  · rename_i s b
    simp only [Option.some.injEq,Prod.mk.injEq] at hp
    obtain ⟨rfl,rfl⟩:=hp
    refine prim_still hcal hgo rfl (fun c vs hl hr => ?_)
    match vs,hl with
    | [u, v], _ =>
      have e1:=relV_str (hr 0 (by simp) (by simp))
      have e2:=relV_int (hr 1 (by simp) (by simp))
      simp only [List.getElem_cons_zero,List.getElem_cons_succ] at e1 e2
      subst e1 e2
      refine ⟨_,rInt _ _, ?_⟩
      have:=h ⟨s.toArray⟩ b c.w
      simpa using this
  · cases hp
def pClone (sz:Nat) (C:Calls'):List AV→List AObj→Option (AV × List AObj)
 | [.p (.list xs)],g=>if xs.length*4096≤140737488355328∧(xs.all fun x=>x.length==sz)=true then some (.own true g.length xs.length,g++[.pcells sz xs]) else none
 | _,_=>none
def cloneHead:LCode:=.region [{ dst:=some 2,op:=.move (.c (.list [])) }] false [0] []
def cloneTest:LOper:={ dst:=some 3,op:=.move (.t 0) }
def cloneNil (sz:Nat):LCode:=.seq (.region [{ dst:=some 2,op:=.nilown true 0 sz }] false [2] []) .ret
def cloneBody (sz bytes:Nat):LCode:=.seq (.region [{ dst:=some 5,op:=.rowOwn true 5 sz [] },{ dst:=some 6,op:=.move (.t 0) },{ dst:=some 7,op:=.append true 9 sz bytes (.t 5) (.t 6) },{ dst:=some 2,op:=.move (.t 7) }] false [2] []) .ret
def cloneEqB (P:Program) (o:Oper):Bool:=match o.op with
 | .binOp .eql t (.tmp 3) (.const (.slice none 0 0)) _=>eqOk P t .sl && o.dst==some 4 && o.guard.isNone
 | _=>false
def cloneItems (P : Program) (sz bytes : Nat) (l : List Code) : Bool := match l with
  | [.region i0 o0 false, .region _ o1 false, .cond (.tmp 4) a b, .region i3 o3 false, .ret] =>
    codeOk P 8 cloneHead [.region i0 o0 false] && (match o1.toList with
      | [x,y]=>operOk P 8 o1 cloneTest x && cloneEqB P y
      | _=>false) && codeOk P 8 (cloneNil sz) (items a) && (items b).isEmpty && codeOk P 8 (cloneBody sz bytes) [.region i3 o3 false,.ret]
  | _=>false
def cloneB (P : Program) (f sz bytes : Nat) : Bool := calleeOk P f && bytes ≤ 4096 && sz != 0 && match P.funcs[f]? with
  | some fn => (match fn.body with
    | some b=>fn.ntmps==8 && resOk P [.tmp 2] fn.results.toList && cloneItems P sz bytes (items b)
    | none=>false)
  | none=>false
theorem aexec_head {C:Calls'} {N:Nat} {a:AV} {g:List AObj} {fr:List (Nat × AV)} (h:mentions [] a=false) (hl:lk fr 0=some a):aexec C N cloneHead ⟨fr,[],g⟩=some (.normal,⟨[(0,a)],[],g⟩):=by
 simp [cloneHead,aexec,runOps,stepOp,be,evalOp,putK,opt',St.set,St.arg,bn,bn',St.keep,St.get,lk,orBot,hl,pickL,h]
theorem aexec_nil {C:Calls'} {N sz:Nat} {s:St}:aexec C N (cloneNil sz) s=some (.ret,⟨[(2,.own true s.g.length 0)],[],s.g++[.pcells sz []]⟩):=by
 simp [cloneNil,aexec,runOps,stepOp,be,evalOp,putK,opt',St.set,St.arg,bn,bn',St.keep,St.get,lk,orBot,pickL,thenK,mentions,St.newObj,bk]
theorem aexec_body {C:Calls'} {N sz bytes:Nat} {xs:List (List PV)} {fr:List (Nat × AV)} {g:List AObj} (h0:lk fr 0=some (.p (.list xs))) (hb:bytes≤4096) (hn:xs.length*4096≤140737488355328) (h3:(xs.all fun y=>y.length==sz)=true) :
  aexec C N (cloneBody sz bytes) ⟨fr,[],g⟩=some (.ret,⟨[(2,.own true g.length xs.length)],[],g++[.pcells sz xs]⟩):=by
 have h1:xs.length*bytes≤140737488355328:=Nat.le_trans (Nat.mul_le_mul_left _ hb) hn
 have h2:xs.length≤140737488355328:=by omega
 have h4:∀ x,x ∈ xs→x.length=sz:=by simpa using h3
 simp [cloneBody,aexec,runOps,stepOp,be,evalOp,putK,opt',St.set,St.arg,St.get,lk,cellsAll,sameLen,okFor,St.newObj,objOf,puress,h0,orBot,St.obj,St.putObj,appendTo,asLit,h1,h2,bk,bn,bn',St.keep,pickL,thenK,mentions]
 rw [if_pos h4]
 simp [putK,opt',St.set,lk,mentions]
 rfl
theorem list_len {c:Cx} {xs:List (List PV)} {v:Value} (h:RelP c.w c.N (.list xs) v):∃ A cap,v = .slice A xs.length cap:=by
 cases h with
 | none A cap h=>exact ⟨A,cap,rfl⟩
 | list xs b off cap sz f h1 h2 h3 h4 h5 h6 h7 h8=>exact ⟨_,cap,rfl⟩
theorem pClone_ok (hm : P.follows .mixedOrders = true) {sz bytes : Nat} (hB : cloneB P f sz bytes = true) : PrimOk P Γ f (pClone sz) := by
  intro C hC args g r g' hp hno hgo
  unfold pClone at hp
  split at hp
  rotate_left
  · cases hp
  rename_i xs
  split at hp
  rotate_left
  · cases hp
  rename_i hcond
  obtain ⟨hn,hsz⟩:=hcond
  simp only [Option.some.injEq,Prod.mk.injEq] at hp
  obtain ⟨rfl,rfl⟩:=hp
  simp only [cloneB,Bool.and_eq_true,decide_eq_true_eq,bne_iff_ne,ne_eq] at hB
  obtain ⟨⟨⟨hcal,hbytes⟩,hsz0⟩,hB⟩:=hB
  split at hB
  rotate_left
  · cases hB
  rename_i fn hfn
  split at hB
  rotate_left
  · cases hB
  rename_i body hbody
  simp only [Bool.and_eq_true,beq_iff_eq] at hB
  obtain ⟨⟨hnt,hres⟩,hit⟩:=hB
  unfold cloneItems at hit
  split at hit
  rotate_left
  · cases hit
  rename_i i0 o0 i1 o1 ca cb i3 o3 hitems
  simp only [Bool.and_eq_true,List.isEmpty_iff] at hit
  obtain ⟨⟨⟨⟨hc0,hc1⟩,hc2⟩,hcb⟩,hc3⟩:=hit
  split at hc1
  rotate_left
  · cases hc1
  rename_i x y hxy
  simp only [Bool.and_eq_true] at hc1
  obtain ⟨hx,hy⟩:=hc1
  have hgo':gOk (g++[.pcells sz xs]):=by
    intro ob hob
    exact gOk_new (s:=⟨[],[],g⟩) (z:=true) (k:=0) (k':=g.length) (s':=⟨[],[],g++[.pcells sz xs]⟩) hgo rfl (fun _=>rfl) ob hob
  refine ⟨hcal,hgo',rfl,fun c vs hl hgc hH hlen hrel => ?_⟩
  match vs,hlen with
  | [v],_=>
  subst hgc
  refine calls_of_wp hfn hbody ?_
  have hg0:=body_good (c:=c) (args:=[.p (.list xs)]) (vs:=[v]) (np:=1) (nt:=fn.ntmps) rfl hrel hH hl hgo rfl
  rw [hnt] at hg0 ⊢
  have hmax:max 1 8=8:=rfl
  rw [hmax] at hg0
  refine wp_of_wpL ?_
  rw [hitems]
  have fin:∀ {c':Cx} {s':St} {a':Act},Good Γ c' s' a' 8→Evo c c'→s'.get 2 = .own true c.g.length xs.length→s'.g=c.g++[.pcells sz xs]→bodyPost P fn (fun e w'=>∃ v,e = .returned v∧Ans Γ c [] (c.g++[.pcells sz xs]) (.own true c.g.length xs.length) v w') .ret a' c'.w:=by
    intro c' s' a' hg' hE hav hsg
    obtain ⟨us,hrun,hl1,hl2⟩:=results_rel (C:=C) (vs:=[s'.get 2]) hg' hres rfl
    refine ⟨hg'.D,_,hrun,_,rfl, ?_⟩
    match us,hl1 with
    | [u],_=>
    have hu:RelV c' (.own true c.g.length xs.length) u:=by rw [← hav];exact hl2 0 (by simp) (by simp)
    have hs:∀ k o,lk ([]:List (Nat × AObj)) k=some o→lk c'.l k=some o:=fun k o h=>by simp [lk] at h
    have hgs:c'.g=c.g++[.pcells sz xs]:=by rw [← hg'.g,hsg]
    refine ⟨c'.drop [],rfl,hgs,rfl,(hE.trans evo_drop).evolve hl,relH_drop hg'.H hs (by rw [hgs];exact hgo') (fun e h=>by simp at h), ?_⟩
    exact relV_drop hs hu (noLocal_mentions _ rfl)
  have hent:enterSt [.p (.list xs)] c.g=⟨[(0,.p (.list xs))],[],c.g⟩:=rfl
  rw [hent] at hg0
  have h0:=aexec_rel (C:=C) (N:=9) hm hC cloneHead hc0 hg0 (aexec_head (a:=.p (.list xs)) rfl rfl) (Q:=Exit.then (wpL P (bodyPost P fn fun e w'=>∃ v,e = .returned v∧Ans Γ c [] (c.g++[.pcells sz xs]) (.own true c.g.length xs.length) v w') [.region i1 o1 false,.cond (.tmp 4) ca cb,.region i3 o3 false,.ret]) (bodyPost P fn fun e w'=>∃ v,e = .returned v∧Ans Γ c [] (c.g++[.pcells sz xs]) (.own true c.g.length xs.length) v w')) (fun c1 a1 hg1 hE1 => ?_)
  · exact of_wpL_one h0
  simp only [toExit,Exit.then]
  show (Code.region i1 o1 false).wp P _ a1 c1.w
  refine wp_region_list ?_
  rw [hxy]
  have hs1:stepOp C cloneTest ⟨[(0,.p (.list xs))],[],c.g⟩=some ⟨[(3,.p (.list xs)),(0,.p (.list xs))],[],c.g⟩:=rfl
  have hg1':Good Γ c1 ⟨[(0,.p (.list xs))],[],c.g⟩ a1 8:=hg1
  have st:=step_rel (Q:=Exit.then (wpL P (bodyPost P fn fun e w'=>∃ v,e = .returned v∧Ans Γ c [] (c.g++[.pcells sz xs]) (.own true c.g.length xs.length) v w') [.cond (.tmp 4) ca cb,.region i3 o3 false,.ret]) (bodyPost P fn fun e w'=>∃ v,e = .returned v∧Ans Γ c [] (c.g++[.pcells sz xs]) (.own true c.g.length xs.length) v w'))
    (K:=wpList P o1 (Exit.then (wpL P (bodyPost P fn fun e w'=>∃ v,e = .returned v∧Ans Γ c [] (c.g++[.pcells sz xs]) (.own true c.g.length xs.length) v w') [.cond (.tmp 4) ca cb,.region i3 o3 false,.ret]) (bodyPost P fn fun e w'=>∃ v,e = .returned v∧Ans Γ c [] (c.g++[.pcells sz xs]) (.own true c.g.length xs.length) v w')) [y]) hC hg1' hx hs1 (fun c2 a2 hg2 hE2 => ?_)
  · unfold wpList
    split
    · rename_i hw;rw [if_pos hw] at st;exact .inl st
    · rename_i hw;rw [if_neg hw] at st;exact st
  unfold cloneEqB at hy
  split at hy
  rotate_left
  · cases hy
  rename_i t t' hop
  simp only [Bool.and_eq_true,beq_iff_eq,Option.isNone_iff_eq_none] at hy
  obtain ⟨⟨heq,hdst⟩,hguard⟩:=hy
  have h3v:=hg2.F 3
  have:(⟨[(3,.p (.list xs)),(0,.p (.list xs))],[],c.g⟩:St).get 3 = .p (.list xs):=rfl
  rw [this] at h3v
  obtain ⟨A,cap,hval⟩:=list_len (relV_p h3v)
  have ht:=(tells_nil (P:=P) (w:=c2.w) (t:=t) (k:=.sl) heq (.inl ⟨rfl,A,xs.length,cap,rfl,rfl⟩) (.tmp 3) (.const (.slice none 0 0))).1
  have hdo:Does P a2.eval y c2.w (Ans Γ c2 [] c.g (.p (.bool A.isNone))):=by
    have e3:a2.eval (.tmp 3) = .slice A xs.length cap:=hval
    refine Does.value (v:=.bool A.isNone) (w':=c2.w) ?_ ⟨c2,hg2.l.symm,hg2.g.symm,rfl,Evolve.refl c2,hg2.H,rBool _⟩
    obtain ⟨z1,z2,z3⟩:=ht
    have e4:a2.eval (.const (.slice none 0 0)) = .slice none 0 0:=rfl
    simp only [execOp,hop,e3,e4,Sem.run_bind,z3,Result.andThen_ok,z1]
    rfl
  have hw:Region.wanted y (yielded o1 a2.tmps)=true:=by simp [Region.wanted,hguard]
  unfold wpList
  rw [if_pos hw]
  refine .inl (Does.wp hdo (fun v' w' hR => ?_))
  obtain ⟨c3,p1,p2,rfl,hE3,hH3,hv3⟩:=hR
  have hg3:=good_put hg2 (s':=⟨[(3,.p (.list xs)),(0,.p (.list xs))],[],c.g⟩) (dst:=some 4) hE3 hH3 p1 p2 rfl hg2.G rfl hv3
  rw [hdst]
  simp only [wpList,Exit.then]
  have hg3':Good Γ c3 ⟨[(4,.p (.bool A.isNone)),(3,.p (.list xs)),(0,.p (.list xs))],[],c.g⟩ (a2.put (some 4) v') 8:=hg3
  have hEvo:Evo c c3:=hE1.trans (hE2.trans hE3).evo
  have h4v:=hg3'.F 4
  have:(⟨[(4,.p (.bool A.isNone)),(3,.p (.list xs)),(0,.p (.list xs))],[],c.g⟩:St).get 4 = .p (.bool A.isNone):=rfl
  rw [this] at h4v
  show (Code.cond (.tmp 4) ca cb).wp P _ _ c3.w
  refine wp_cond (t:=A.isNone) (relV_bool h4v) ?_
  cases hA:A.isNone with
  | true =>
    simp only [if_true]
    have hx0:xs=[]:=by
      obtain ⟨A',cap',e,_,_,hpos⟩:=relP_list (relV_p h3v)
      rcases Nat.eq_zero_or_pos xs.length with h0 | h0
      · exact List.eq_nil_of_length_eq_zero h0
      · obtain ⟨b,off,sz',f',e',_⟩:=hpos h0
        rw [hval] at e
        injection e with e1 e2 e3
        rw [e1,e'] at hA
        cases hA
    subst hx0
    refine wp_of_wpL (aexec_rel (C:=C) (N:=9) hm hC (cloneNil sz) hc2 hg3' aexec_nil (fun c4 a4 hg4 hE4 => ?_))
    simp only [toExit,Exit.then]
    exact fin hg4 (hEvo.trans hE4) rfl rfl
  | false =>
    simp only [Bool.false_eq_true,if_false]
    refine wp_of_wpL ?_
    rw [hcb]
    show wpL P (bodyPost P fn fun e w'=>∃ v,e = .returned v∧Ans Γ c [] (c.g++[.pcells sz xs]) (.own true c.g.length xs.length) v w') [.region i3 o3 false,.ret] _ c3.w
    refine aexec_rel (C:=C) (N:=9) hm hC (cloneBody sz bytes) hc3 hg3' (aexec_body rfl hbytes hn hsz) (fun c4 a4 hg4 hE4 => ?_)
    exact fin hg4 (hEvo.trans hE4) rfl rfl
end
end Go.TA


end
section
/- What the walk of slices.Insert asks of copying, at elements of several cells. -/
namespace Go.TA
variable {P:Program}
theorem run_copy_k (w:World) (dT sT ty elem:TypeId) (k b o dLen dCap:Nat) (a:Addr) (sLen sCap:Nat) (cs:List Value)
    (hu:P.underlying dT=some (.slice elem)) (hs:(P.info? elem).map (·.size)=some k) (hn:cs.length=Nat.min sLen dLen*k)
    (hsrc:∀ j v,cs[j]? = some v→w.cell? (a.add j)=some v) (hc:∀ j,j<cs.length→(w.cell? ⟨b,o+j,none⟩).isSome=true) (hf:∀ j,j<cs.length→w.frozen? ⟨b,o+j,none⟩=false) (h1:∀ v ∈ cs,v.oneCell'=true) :
    (Builtin.copy_ #[dT,sT] ty #[.slice (some ⟨b,o,none⟩) dLen dCap,.slice (some a) sLen sCap]).run P w = .ok (goInt (Nat.min sLen dLen)) (w.setCells b o cs):=by
  have hl:=run_loadCells_list (P:=P) w a cs hsrc
  have hst:=run_storeCells_cells (P:=P) b o cs 0 w (by simpa using hc) (by simpa using hf) h1
  cases hq:P.info? elem with
  | none=>simp [hq] at hs
  | some i =>
    have hi:i.size=k:=by simpa [hq] using hs
    simp [Builtin.copy_,run_underlying hu,Builtin.lenOf,Builtin.firstCells,sizeOf,typeInfo,hq,hi, ← hn,hl,hst]
end Go.TA


end
section
/- slices.Insert on a row of one's own, told at once. -/
namespace Go.TA
structure Only (w w':World) (k:Option Nat):Prop where
 size:w.heap.size≤w'.heap.size
 tape:w'.tape=w.tape
 os:w'.os=w.os
 output:w'.output=w.output
 keep:∀ b,b<w.heap.size→k≠some b→w'.heap[b]? = w.heap[b]?
theorem Only.refl (w:World) (k:Option Nat):Only w w k:=⟨Nat.le_refl _,rfl,rfl,rfl,fun _ _ _=>rfl⟩
theorem Only.drew {w w':World} {k:Option Nat} (h:Only w w' k):Only w w'.drew k:=⟨h.size,h.tape,h.os,h.output,h.keep⟩
theorem Only.alloc {w w':World} {k:Option Nat} (h:Only w w' k) (o:Obj):Only w (w'.alloc o) k :=
 ⟨by have:=h.size;simp;omega,h.tape,h.os,h.output,fun b hb hne=>by
  rw [← h.keep b hb hne]
  have:=h.size
  simp only [World.alloc]
  rw [Array.getElem?_push_lt (by omega)]
  simp⟩
theorem heap_setCell_other {w:World} {b b' o:Nat} {v:Value} (h:b'≠b):(w.setCell ⟨b,o,none⟩ v).heap[b']? = w.heap[b']? := by
 simp only [World.setCell,Array.getElem?_modify]
 rw [if_neg (fun e=>h e.symm)]
theorem Only.cells {w : World} {k : Option Nat} {b : Nat} (hb : k = some b ∨ w.heap.size ≤ b) : ∀ (vs : List Value) (o : Nat) {w' : World}, Only w w' k → Only w (w'.setCells b o vs) k
  | [],_,_,h=>h
  | v :: r, o, w', h => Only.cells hb r (o + 1) ⟨by simpa using h.size, h.tape, h.os, h.output, fun b' hb' hne => by
      rw [heap_setCell_other (fun e=>by
        subst e
        rcases hb with e | e
        · exact hne e
        · omega)]
      exact h.keep b' hb' hne⟩
theorem heap_lt_setCells (b:Nat):∀ (vs:List Value) (o:Nat) (w:World),(w.setCells b o vs).heap.size=w.heap.size
 | [],_,_=>rfl
 | v::r,o,w=>by rw [World.setCells,heap_lt_setCells b r];simp
section
variable {cs vs:List Value} {a:Nat}
theorem us_get (ha:a≤cs.length) (j:Nat):(cs.take a++vs++cs.drop a)[j]? = if j<a then cs[j]? else if j<a+vs.length then vs[j - a]? else cs[j - vs.length]? := by
 have hl:(cs.take a).length=a:=by rw [List.length_take];omega
 split
 ·rw [List.append_assoc,List.getElem?_append_left (by omega),List.getElem?_take,if_pos (by omega)]
 ·split
  ·rw [List.append_assoc,List.getElem?_append_right (by omega),List.getElem?_append_left (by omega),hl]
  ·rw [List.getElem?_append_right (by rw [List.length_append];omega),List.getElem?_drop,List.length_append,hl]
   congr 1
   omega
theorem shift_cells {w:World} {b:Nat} (ha:a≤cs.length) (hcs:∀ j v,cs[j]? = some v→w.cell? ⟨b,j,none⟩=some v) (hsp:∀ j,j<cs.length+vs.length→(w.cell? ⟨b,j,none⟩).isSome=true) (j:Nat) (v:Value) (h:(cs.take a++vs++cs.drop a)[j]? = some v) :
  ((w.setCells b (a+vs.length) (cs.drop a)).setCells b a vs).cell? ⟨b,j,none⟩=some v:=by
 rw [us_get ha] at h
 have hdl:(cs.drop a).length=cs.length - a:=List.length_drop
 have hsp1:∀ q,q<vs.length→((w.setCells b (a+vs.length) (cs.drop a)).cell? ⟨b,a+q,none⟩).isSome=true:=fun q hq=>by
  rw [World.cell?_setCells_out b _ _ _ _ (fun _ _=>by show a+q<a+vs.length∨_;omega)]
  exact hsp _ (by omega)
 split at h
 ·rw [World.cell?_setCells_out b _ _ _ _ (fun _ _=>by show j<a∨_;omega),World.cell?_setCells_out b _ _ _ _ (fun _ _=>by show j<a+vs.length∨_;omega)]
  exact hcs j v h
 ·split at h
  ·have:=World.cell?_setCells_in b vs a _ hsp1 (j - a) (by omega)
   rw [show a+(j - a)=j by omega] at this
   rw [this, ← h,List.getElem?_eq_getElem]
  ·have hj:j - vs.length<cs.length:=(List.getElem?_eq_some_iff.1 h).1
   rw [World.cell?_setCells_out b _ _ _ _ (fun _ _=>by show _∨a+vs.length≤j;omega)]
   have:=World.cell?_setCells_in b (cs.drop a) (a+vs.length) w (fun q hq=>hsp _ (by omega)) (j - (a+vs.length)) (by omega)
   rw [show a+vs.length+(j - (a+vs.length))=j by omega] at this
   rw [this, ← h, ← List.getElem?_eq_getElem,List.getElem?_drop]
   congr 1
   omega
theorem grow_cells {w w' : World} {b : Nat} (ha : a ≤ cs.length) (hcs : ∀ j v, (cs.take a)[j]? = some v → w.cell? ⟨b, j, none⟩ = some v) (hsp : ∀ j, j < cs.length + vs.length → (w.cell? ⟨b, j, none⟩).isSome = true) (hw : ∀ x, w'.cell? x = (w.setCells b a vs).cell? x) (j : Nat) (v : Value) (h : (cs.take a ++ vs ++ cs.drop a)[j]? = some v) :
    (w'.setCells b (a+vs.length) (cs.drop a)).cell? ⟨b,j,none⟩=some v:=by
  rw [us_get ha] at h
  have hdl:(cs.drop a).length=cs.length - a:=List.length_drop
  split at h
  · rw [World.cell?_setCells_out b _ _ _ _ (fun _ _=>by show j<a+vs.length∨_;omega),hw,World.cell?_setCells_out b _ _ _ _ (fun _ _=>by show j<a∨_;omega)]
    exact hcs j v (by rw [List.getElem?_take,if_pos (by omega)];exact h)
  · split at h
    · rw [World.cell?_setCells_out b _ _ _ _ (fun _ _=>by show j<a+vs.length∨_;omega),hw]
      have:=World.cell?_setCells_in b vs a w (fun q hq=>hsp _ (by omega)) (j - a) (by omega)
      rw [show a+(j - a)=j by omega] at this
      rw [this, ← h,List.getElem?_eq_getElem]
    · have hj:j - vs.length<cs.length:=(List.getElem?_eq_some_iff.1 h).1
      have:=World.cell?_setCells_in b (cs.drop a) (a+vs.length) w' (fun q hq=>by
        rw [hw,World.cell?_setCells_out b _ _ _ _ (fun _ _=>by show _∨a+vs.length≤a+vs.length+q;omega)]
        exact hsp _ (by omega)) (j - (a+vs.length)) (by omega)
      rw [show a+vs.length+(j - (a+vs.length))=j by omega] at this
      rw [this, ← h, ← List.getElem?_eq_getElem,List.getElem?_drop]
      congr 1
      omega
theorem end_cells {w:World} {b:Nat} (hcs:∀ j v,cs[j]? = some v→w.cell? ⟨b,j,none⟩=some v) (hsp:∀ j,j<cs.length+vs.length→(w.cell? ⟨b,j,none⟩).isSome=true) (j:Nat) (v:Value) (h:(cs.take cs.length++vs++cs.drop cs.length)[j]? = some v) :
  (w.setCells b cs.length vs).cell? ⟨b,j,none⟩=some v:=by
 have h1:=shift_cells (Nat.le_refl cs.length) hcs hsp j v h
 rw [List.drop_length] at h1
 exact h1
end
theorem run_overlaps_own {P : Program} (w : World) (tS tR e : TypeId) (ht : P.underlying tS = some (.slice e)) (size : Nat) (hz : ∀ w, (Go.sizeOf e).run P w = .ok size w)
    (a b:Addr) (la ca lb cb:Nat) (hne:a.block≠b.block) (tA tB:TypeId) (kA kB:Nat)
    (hsa:w.shape? a.block=some (tA,kA)) (hsb:w.shape? b.block=some (tB,kB)) (hkA:kA≠0)
    (hfb:w.frozen? b=false) (hfe:w.frozen? { block:=b.block,off:=kB }=false) :
    (Extern.SlicesOverlaps.overlaps #[tS,tS] #[tR] #[.slice (some a) la ca,.slice (some b) lb cb]).run P w = .ok (.bool false) w:=by
  have hnb:(a.block != b.block)=true:=by simpa using hne
  have hnb':(a.block==b.block)=false:=by simpa using hne
  change Sem.run P (α := Value) (do
    let some t:=(#[tS,tS]:Array TypeId)[0]? | stuck "slices.overlaps: no parameter types"
    let .slice elem ← underlying t | stuck "slices.overlaps: slice type expected"
    let size ← sizeOf elem
    match (some a:Option Addr),(some b:Option Addr) with
    | some a, some b =>
      if la=0∨lb=0∨size=0 then pure (Value.bool false)
      else if a.block != b.block && (← frozen a) && (← frozen b) then unsupported .addressObserved
      else do
        if a.block != b.block then do
          noView a;noView b
          if ← mayBeOne a b then return Value.bool ((← choose (.extern "sameAddr.stringBytes" 2))==1)
        pure (Value.bool (a.block==b.block && a.off<b.off+lb*size && b.off<a.off+la*size))
    | _,_=>pure (Value.bool false)) w=_
  by_cases h0:la=0∨lb=0∨size=0
  · simp [run_underlying ht,hz,h0]
  · cases kA with
    | zero=>exact absurd rfl hkA
    | succ kA =>
      cases hfa:w.frozen? a <;> cases hfc:w.frozen? { block:=a.block,off:=kA+1 } <;>
      simp [run_underlying ht,hz,h0,hnb,hnb',frozen,noView,viewAt,mayBeOne,stringish,shape,Sem.run,hsa,hsb,hfb,hfe,hfa,hfc]
theorem shape_of_cell {w:World} {b j:Nat} {v:Value} (h:w.cell? ⟨b,j,none⟩=some v):∃ t k,w.shape? b=some (t,k)∧k≠0:=by
  unfold World.cell? at h
  cases hq:w.heap[b]? with
  | none=>simp [hq] at h
  | some o =>
    cases o with
    | cells c e fr =>
      simp only [hq] at h
      have:=(Array.getElem?_eq_some_iff.1 (by simpa using h)).1
      exact ⟨e,c.size,by simp [World.shape?,hq],by omega⟩
    | _=>simp [hq] at h
section
variable {P:Program} {Γ : Ground} {c:Cx} {f:Nat}
theorem kill_list (hH : RelH Γ c) {z : Bool} {k : Nat} {ob : AObj} (hob : c.obj z k = some ob) {w' : World} (ho : Only c.w w' (c.μ z k)) {b cap sz : Nat} (hb : c.μ z k = some b ∨ c.w.heap.size ≤ b) (hbw : b < w'.heap.size) {xs : List (List PV)} {us : List Value} (hc : xs.length ≤ cap) (hcm : cap ≤ maxLen)
    (hR:RowsRel c sz (lift xs) us) (hcell:∀ j v,us[j]? = some v→w'.cell? ⟨b,j,none⟩=some v) :
    Evolve c (c.set z k .dead none w')∧RelH Γ (c.set z k .dead none w')∧RelV (c.set z k .dead none w') (.p (.list xs)) (.slice (some ⟨b,0,none⟩) xs.length cap):=by
  obtain ⟨hE,hH'⟩:=hH.set .dead none hob ho.size ho.tape ho.os ho.output ho.keep (fun b hb=>by cases hb) (fun m hm=>by simp [AObj.cnt] at hm) (fun _=>trivial)
  refine ⟨hE,hH', ?_⟩
  have hNX:¬ c.X b:=by
    rcases hb with h | h
    · exact (hH.live z k b h).2.2.1
    · exact fun hx=>by have:=hH.xlt b hx;omega
  have hN:(c.set z k .dead none w').N b:=⟨hNX,fun ⟨z',k',h'⟩=>by
    simp only [Cx.set] at h'
    split at h'
    · cases h'
    · rename_i hne
      rcases hb with h | h
      · exact hne (hH.inj _ _ _ _ _ h' h)
      · have:=(hH.live z' k' b h').1
        omega⟩
  have hl1:∀ i (h:i<xs.length),(xs[i]).length=sz:=fun i h=>by simpa [lift] using hR.1 i (by simpa [lift] using h)
  have hv':∀ i j (hi:i<xs.length) (hj:j<sz),∃ v,us[i*sz+j]? = some v∧v.oneCell'=true∧RelP c.w c.N (xs[i][j]'(by rw [hl1 i hi];exact hj)) v:=fun i j hi hj=>by
    obtain ⟨v,v1,v2,v3⟩:=hR.2.2 i j (by simpa [lift] using hi) (by simpa [lift,hl1 i hi] using hj)
    refine ⟨v,v1,v2, ?_⟩
    simp only [lift,List.getElem_map] at v3
    exact relV_p v3
  refine .p _ _ (.list xs b 0 cap sz (fun i j=>match us[i*sz+j]? with | some v=>if v.oneCell'=true then v else .bool true | none => .bool true) hN hbw hc hcm hl1 (fun i j hi hj => ?_) (fun i j => ?_) (fun i j hi hj => ?_))
  · obtain ⟨v,v1,v2,v3⟩:=hv' i j hi hj
    simp only [v1,v2,if_true,Nat.zero_add]
    exact hcell _ _ v1
  · split
    · split
      · assumption
      · rfl
    · rfl
  · obtain ⟨v,v1,v2,v3⟩:=hv' i j hi (by rw [hl1 i hi] at hj;exact hj)
    simp only [v1,v2,if_true]
    exact hE.relP v3
theorem RowsRel.head {sz:Nat} {xs:List (List AV)} {a:List Value} (h:RowsRel c sz xs a) (i:Nat):RowsRel c sz (xs.take i) (a.take (i*sz)):=by
 refine ⟨fun q hq => ?_, ?_,fun q j hq hj => ?_⟩
 ·rw [List.getElem_take];exact h.1 _ _
 ·rw [List.length_take,List.length_take,Nat.min_def,Nat.min_def]
  have h2:=h.2.1
  split <;> split
  ·exact Nat.le_refl _
  ·rename_i h3 h4
   have:=Nat.mul_le_mul_right sz h3
   omega
  ·rename_i h3 h4
   exact Nat.mul_le_mul_right sz (by omega)
  ·exact h2
 ·rw [List.length_take] at hq
  have hj':j<(xs[q]'(by omega)).length:=by rw [List.getElem_take] at hj;exact hj
  obtain ⟨v,v1,v2,v3⟩:=h.2.2 q j (by omega) hj'
  refine ⟨v, ?_,v2,by simp only [List.getElem_take];exact v3⟩
  rw [List.getElem?_take,if_pos (row_lt (by omega) (by rw [h.1 q (by omega)] at hj';exact hj'))]
  exact v1
theorem RowsRel.tail {sz:Nat} {xs:List (List AV)} {a:List Value} (h:RowsRel c sz xs a) (i:Nat):RowsRel c sz (xs.drop i) (a.drop (i*sz)):=by
 refine ⟨fun q hq => ?_, ?_,fun q j hq hj => ?_⟩
 ·rw [List.getElem_drop];exact h.1 _ _
 ·rw [List.length_drop,List.length_drop,Nat.sub_mul]
  have:=h.2.1
  omega
 ·rw [List.length_drop] at hq
  have hj':j<(xs[i+q]'(by omega)).length:=by rw [List.getElem_drop] at hj;exact hj
  obtain ⟨v,v1,v2,v3⟩:=h.2.2 (i+q) j (by omega) hj'
  refine ⟨v, ?_,v2,by simp only [List.getElem_drop];exact v3⟩
  rw [List.getElem?_drop, ← v1]
  congr 1
  rw [Nat.add_mul]
  omega
theorem RowsRel.ones {sz:Nat} {xs:List (List AV)} {a:List Value} (h:RowsRel c sz xs a) (h0:0<sz) (v:Value) (hv:v ∈ a.take (xs.length*sz)):v.oneCell'=true:=by
 obtain ⟨j,hj⟩:=List.getElem?_of_mem hv
 rw [List.getElem?_take] at hj
 split at hj
 ·rename_i hlt
  have h1:j / sz<xs.length:=by rw [Nat.div_lt_iff_lt_mul h0];exact hlt
  obtain ⟨u,u1,u2,u3⟩:=h.2.2 (j / sz) (j % sz) h1 (by rw [h.1 _ h1];exact Nat.mod_lt _ h0)
  rw [Nat.mul_comm,Nat.div_add_mod,hj] at u1
  cases u1
  exact u2
 ·cases hj
theorem lift_append (a b:List (List PV)):lift (a++b)=lift a++lift b:=by simp [lift]
theorem lift_take (a:List (List PV)) (i:Nat):lift (a.take i)=(lift a).take i:=by simp [lift]
theorem lift_drop (a:List (List PV)) (i:Nat):lift (a.drop i)=(lift a).drop i:=by simp [lift]
theorem lift_length (a:List (List PV)):(lift a).length=a.length:=by simp [lift]
def InsSpec (P : Program) (f sz : Nat) : Prop := ∀ (A : Option Addr) (n cp i vb voff m vc : Nat) (cs vs : List Value) (w : World), i ≤ n → 0 < m → n ≤ cp → cp ≤ maxLen → (n + m) * 4096 ≤ 140737488355328 → cs.length = n * sz → vs.length = m * sz → (∀ v ∈ cs, v.oneCell' = true) → (∀ v ∈ vs, v.oneCell' = true) →
  ((A=none∧n=0∧cp=0)∨∃ (b:Nat) (arr:Array Value) (e:TypeId),A=some ⟨b,0,none⟩∧vb≠b∧w.heap[b]? = some (.cells arr e (0,0))∧arr.size=cp*sz∧∀ (j:Nat) (v:Value),cs[j]? = some v→arr[j]? = some v) →
  (∀ (j:Nat) (v:Value),vs[j]? = some v→w.cell? ⟨vb,voff+j,none⟩=some v) →
  Calls P f #[.slice A n cp,.int .i64 i,.slice (some ⟨vb,voff,none⟩) m vc] w fun e w'=>∃ B cap,e = .returned (.slice (some ⟨B,0,none⟩) (n+m) cap)∧n+m≤cap∧cap≤maxLen∧((∃ a,A=some a∧a.block=B)∨w.heap.size≤B)∧B<w'.heap.size∧Only w w' (A.map (·.block)) ∧
    ∀ (j:Nat) (v:Value),(cs.take (i*sz)++vs++cs.drop (i*sz))[j]? = some v→w'.cell? ⟨B,j,none⟩=some v
def pInsert (sz : Nat) (C : Calls') : List AV → List AObj → Option (AV × List AObj)
  | [.own true k n, .p (.int .i64 i), .p (.list vs)], g => match g[k]? with
    | some (.pcells s xs)=>if s=sz∧xs.length=n∧(vs.all fun v=>v.length==sz)=true∧0<vs.length∧0≤i∧i≤n∧(n+vs.length)*4096≤140737488355328 then some (.p (.list (xs.take i.toNat++vs++xs.drop i.toNat)),g.set k .dead) else none
    | _=>none
  | _,_=>none
theorem gOk_dead {g:List AObj} (h:gOk g) (k:Nat):gOk (g.set k .dead):=by
 intro ob hob
 rcases List.mem_or_eq_of_mem_set hob with h1 | h1
 ·exact h ob h1
 ·subst h1;rfl
theorem pInsert_ok {sz : Nat} (hcal : calleeOk P f = true) (h0 : 0 < sz) (hI : InsSpec P f sz) : PrimOk P Γ f (pInsert sz) := by
  intro C hC args g r g' hp hno hgo
  unfold pInsert at hp
  split at hp
  rotate_left
  · cases hp
  rename_i k n i vs
  split at hp
  rotate_left
  · cases hp
  rename_i s2 xs hg1
  split at hp
  rotate_left
  · cases hp
  rename_i hcond
  obtain ⟨rfl,rfl,hall,hm,hi0,hin,hbig⟩:=hcond
  simp only [Option.some.injEq,Prod.mk.injEq] at hp
  obtain ⟨rfl,rfl⟩:=hp
  refine ⟨hcal,gOk_dead hgo k,rfl,fun c us hl hgc hH hlen hrel => ?_⟩
  match us,hlen with
  | [u1,u2,u3],_=>
  subst hgc
  have r1:=hrel 0 (by simp) (by simp)
  have e2:=relV_int (hrel 1 (by simp) (by simp))
  have r3:=hrel 2 (by simp) (by simp)
  simp only [List.getElem_cons_zero,List.getElem_cons_succ] at r1 e2 r3
  subst e2
  have ho1:c.obj true k=some (.pcells s2 xs):=hg1
  obtain ⟨A,cap,rfl,hrow⟩:=row_now r1 ho1 rfl
  have hl2:(lift vs).length=vs.length:=by simp [lift]
  have hall':∀ i (h:i<(lift vs).length),((lift vs)[i]).length=s2:=fun i h=>by
    have:=all_len hall i (by simpa [lift] using h)
    simpa [lift] using this
  obtain ⟨b2,off2,cap2,f2,rfl,hN2,h6,h7,h8⟩:∃ (b2 off2 cap2:Nat) (f2:Nat→Nat→Value),u3 = .slice (some ⟨b2,off2,none⟩) vs.length cap2∧c.N b2∧(∀ i j,i<vs.length→j<s2→c.w.cell? ⟨b2,off2+(i*s2+j),none⟩=some (f2 i j))∧(∀ i j,(f2 i j).oneCell'=true) ∧
      (∀ i j (hi:i<(lift vs).length) (hj:j<((lift vs)[i]).length),RelV c ((lift vs)[i][j]) (f2 i j)):=by
    obtain ⟨A3,cap3,rfl,_,_,q3⟩:=relP_list (relV_p r3)
    obtain ⟨b,off,sz',f,rfl,h1,h2,h5,h6,h7,h8⟩:=q3 hm
    have e1:sz'=s2:=by rw [← h5 0 (by omega)];have:=hall' 0 (by omega);simpa [lift] using this
    subst e1
    refine ⟨b,off,cap3,f,rfl,h1,h6,h7,fun i j hi hj => ?_⟩
    simp only [lift,List.getElem_map] at hj ⊢
    exact .p _ _ (h8 i j (by simpa [lift] using hi) (by simpa using hj))
  have hV2:(laid vs.length s2 f2).length=vs.length*s2:=by simp [laid]
  have hRv:RowsRel c s2 (lift vs) (laid vs.length s2 f2):=⟨hall',by rw [hl2,hV2];exact Nat.le_refl _,fun i j hi hj=>⟨f2 i j,laid_get (by omega) (by rw [hall' i hi] at hj;exact hj),h7 i j,h8 i j hi hj⟩⟩
  have one2:∀ v ∈ laid vs.length s2 f2,v.oneCell'=true:=fun v hv=>by
    simp only [laid,List.mem_map] at hv
    obtain ⟨q,_,rfl⟩:=hv
    exact h7 _ _
  have hV:∀ (j:Nat) (v:Value),(laid vs.length s2 f2)[j]? = some v→c.w.cell? ⟨b2,off2+j,none⟩=some v:=fun j v hj=>by
    have hlt:j<vs.length*s2:=by rw [← hV2];exact (List.getElem?_eq_some_iff.1 hj).1
    simp only [laid,List.getElem?_map] at hj
    rw [List.getElem?_range hlt] at hj
    simp only [Option.map_some,Option.some.injEq] at hj
    subst hj
    have:=h6 (j / s2) (j % s2) (by rw [Nat.div_lt_iff_lt_mul h0];exact hlt) (Nat.mod_lt _ h0)
    rw [Nat.mul_comm,Nat.div_add_mod] at this
    exact this
  have fin:∀ (A:Option Addr) (cs:List Value),cs.length=xs.length*s2→RowsRel c s2 (lift xs) cs→A.map (·.block)=c.μ true k→Calls P f #[.slice A xs.length cap,.int .i64 (i.toNat:Nat),.slice (some ⟨b2,off2,none⟩) vs.length cap2] c.w (fun e w'=>∃ B cap,e = .returned (.slice (some ⟨B,0,none⟩) (xs.length+vs.length) cap)∧xs.length+vs.length≤cap∧cap≤maxLen∧((∃ a,A=some a∧a.block=B)∨c.w.heap.size≤B)∧B<w'.heap.size∧Only c.w w' (A.map (·.block)) ∧
    ∀ j v,(cs.take (i.toNat*s2)++laid vs.length s2 f2++cs.drop (i.toNat*s2))[j]? = some v→w'.cell? ⟨B,j,none⟩=some v) →
    Calls P f #[.slice A xs.length cap,.int .i64 i,.slice (some ⟨b2,off2,none⟩) vs.length cap2] c.w (fun e w'=>∃ v,e = .returned v∧Ans Γ c [] (c.g.set k .dead) (.p (.list (xs.take i.toNat++vs++xs.drop i.toNat))) v w'):=by
    intro A cs hcl hR hA hc
    have hii:((i.toNat:Nat):Int)=i:=by omega
    rw [hii] at hc
    refine Calls.mono hc (fun e w' he => ?_)
    obtain ⟨B,cap',rfl,q1,q2,q3,q4,q5,q6⟩:=he
    have hlen:(xs.take i.toNat++vs++xs.drop i.toNat).length=xs.length+vs.length:=by
      simp only [List.length_append,List.length_take,List.length_drop]
      omega
    have hmul:i.toNat*s2≤xs.length*s2:=Nat.mul_le_mul_right _ (by omega)
    have hall:RowsRel c s2 (lift (xs.take i.toNat++vs++xs.drop i.toNat)) (cs.take (i.toNat*s2)++laid vs.length s2 f2++cs.drop (i.toNat*s2)):=by
      rw [lift_append,lift_append,lift_take,lift_drop]
      have a1:(cs.take (i.toNat*s2)).length=((lift xs).take i.toNat).length*s2:=by
        rw [List.length_take,List.length_take,lift_length,hcl,Nat.min_eq_left hmul,Nat.min_eq_left (by omega)]
      refine RowsRel.append (RowsRel.append (hR.head _) a1 hRv) ?_ (hR.tail _)
      rw [List.length_append,List.length_append,Nat.add_mul,a1,hV2,hl2]
    have hb:c.μ true k=some B∨c.w.heap.size≤B:=by
      rcases q3 with ⟨a,e,rfl⟩ | h
      · rw [← hA,e];exact .inl rfl
      · exact .inr h
    obtain ⟨t1,t2,t3⟩:=kill_list hH ho1 (by rw [← hA];exact q5) hb q4 (by rw [hlen];exact q1) q2 hall q6
    rw [hlen] at t3
    exact ⟨_,rfl,c.set true k .dead none w',by simpa [Cx.set] using hl,by simp [Cx.set],rfl,t1,t2,t3⟩
  rcases hrow with ⟨q0,h0',rfl,rfl⟩ | ⟨b,arr,e,q1,rfl,q3,q4,q5,q6⟩
  · have hx:xs=[]:=List.eq_nil_of_length_eq_zero h0'
    subst hx
    refine fin none [] (by simp) ⟨by simp [lift],by simp [lift],fun i j hi=>by simp [lift] at hi⟩ (by rw [q0];rfl) ?_
    exact hI none 0 0 i.toNat b2 off2 vs.length cap2 [] _ c.w (by simp at hin;omega) hm (Nat.le_refl _) (by simp [maxLen]) hbig (by simp) hV2 (by simp) one2 (.inl ⟨rfl,rfl,rfl⟩) hV
  · have hR1:RelRow c (c.μ true k) s2 (lift xs):=hH.objs true k _ ho1
    rw [q1] at hR1
    obtain ⟨arr',e',hh,hrows⟩:=relRow_rows hR1
    rw [q5] at hh
    cases hh
    have hlx:(lift xs).length=xs.length:=by simp [lift]
    have hCl:(arr.toList.take (xs.length*s2)).length=xs.length*s2:=by
      have:=hrows.2.1
      rw [hlx] at this
      rw [List.length_take]
      omega
    have hRx:=hrows.take
    rw [hlx] at hRx
    have one1:=hrows.ones h0
    rw [hlx] at one1
    refine fin (some ⟨b,0,none⟩) (arr.toList.take (xs.length*s2)) hCl hRx (by rw [q1];rfl) ?_
    exact hI _ xs.length cap i.toNat b2 off2 vs.length cap2 _ _ c.w (by omega) hm q3 q4 hbig hCl hV2 one1 one2 (.inr ⟨b,arr,_,rfl,fun e=>by
      subst e
      exact hN2.2 ⟨true,k,q1⟩,q5,by simpa [AObj.sz] using q6,fun j v hj=>by
      rw [List.getElem?_take] at hj
      split at hj
      · simpa using hj
      · cases hj⟩) hV
def thaw : AV → List AObj → Option (AV × List AObj)
  | .nils,g=>some (.p (.list []),g)
  | .own true k n, g => match g[k]? with
    | some (.pcells _ xs)=>if xs.length=n then some (.p (.list xs),g.set k .dead) else none
    | _=>none
  | v,g=>some (v,g)
def pCloneT (sz:Nat) (C:Calls'):List AV→List AObj→Option (AV × List AObj)
 | [a],g=>bk (thaw a g) fun x=>pClone sz C [x.1] x.2
 | _,_=>none
theorem pCloneT_ok {sz:Nat} (h:PrimOk P Γ f (pClone sz)):PrimOk P Γ f (pCloneT sz):=by
 intro C hC args g r g' hp hno hgo
 unfold pCloneT at hp
 split at hp
 rotate_left
 ·cases hp
 rename_i a
 obtain ⟨⟨a',g1⟩,h1,h2⟩:=bk_eq hp
 unfold thaw at h1
 split at h1
 ·simp only [Option.some.injEq,Prod.mk.injEq] at h1
  obtain ⟨rfl,rfl⟩:=h1
  obtain ⟨q1,q2,q3,q4⟩:=h C hC _ _ r g' h2 rfl hgo
  refine ⟨q1,q2,q3,fun c vs hl hg hH hlen hrel=>q4 c vs hl hg hH hlen (fun j hj h' => ?_)⟩
  have hj0:j=0:=by simp at hj;omega
  subst hj0
  have hr:=hrel 0 (by simp) h'
  simp only [List.getElem_cons_zero] at hr ⊢
  generalize vs[0]=v at hr
  cases hr
  exact .p _ _ (.none none 0 (by simp [maxLen]))
 ·rename_i k n
  split at h1
  rotate_left
  ·cases h1
  rename_i s xs hob
  split at h1
  rotate_left
  ·cases h1
  rename_i hn
  simp only [Option.some.injEq,Prod.mk.injEq] at h1
  obtain ⟨rfl,rfl⟩:=h1
  subst hn
  obtain ⟨q1,q2,q3,q4⟩:=h C hC _ _ r g' h2 rfl (gOk_dead hgo k)
  refine ⟨q1,q2,q3,fun c vs hl hg hH hlen hrel => ?_⟩
  subst hg
  have hob1:c.obj true k=some (.pcells s xs):=hob
  have h0:0<vs.length:=by rw [← hlen];simp
  have hr:=hrel 0 (by simp) h0
  simp only [List.getElem_cons_zero] at hr
  obtain ⟨t1,t2,t3⟩:=freeze_rel hH hob1 hr
  refine Calls.mono (q4 (c.set true k .dead none c.w) vs (by simpa [Cx.set] using hl) (by simp [Cx.set]) t2 hlen (fun j hj h' => ?_)) (fun e w' he => ?_)
  ·have hj0:j=0:=by simp at hj;omega
   subst hj0
   exact .p _ _ t3
  ·obtain ⟨v,rfl,c',e1,e2,e3,hE,hH',hv⟩:=he
   exact ⟨v,rfl,c',e1,e2,e3,t1.trans hE,hH',hv⟩
 ·simp only [Option.some.injEq,Prod.mk.injEq] at h1
  obtain ⟨rfl,rfl⟩:=h1
  exact h C hC _ _ r g' h2 hno hgo
end
end Go.TA


end
section
/- slices.Clone of a row of one's own, which goes on. -/
namespace Go.TA
def pCloneR (sz : Nat) (C : Calls') : List AV → List AObj → Option (AV × List AObj)
  | [.own true k n], g => match g[k]? with
    | some (.pcells s xs)=>if s=sz∧n=xs.length∧xs.length*4096≤140737488355328∧(xs.all fun x=>x.length==sz)=true then some (.own true g.length xs.length,g++[.pcells sz xs]) else none
    | _=>none
  | _,_=>none
def pCloneU (sz:Nat) (C:Calls'):List AV→List AObj→Option (AV × List AObj)
 | [.own true k n],g=>pCloneR sz C [.own true k n] g
 | as,g=>pCloneT sz C as g
theorem aexec_bodyR {C:Calls'} {N sz bytes k:Nat} {xs:List (List PV)} {fr:List (Nat × AV)} {g:List AObj} (h0:lk fr 0=some (.own true k xs.length)) (hob:g[k]? = some (.pcells sz xs)) (hb:bytes≤4096) (hn:xs.length*4096≤140737488355328) (h3:(xs.all fun y=>y.length==sz)=true) :
  aexec C N (cloneBody sz bytes) ⟨fr,[],g⟩=some (.ret,⟨[(2,.own true g.length xs.length)],[],g++[.pcells sz xs]⟩):=by
 have h1:xs.length*bytes≤140737488355328:=Nat.le_trans (Nat.mul_le_mul_left _ hb) hn
 have h2:xs.length≤140737488355328:=by omega
 have h4:∀ x,x ∈ xs→x.length=sz:=by simpa using h3
 have hkl:k<g.length:=(List.getElem?_eq_some_iff.1 hob).1
 have h5:∀ X:AObj,(g++[X])[k]? = some (.pcells sz xs):=fun X=>by rw [List.getElem?_append_left hkl];exact hob
 simp [cloneBody,aexec,runOps,stepOp,be,evalOp,putK,opt',St.set,St.arg,St.get,lk,cellsAll,sameLen,okFor,St.newObj,objOf,puress,h0,h5,orBot,St.obj,St.putObj,appendTo,asLit,h1,h2,bk,bn,bn',St.keep,pickL,thenK,mentions]
 rw [if_pos h4]
 simp [putK,opt',St.set,lk,mentions]
 rfl
section
variable {P:Program} {Γ : Ground} {f:Nat}
theorem pCloneR_ok (hm:P.follows .mixedOrders=true) {sz bytes:Nat} (hB:cloneB P f sz bytes=true):PrimOk P Γ f (pCloneR sz):=by
  intro C hC args g r g' hp hno hgo
  unfold pCloneR at hp
  split at hp
  rotate_left
  · cases hp
  rename_i k0 n0
  split at hp
  rotate_left
  · cases hp
  rename_i s0 xs hob
  split at hp
  rotate_left
  · cases hp
  rename_i hcond
  obtain ⟨hs0,rfl,hn,hsz⟩:=hcond
  rw [hs0] at hob
  clear hs0
  simp only [Option.some.injEq,Prod.mk.injEq] at hp
  obtain ⟨rfl,rfl⟩:=hp
  simp only [cloneB,Bool.and_eq_true,decide_eq_true_eq,bne_iff_ne,ne_eq] at hB
  obtain ⟨⟨⟨hcal,hbytes⟩,hsz0⟩,hB⟩:=hB
  split at hB
  rotate_left
  · cases hB
  rename_i fn hfn
  split at hB
  rotate_left
  · cases hB
  rename_i body hbody
  simp only [Bool.and_eq_true,beq_iff_eq] at hB
  obtain ⟨⟨hnt,hres⟩,hit⟩:=hB
  unfold cloneItems at hit
  split at hit
  rotate_left
  · cases hit
  rename_i i0 o0 i1 o1 ca cb i3 o3 hitems
  simp only [Bool.and_eq_true,List.isEmpty_iff] at hit
  obtain ⟨⟨⟨⟨hc0,hc1⟩,hc2⟩,hcb⟩,hc3⟩:=hit
  split at hc1
  rotate_left
  · cases hc1
  rename_i x y hxy
  simp only [Bool.and_eq_true] at hc1
  obtain ⟨hx,hy⟩:=hc1
  have hgo':gOk (g++[.pcells sz xs]):=by
    intro ob hob
    exact gOk_new (s:=⟨[],[],g⟩) (z:=true) (k:=0) (k':=g.length) (s':=⟨[],[],g++[.pcells sz xs]⟩) hgo rfl (fun _=>rfl) ob hob
  refine ⟨hcal,hgo',rfl,fun c vs hl hgc hH hlen hrel => ?_⟩
  match vs,hlen with
  | [v],_=>
  subst hgc
  refine calls_of_wp hfn hbody ?_
  have hg0:=body_good (c:=c) (args:=[.own true k0 xs.length]) (vs:=[v]) (np:=1) (nt:=fn.ntmps) rfl hrel hH hl hgo rfl
  rw [hnt] at hg0 ⊢
  have hmax:max 1 8=8:=rfl
  rw [hmax] at hg0
  refine wp_of_wpL ?_
  rw [hitems]
  have fin:∀ {c':Cx} {s':St} {a':Act},Good Γ c' s' a' 8→Evo c c'→s'.get 2 = .own true c.g.length xs.length→s'.g=c.g++[.pcells sz xs]→bodyPost P fn (fun e w'=>∃ v,e = .returned v∧Ans Γ c [] (c.g++[.pcells sz xs]) (.own true c.g.length xs.length) v w') .ret a' c'.w:=by
    intro c' s' a' hg' hE hav hsg
    obtain ⟨us,hrun,hl1,hl2⟩:=results_rel (C:=C) (vs:=[s'.get 2]) hg' hres rfl
    refine ⟨hg'.D,_,hrun,_,rfl, ?_⟩
    match us,hl1 with
    | [u],_=>
    have hu:RelV c' (.own true c.g.length xs.length) u:=by rw [← hav];exact hl2 0 (by simp) (by simp)
    have hs:∀ k o,lk ([]:List (Nat × AObj)) k=some o→lk c'.l k=some o:=fun k o h=>by simp [lk] at h
    have hgs:c'.g=c.g++[.pcells sz xs]:=by rw [← hg'.g,hsg]
    refine ⟨c'.drop [],rfl,hgs,rfl,(hE.trans evo_drop).evolve hl,relH_drop hg'.H hs (by rw [hgs];exact hgo') (fun e h=>by simp at h), ?_⟩
    exact relV_drop hs hu (noLocal_mentions _ rfl)
  have hent:enterSt [.own true k0 xs.length] c.g=⟨[(0,.own true k0 xs.length)],[],c.g⟩:=rfl
  rw [hent] at hg0
  have h0:=aexec_rel (C:=C) (N:=9) hm hC cloneHead hc0 hg0 (aexec_head (a:=.own true k0 xs.length) rfl rfl) (Q:=Exit.then (wpL P (bodyPost P fn fun e w'=>∃ v,e = .returned v∧Ans Γ c [] (c.g++[.pcells sz xs]) (.own true c.g.length xs.length) v w') [.region i1 o1 false,.cond (.tmp 4) ca cb,.region i3 o3 false,.ret]) (bodyPost P fn fun e w'=>∃ v,e = .returned v∧Ans Γ c [] (c.g++[.pcells sz xs]) (.own true c.g.length xs.length) v w')) (fun c1 a1 hg1 hE1 => ?_)
  · exact of_wpL_one h0
  simp only [toExit,Exit.then]
  show (Code.region i1 o1 false).wp P _ a1 c1.w
  refine wp_region_list ?_
  rw [hxy]
  have hs1:stepOp C cloneTest ⟨[(0,.own true k0 xs.length)],[],c.g⟩=some ⟨[(3,.own true k0 xs.length),(0,.own true k0 xs.length)],[],c.g⟩:=rfl
  have hg1':Good Γ c1 ⟨[(0,.own true k0 xs.length)],[],c.g⟩ a1 8:=hg1
  have st:=step_rel (Q:=Exit.then (wpL P (bodyPost P fn fun e w'=>∃ v,e = .returned v∧Ans Γ c [] (c.g++[.pcells sz xs]) (.own true c.g.length xs.length) v w') [.cond (.tmp 4) ca cb,.region i3 o3 false,.ret]) (bodyPost P fn fun e w'=>∃ v,e = .returned v∧Ans Γ c [] (c.g++[.pcells sz xs]) (.own true c.g.length xs.length) v w'))
    (K:=wpList P o1 (Exit.then (wpL P (bodyPost P fn fun e w'=>∃ v,e = .returned v∧Ans Γ c [] (c.g++[.pcells sz xs]) (.own true c.g.length xs.length) v w') [.cond (.tmp 4) ca cb,.region i3 o3 false,.ret]) (bodyPost P fn fun e w'=>∃ v,e = .returned v∧Ans Γ c [] (c.g++[.pcells sz xs]) (.own true c.g.length xs.length) v w')) [y]) hC hg1' hx hs1 (fun c2 a2 hg2 hE2 => ?_)
  · unfold wpList
    split
    · rename_i hw;rw [if_pos hw] at st;exact .inl st
    · rename_i hw;rw [if_neg hw] at st;exact st
  unfold cloneEqB at hy
  split at hy
  rotate_left
  · cases hy
  rename_i t t' hop
  simp only [Bool.and_eq_true,beq_iff_eq,Option.isNone_iff_eq_none] at hy
  obtain ⟨⟨heq,hdst⟩,hguard⟩:=hy
  have h3v:=hg2.F 3
  have:(⟨[(3,.own true k0 xs.length),(0,.own true k0 xs.length)],[],c.g⟩:St).get 3 = .own true k0 xs.length:=rfl
  rw [this] at h3v
  have hoc:c2.obj true k0=some (.pcells sz xs):=by
    have e:=hg2.g
    show c2.g[k0]? = _
    rw [← e];exact hob
  obtain ⟨A,cap,hval,hrow⟩:=row_now h3v hoc rfl
  have ht:=(tells_nil (P:=P) (w:=c2.w) (t:=t) (k:=.sl) heq (.inl ⟨rfl,A,xs.length,cap,rfl,rfl⟩) (.tmp 3) (.const (.slice none 0 0))).1
  have hdo:Does P a2.eval y c2.w (Ans Γ c2 [] c.g (.p (.bool A.isNone))):=by
    have e3:a2.eval (.tmp 3) = .slice A xs.length cap:=hval
    refine Does.value (v:=.bool A.isNone) (w':=c2.w) ?_ ⟨c2,hg2.l.symm,hg2.g.symm,rfl,Evolve.refl c2,hg2.H,rBool _⟩
    obtain ⟨z1,z2,z3⟩:=ht
    have e4:a2.eval (.const (.slice none 0 0)) = .slice none 0 0:=rfl
    simp only [execOp,hop,e3,e4,Sem.run_bind,z3,Result.andThen_ok,z1]
    rfl
  have hw:Region.wanted y (yielded o1 a2.tmps)=true:=by simp [Region.wanted,hguard]
  unfold wpList
  rw [if_pos hw]
  refine .inl (Does.wp hdo (fun v' w' hR => ?_))
  obtain ⟨c3,p1,p2,rfl,hE3,hH3,hv3⟩:=hR
  have hg3:=good_put hg2 (s':=⟨[(3,.own true k0 xs.length),(0,.own true k0 xs.length)],[],c.g⟩) (dst:=some 4) hE3 hH3 p1 p2 rfl hg2.G rfl hv3
  rw [hdst]
  simp only [wpList,Exit.then]
  have hg3':Good Γ c3 ⟨[(4,.p (.bool A.isNone)),(3,.own true k0 xs.length),(0,.own true k0 xs.length)],[],c.g⟩ (a2.put (some 4) v') 8:=hg3
  have hEvo:Evo c c3:=hE1.trans (hE2.trans hE3).evo
  have h4v:=hg3'.F 4
  have:(⟨[(4,.p (.bool A.isNone)),(3,.own true k0 xs.length),(0,.own true k0 xs.length)],[],c.g⟩:St).get 4 = .p (.bool A.isNone):=rfl
  rw [this] at h4v
  show (Code.cond (.tmp 4) ca cb).wp P _ _ c3.w
  refine wp_cond (t:=A.isNone) (relV_bool h4v) ?_
  cases hA:A.isNone with
  | true =>
    simp only [if_true]
    have hx0:xs=[]:=by
      rcases hrow with ⟨_,h0,_,_⟩ | ⟨b,_,_,_,e,_⟩
      · exact List.eq_nil_of_length_eq_zero h0
      · rw [e] at hA;cases hA
    subst hx0
    refine wp_of_wpL (aexec_rel (C:=C) (N:=9) hm hC (cloneNil sz) hc2 hg3' aexec_nil (fun c4 a4 hg4 hE4 => ?_))
    simp only [toExit,Exit.then]
    exact fin hg4 (hEvo.trans hE4) rfl rfl
  | false =>
    simp only [Bool.false_eq_true,if_false]
    refine wp_of_wpL ?_
    rw [hcb]
    show wpL P (bodyPost P fn fun e w'=>∃ v,e = .returned v∧Ans Γ c [] (c.g++[.pcells sz xs]) (.own true c.g.length xs.length) v w') [.region i3 o3 false,.ret] _ c3.w
    refine aexec_rel (C:=C) (N:=9) hm hC (cloneBody sz bytes) hc3 hg3' (aexec_bodyR rfl hob hbytes hn hsz) (fun c4 a4 hg4 hE4 => ?_)
    exact fin hg4 (hEvo.trans hE4) rfl rfl
theorem pCloneU_ok (hm:P.follows .mixedOrders=true) {sz bytes:Nat} (hB:cloneB P f sz bytes=true):PrimOk P Γ f (pCloneU sz):=by
 intro C hC args g r g' hp hno hgo
 unfold pCloneU at hp
 split at hp
 ·exact pCloneR_ok hm hB C hC _ _ r g' hp hno hgo
 ·exact pCloneT_ok (pClone_ok hm hB) C hC _ _ r g' hp hno hgo
end
end Go.TA


end
section
/- strconv.Itoa, told at once. -/
namespace Go.TA
open Go.RowKit Go.Sort
def ΓW (P : Program) (W : World) : Ground where
  B:=W.heap.size
  holds w:=W.heap.size≤w.heap.size∧∃ g,P.globalNamed "internal/strconv.uint64pow10" = some g∧g<W.heap.size∧Lib.TabIs P w "internal/strconv.uint64pow10" .u64 Lib.pow10Tab
  lt w h:=h.1
  keep w w' h hb hs:=by
    obtain ⟨h1,g,hg,hlt,ht⟩:=h
    refine ⟨Nat.le_trans h1 hs,g,hg,hlt, ?_⟩
    unfold Lib.TabIs World.var? at *
    rw [hg] at *
    simp only [Option.bind_some] at *
    rw [hb g hlt]
    exact ht
theorem ΓW_tab {P:Program} {W:World} (w:World) (h:(ΓW P W).holds w):Lib.TabIs P w "internal/strconv.uint64pow10" .u64 Lib.pow10Tab:=by
 obtain ⟨_,_,_,_,h⟩:=h
 exact h
theorem ΓW_holds {P:Program} {W:World} (h:Lib.TabIs P W "internal/strconv.uint64pow10" .u64 Lib.pow10Tab):(ΓW P W).holds W:=by
 refine ⟨Nat.le_refl _, ?_⟩
 have h':=h
 unfold Lib.TabIs World.var? at h'
 obtain ⟨g,hg,h2⟩:=Option.bind_eq_some_iff.1 h'
 refine ⟨g,hg, ?_,h⟩
 rcases Nat.lt_or_ge g W.heap.size with hlt | hge
 ·exact hlt
 ·rw [Array.getElem?_eq_none hge] at h2
  cases h2
def pItoa (C:Calls'):List AV→List AObj→Option (AV × List AObj)
 | [.p (.int .i64 n)],g=>if -9223372036854775808≤n∧n≤9223372036854775807 then some (.p (.str (Lib.itoa n)),g) else none
 | _,_=>none
section
variable {P:Program} {Γ : Ground} {f:Nat}
theorem pItoa_ok (hcal:calleeOk P f=true) (hΓ : ∀ w, Γ.holds w→Lib.TabIs P w "internal/strconv.uint64pow10" .u64 Lib.pow10Tab)
  (h:∀ (n:Int) (w:World), -9223372036854775808≤n→n≤9223372036854775807→Lib.TabIs P w "internal/strconv.uint64pow10" .u64 Lib.pow10Tab→Calls P f #[.int .i64 n] w fun e w'=>e = .returned (.string ⟨(Lib.itoa n).toArray⟩)∧∃ k os,w'=grow (w.drewN k) os):PrimOk P Γ f pItoa:=by
 intro C hC args g r g' hp hno hgo
 unfold pItoa at hp
 split at hp
 ·rename_i n
  split at hp
  ·rename_i hn
   simp only [Option.some.injEq,Prod.mk.injEq] at hp
   obtain ⟨rfl,rfl⟩:=hp
   refine ⟨hcal,hgo,rfl,fun c vs hl hgc hH hlen hrel => ?_⟩
   match vs,hlen with
   | [v],_=>
   have e1:=relV_int (hrel 0 (by simp) (by simp))
   simp only [List.getElem_cons_zero] at e1
   subst e1
   refine Calls.mono (h n c.w hn.1 hn.2 (hΓ _ hH.ground)) (fun e w' he => ?_)
   obtain ⟨rfl,k,os,rfl⟩:=he
   have hbel:Go.RowKit.Below c.w.heap.size c.w (grow (c.w.drewN k) os):=Lib.below_grow _ _ (Nat.le_refl _) k os
   exact ⟨_,rfl,{ c with w:=grow (c.w.drewN k) os },hl,hgc,rfl,evolve_below hbel hH.lt,hH.below hbel,.p _ _ (.str _)⟩
  ·cases hp
 ·cases hp
end
end Go.TA


end
