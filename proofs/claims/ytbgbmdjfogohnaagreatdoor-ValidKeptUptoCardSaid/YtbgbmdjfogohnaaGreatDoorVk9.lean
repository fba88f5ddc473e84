/- Part 9 of 15 of a proof; joined from VkpLow1, PrimD, PrimI, InsInt. slices.Insert at int: its roads, and what it is. -/
import Derived.Test.YtbgbmdjfogohnaaGreatDoorVk6
import Derived.Test.YtbgbmdjfogohnaaGreatDoorProg
import Derived.Test.YtbgbmdjfogohnaaGreatDoorVk7
import Derived.Lib.ItoaNum
import Derived.Lib.LaidTab
import Derived.Lib.AppendIntMem
import Derived.Shelf.Spec.SlicesInsert
import Derived.Shelf.Spec.SlicesInsertGrow
set_option linter.unusedSimpArgs false
set_option linter.unusedVariables false
set_option linter.defProp false
set_option maxRecDepth 100000
set_option maxHeartbeats 8000000
section
/- Functions of the program, lowered: each is held against the program's own text by the kernel. -/
namespace Go.TA.Tryz
def F143:LFunc:={ nparams:=3,results:=[.tmp 6],pure:=false,body :=
 (.seq (rN [
 oN 6 (.move (iC 0)) 0] [0,1,2]) (.seq (rN [
 oM 8 0 0,oM 9 1 1,oN 10 (.call 130 [(.t 8,.as),(.t 9,.as)]) 2,oM 7 10 3] [0,1,2,7]) (.seq (rN [
 oM 11 7 0,oN 12 (.eq .i true (.t 11) (iC 0)) 1] [0,1,2,7,12]) (.seq (.cond (.t 12) (.seq (rN [
 oM 13 7 0,oM 6 13 1] [6]) (kB [6] .ret)) (kS [0,1,2])) (kB [0,1,2] (.seq (rN [
 oM 14 2 0,oN 15 (.len 0 (.t 14)) 1,oN 16 (.bin .gtr (.t 15) (iC 65536)) 2] [0,1,2,16]) (.seq (.cond (.t 16) (.seq (rN [
 oN 6 (.move (iC 3)) 0] [6]) (kB [6] .ret)) (kS [0,1,2])) (kB [0,1,2] (.seq (.draw [
 oM 17 0 0,oN 18 (.nilCheck (.t 17)) 1,oN 19 (fA 0 18) 2,oN 20 (lD 19) 3,oM 21 0 4,oM 22 1 5,oM 24 2 7,⟨some 23,.call 131 [(.t 21,.as),(.t 22,.as)],none,6,[3]⟩,oN 25 (.indexAddr 7 (.t 20) (.t 23)) 8,oN 26 (fA 5 25) 9,⟨none,.store 1 false (.t 26) (.t 24),none,10,[]⟩] [] []) (.seq (rN [
 oN 6 (.move (iC 0)) 0] [6]) (kB [6] .ret))))))))))) }
theorem ok143:fnSoundB Go.Proofs.Tryz.prog 143 F143=true:=by decide +kernel
def F144:LFunc:={ nparams:=2,results:=[.tmp 4],pure:=false,body :=
 (.seq (.region [
 oN 3 (.box false 3 (.t 1)) 0,oN 4 (.move (iC 0)) 1] false [0,3] [3]) (.seq (.region [
 oN 8 (.load 9 true (.t 3)) 0,oN 9 (.pcall 18 [(.t 8,.as)]) 1,oM 5 9 2] false [0,3,5] [3]) (.seq (.region [
 oM 10 5 0,oN 11 (.eq .i true (.t 10) (iC 0)) 1] false [0,3,5,11] [3]) (.seq (.cond (.t 11) (.seq (rN [
 oM 12 5 0,oM 4 12 1] [4]) (kB [4] .ret)) (.keep [0,3] [3] .skip)) (.keep [0,3] [3] (.seq (rN [
 oM 14 0 0,oN 15 (.load 9 true (.t 3)) 1,oN 16 (.call 81 [(.t 14,.as),(.t 15,.as)]) 2,oM 13 16 3,oN 17 (.extract (.t 13) 0) 4,oN 18 (.extract (.t 13) 1) 5,oM 6 17 6,oM 7 18 7] [7]) (.seq (rN [
 oM 19 7 0,oM 4 19 1] [4]) (kB [4] .ret)))))))) }
theorem ok144:fnSoundB Go.Proofs.Tryz.prog 144 F144=true:=by decide +kernel
def B147x0:LCode :=
 (.seq (.region [
 oN 9 (.bin .lss (.t 8) (.t 7)) 0] false [2,3,6,7,8,9] [2,3]) (.seq (.cond (.t 9) (.keep [2,3,6,7,8] [2,3] .skip) (.keep [2,3] [2,3] (.exit 0))) (.keep [2,3,6,7,8] [2,3] (.seq (.block 1 (.seq (.region [
 oN 10 (.indexAddr 9 (.t 6) (.t 8)) 0,oN 11 (.load 9 true (.t 10)) 1,oN 5 (.alloc false 5 [.p (.int .i64 0),.p (.int .i64 0),.p (.int .i64 0),.p (.int .i64 0),.p (.str []),.p (.str []),.p (.str []),.p (.str []),.p (.list [])] []) 2,⟨none,.store 9 true (.t 5) (.t 11),none,3,[]⟩] false [2,3,5,6,7,8] [2,3,5]) (.seq (.region [
 oN 12 (fA 0 5) 0,oN 13 (lD 12) 1,oN 14 (.bin .gtr (.t 13) (iC 0)) 2,oM 15 14 3,oG 16 (fA 0 5) 15 true 4,oG 17 (lD 16) 15 true 5,oG 18 (.bin .lss (.t 17) (iC 8)) 15 true 6,oN 19 (.pick (.t 15) (.t 18) (.c (.bool false))) 7] false [2,3,5,6,7,8,19] [2,3,5]) (.seq (.cond (.t 19) (.seq (.region [
 oN 20 (fA 0 5) 0,oN 21 (lD 20) 1,oN 22 (.indexArr 8 1 (.t 3) (.t 21)) 2,oN 23 (lD 22) 3,oN 24 (.bin .add (.t 23) (iC 1)) 4,oN 25 (.indexArr 8 1 (.t 3) (.t 21)) 5,⟨none,.store 1 false (.t 25) (.t 24),none,6,[]⟩] false [2,3,6,7,8] [2,3]) (.keep [2,3,6,7,8] [2,3] .skip)) (.keep [2,3,6,7,8] [2,3] .skip)) (.keep [2,3,6,7,8] [2,3] .skip))))) (.keep [2,3,6,7,8] [2,3] (.seq (.region [
 oN 26 (.bin .add (.t 8) (iC 1)) 0,oM 8 26 1] false [2,3,6,7,8] [2,3]) (.keep [2,3,6,7,8] [2,3] .skip)))))))
def F147:LFunc:={ nparams:=1,results:=[.cell 2 7 true],pure:=true,body :=
 (.seq (.region [
 oN 2 (.alloc false 2 [.p (.int .i64 0),.p (.int .i64 0),.p (.int .i64 0),.p (.int .i64 0),.p (.int .i64 0),.p (.int .i64 0),.p (.int .i64 0)] []) 0] false [0,2] [2]) (.seq (.region [
 oN 3 (.alloc false 3 [.p (.int .i64 0),.p (.int .i64 0),.p (.int .i64 0),.p (.int .i64 0),.p (.int .i64 0),.p (.int .i64 0),.p (.int .i64 0),.p (.int .i64 0)] []) 0] false [0,2,3] [2,3]) (.seq (.region [
 oM 6 0 0,oN 7 (.len 1 (.t 6)) 1,oN 8 (.move (iC 0)) 2] false [2,3,6,7,8] [2,3]) (.seq (.block 0 (.seq (.keep [2,3,6,7,8] [2,3] (.loop B147x0)) (.keep [2,3] [2,3] .skip))) (.keep [2,3] [2,3] (.seq (.region [
 oN 27 (.indexArr 8 1 (.t 3) (iC 1)) 0,oN 28 (lD 27) 1,oN 29 (.indexArr 8 1 (.t 3) (iC 2)) 2,oN 30 (lD 29) 3,oN 31 (.indexArr 8 1 (.t 3) (iC 3)) 4,oN 32 (lD 31) 5,oN 33 (.indexArr 8 1 (.t 3) (iC 4)) 6,oN 34 (lD 33) 7,oN 35 (.indexArr 8 1 (.t 3) (iC 5)) 8,oN 36 (lD 35) 9,oN 37 (.indexArr 8 1 (.t 3) (iC 6)) 10,oN 38 (lD 37) 11,oN 39 (.indexArr 8 1 (.t 3) (iC 7)) 12,oN 40 (lD 39) 13,oN 41 (.build [.p (.int .i64 0),.p (.int .i64 0),.p (.int .i64 0),.p (.int .i64 0),.p (.int .i64 0),.p (.int .i64 0),.p (.int .i64 0)] [(0,1,.t 28),(1,1,.t 30),(2,1,.t 32),(3,1,.t 34),(4,1,.t 36),(5,1,.t 38),(6,1,.t 40)]) 14,⟨none,.store 7 true (.t 2) (.t 41),none,15,[]⟩] false [2] [2]) (.keep [2] [2] .ret))))))) }
theorem ok147:fnSoundB Go.Proofs.Tryz.prog 147 F147=true:=by decide +kernel
def B150x0:LCode :=
 (.seq (rN [
 oN 9 (.bin .lss (.t 8) (.t 7)) 0] [0,1,7,8,9]) (.seq (.cond (.t 9) (kS [0,1,7,8]) (kB [] (.exit 0))) (kB [0,1,7,8] (.seq (.block 1 (.seq (rN [
 oM 10 8 0,oM 5 10 1] [0,1,5,7,8]) (.seq (rN [
 oM 11 1 0,oM 12 0 1,oM 13 5 2,oN 14 (.indexAddr 1 (.t 12) (.t 13)) 3,oN 15 (lD 14) 4,oN 16 (.eq .i false (.t 11) (.t 15)) 5] [0,1,5,7,8,16]) (.seq (.cond (.t 16) (.seq (rN [
 oM 17 5 0,oM 4 17 1] [4]) (kB [4] .ret)) (kS [0,1,7,8])) (kS [0,1,7,8]))))) (kB [0,1,7,8] (.seq (rN [
 oN 18 (.bin .add (.t 8) (iC 1)) 0,oM 8 18 1] [0,1,7,8]) (kS [0,1,7,8])))))))
def F150:LFunc:={ nparams:=2,results:=[.tmp 4],pure:=true,body :=
 (.seq (rN [
 oN 4 (.move (iC 0)) 0] [0,1]) (.seq (rN [
 oM 6 0 0,oN 7 (.len 1 (.t 6)) 1,oN 8 (.move (iC 0)) 2] [0,1,7,8]) (.seq (.block 0 (.seq (kB [0,1,7,8] (.loop B150x0)) (kS []))) (kB [] (.seq (rN [
 oN 4 (.move (iC (-1))) 0] [4]) (kB [4] .ret)))))) }
theorem ok150:fnSoundB Go.Proofs.Tryz.prog 150 F150=true:=by decide +kernel
def B158x1:LCode :=
 (.seq (.region [
 oM 14 5 0,oN 15 (.eq .i true (.t 14) (iC 0)) 1,oM 16 15 2,oG 17 (.move (.t 5)) 16 true 3,oG 18 (fA 1 4) 16 true 4,oG 19 (lD 18) 16 true 5,oG 20 (.eq .i true (.t 17) (.t 19)) 16 true 6,oN 21 (.pick (.t 16) (.t 20) (.c (.bool false))) 7] false [0,3,4,5,6,7,8,21] [4]) (.seq (.cond (.t 21) (.keep [0,3,4,5,6,7,8] [4] .skip) (.keep [0,3,4,5,6,7,8] [4] (.exit 2))) (.keep [0,3,4,5,6,7,8] [4] (.seq (.block 3 (.seq (.region [
 oM 22 0 0,oM 23 5 1,oN 24 (.bin .sub (.t 23) (iC 1)) 2,oN 25 (.indexAddr 6 (.t 22) (.t 24)) 3,oN 26 (fA 1 25) 4,oN 27 (lD 26) 5,oM 5 27 6] false [0,3,4,5,6,7,8] [4]) (.keep [0,3,4,5,6,7,8] [4] .skip))) (.keep [0,3,4,5,6,7,8] [4] .skip)))))
def B158x0:LCode :=
 (.seq (rN [
 oN 9 (.bin .lss (.t 8) (.t 7)) 0] [0,6,7,8,9]) (.seq (.cond (.t 9) (kS [0,6,7,8]) (kB [] (.exit 0))) (kB [0,6,7,8] (.seq (.block 1 (.seq (.region [
 oM 10 8 0,oN 11 (.indexAddr 6 (.t 6) (.t 8)) 1,oN 12 (.load 6 true (.t 11)) 2,oN 4 (.alloc false 4 [.p (.int .i64 0),.p (.int .i64 0),.p (.str []),.p (.str []),.p (.str []),.p (.list [])] []) 3,oM 3 10 4,⟨none,.store 6 true (.t 4) (.t 12),none,5,[]⟩] false [0,3,4,6,7,8] [4]) (.seq (.region [
 oM 13 3 0,oM 5 13 1] false [0,3,4,5,6,7,8] [4]) (.seq (.block 2 (.seq (.keep [0,3,4,5,6,7,8] [4] (.loop B158x1)) (.keep [0,3,4,5,6,7,8] [4] .skip))) (.keep [0,3,4,5,6,7,8] [4] (.seq (rN [
 oM 28 5 0,oN 29 (fA 1 4) 1,oN 30 (lD 29) 2,oN 31 (.eq .i true (.t 28) (.t 30)) 3,oM 32 31 4,oG 33 (.move (.t 5)) 32 false 5,oG 34 (.eq .i false (.t 33) (iC 0)) 32 false 6,oG 35 (.move (.t 3)) 32 false 7,oG 36 (.eq .i false (.t 35) (iC 0)) 32 false 8,oG 37 (.eq .b true (.t 34) (.t 36)) 32 false 9,oN 38 (.pick (.t 32) (.c (.bool true)) (.t 37)) 10] [0,6,7,8,38]) (.seq (.cond (.t 38) (.seq (rN [
 oN 2 (.move (.c (.bool false))) 0] [2]) (kB [2] .ret)) (kS [0,6,7,8])) (kS [0,6,7,8])))))))) (kB [0,6,7,8] (.seq (rN [
 oN 39 (.bin .add (.t 8) (iC 1)) 0,oM 8 39 1] [0,6,7,8]) (kS [0,6,7,8])))))))
def F158:LFunc:={ nparams:=1,results:=[.tmp 2],pure:=true,body :=
 (.seq (rN [
 oN 2 (.move (.c (.bool false))) 0] [0]) (.seq (rN [
 oM 6 0 0,oN 7 (.len 1 (.t 6)) 1,oN 8 (.move (iC 0)) 2] [0,6,7,8]) (.seq (.block 0 (.seq (kB [0,6,7,8] (.loop B158x0)) (kS []))) (kB [] (.seq (rN [
 oN 2 (.move (.c (.bool true))) 0] [2]) (kB [2] .ret)))))) }
theorem ok158:fnSoundB Go.Proofs.Tryz.prog 158 F158=true:=by decide +kernel
def B159x0:LCode :=
 (.seq (.region [
 oN 13 (.bin .lss (.t 12) (.t 11)) 0] false [0,3,10,11,12,13] [9]) (.seq (.cond (.t 13) (.keep [0,3,10,11,12] [9] .skip) (kB [0] (.exit 0))) (.keep [0,3,10,11,12] [9] (.seq (.block 1 (.seq (.region [
 oM 14 12 0,oN 15 (.indexAddr 6 (.t 10) (.t 12)) 1,oN 16 (.load 6 true (.t 15)) 2,oN 5 (.alloc false 5 [.p (.int .i64 0),.p (.int .i64 0),.p (.str []),.p (.str []),.p (.str []),.p (.list [])] []) 3,oM 4 14 4,⟨none,.store 6 true (.t 5) (.t 16),none,5,[]⟩] false [0,3,4,5,10,11,12] [5,9]) (.seq (.region [
 oM 17 3 0,oM 18 4 1,oN 19 (.bin .add (.t 18) (iC 1)) 2,oM 20 3 3,oN 21 (fA 1 5) 4,oN 22 (lD 21) 5,oN 23 (.indexAddr 1 (.t 20) (.t 22)) 6,oN 24 (lD 23) 7,oN 25 (.bin .add (.t 24) (iC 1)) 8,oN 26 (.indexAddr 1 (.t 17) (.t 19)) 9,⟨none,.store 1 false (.t 26) (.t 25),none,10,[]⟩] false [0,3,4,10,11,12] [9]) (.seq (.region [
 oM 27 3 0,oM 28 4 1,oN 29 (.bin .add (.t 28) (iC 1)) 2,oN 30 (.indexAddr 1 (.t 27) (.t 29)) 3,oN 31 (lD 30) 4,oN 32 (.bin .gtr (.t 31) (iC 64)) 5] false [0,3,10,11,12,32] [9]) (.seq (.cond (.t 32) (.seq (rN [
 oN 2 (.move (.c (.bool true))) 0] [2]) (kB [2] .ret)) (.keep [0,3,10,11,12] [9] .skip)) (.keep [0,3,10,11,12] [9] .skip)))))) (.keep [0,3,10,11,12] [9] (.seq (.region [
 oN 33 (.bin .add (.t 12) (iC 1)) 0,oM 12 33 1] false [0,3,10,11,12] [9]) (.keep [0,3,10,11,12] [9] .skip)))))))
def F159:LFunc:={ nparams:=1,results:=[.tmp 2],pure:=true,body :=
 (.seq (rN [
 oN 2 (.move (.c (.bool false))) 0] [0]) (.seq (.region [
 oM 6 0 0,oN 7 (.len 1 (.t 6)) 1,oN 8 (.bin .add (.t 7) (iC 1)) 2,oN 9 (.makeRow false 9 1 8 [.int .i64 0] (.t 8) (.t 8)) 3,oM 3 9 4] false [0,3] [9]) (.seq (.region [
 oM 10 0 0,oN 11 (.len 1 (.t 10)) 1,oN 12 (.move (iC 0)) 2] false [0,3,10,11,12] [9]) (.seq (.block 0 (.seq (.keep [0,3,10,11,12] [9] (.loop B159x0)) (kS [0]))) (kB [0] (.seq (rN [
 oM 34 0 0,oN 35 (.len 1 (.t 34)) 1,oN 36 (.bin .gtr (.t 35) (iC 4096)) 2,oM 2 36 3] [2]) (kB [2] .ret))))))) }
theorem ok159:fnSoundB Go.Proofs.Tryz.prog 159 F159=true:=by decide +kernel
def B160x0:LCode :=
 (.seq (.region [
 oN 13 (.bin .lss (.t 12) (.t 11)) 0] false [0,3,10,11,12,13] [9]) (.seq (.cond (.t 13) (.keep [0,3,10,11,12] [9] .skip) (kB [0] (.exit 0))) (.keep [0,3,10,11,12] [9] (.seq (.block 1 (.seq (.region [
 oM 14 12 0,oN 15 (.indexAddr 6 (.t 10) (.t 12)) 1,oN 16 (.load 6 true (.t 15)) 2,oN 5 (.alloc false 5 [.p (.int .i64 0),.p (.int .i64 0),.p (.str []),.p (.str []),.p (.str []),.p (.list [])] []) 3,oM 4 14 4,⟨none,.store 6 true (.t 5) (.t 16),none,5,[]⟩] false [0,3,4,5,10,11,12] [5,9]) (.seq (.region [
 oM 17 3 0,oM 18 4 1,oN 19 (.bin .add (.t 18) (iC 1)) 2,oM 20 3 3,oN 21 (fA 1 5) 4,oN 22 (lD 21) 5,oN 23 (.indexAddr 1 (.t 20) (.t 22)) 6,oN 24 (lD 23) 7,oN 25 (.bin .add (.t 24) (iC 1)) 8,oN 26 (.indexAddr 1 (.t 17) (.t 19)) 9,⟨none,.store 1 false (.t 26) (.t 25),none,10,[]⟩] false [0,3,4,10,11,12] [9]) (.seq (.region [
 oM 27 3 0,oM 28 4 1,oN 29 (.bin .add (.t 28) (iC 1)) 2,oN 30 (.indexAddr 1 (.t 27) (.t 29)) 3,oN 31 (lD 30) 4,oN 32 (.bin .gtr (.t 31) (iC 64)) 5,oM 33 32 6,oG 34 (.move (.t 4)) 33 false 7,oG 35 (.eq .i false (.t 34) (iC 4096)) 33 false 8,oN 36 (.pick (.t 33) (.c (.bool true)) (.t 35)) 9] false [0,3,4,10,11,12,36] [9]) (.seq (.cond (.t 36) (.seq (rN [
 oM 37 0 0,oM 38 4 1,oN 39 (.bin .add (.t 38) (iC 1)) 2,oN 40 (.slice false 6 (.t 37) none (some (.t 39))) 3,oM 2 40 4] [2]) (kB [2] .ret)) (.keep [0,3,10,11,12] [9] .skip)) (.keep [0,3,10,11,12] [9] .skip)))))) (.keep [0,3,10,11,12] [9] (.seq (.region [
 oN 41 (.bin .add (.t 12) (iC 1)) 0,oM 12 41 1] false [0,3,10,11,12] [9]) (.keep [0,3,10,11,12] [9] .skip)))))))
def F160:LFunc:={ nparams:=1,results:=[.tmp 2],pure:=true,body :=
 (.seq (rN [
 oN 2 (.move (.c (.list []))) 0] [0]) (.seq (.region [
 oM 6 0 0,oN 7 (.len 1 (.t 6)) 1,oN 8 (.bin .add (.t 7) (iC 1)) 2,oN 9 (.makeRow false 9 1 8 [.int .i64 0] (.t 8) (.t 8)) 3,oM 3 9 4] false [0,3] [9]) (.seq (.region [
 oM 10 0 0,oN 11 (.len 1 (.t 10)) 1,oN 12 (.move (iC 0)) 2] false [0,3,10,11,12] [9]) (.seq (.block 0 (.seq (.keep [0,3,10,11,12] [9] (.loop B160x0)) (kS [0]))) (kB [0] (.seq (rN [
 oM 42 0 0,oM 2 42 1] [2]) (kB [2] .ret))))))) }
theorem ok160:fnSoundB Go.Proofs.Tryz.prog 160 F160=true:=by decide +kernel
def B161x0:LCode :=
 (.seq (.region [
 oM 26 8 0,oM 27 0 1,oN 28 (.len 1 (.t 27)) 2,oN 29 (.bin .lss (.t 26) (.t 28)) 3,oM 30 29 4,oG 31 (.move (.t 0)) 30 true 5,oG 32 (.move (.t 8)) 30 true 6,oG 33 (.indexAddr 6 (.t 31) (.t 32)) 30 true 7,oG 34 (fA 1 33) 30 true 8,oG 35 (lD 34) 30 true 9,oG 36 (.move (.t 1)) 30 true 10,oG 37 (.bin .add (.t 36) (iC 1)) 30 true 11,oG 38 (.eq .i false (.t 35) (.t 37)) 30 true 12,oN 39 (.pick (.t 30) (.t 38) (.c (.bool false))) 13] false [0,1,4,7,8,39] [4,7,1000,1001]) (.seq (.cond (.t 39) (.keep [0,1,4,7,8] [4,7,1000,1001] .skip) (.keep [4,7,8] [4,7,1000,1001] (.exit 0))) (.keep [0,1,4,7,8] [4,7,1000,1001] (.seq (.block 1 (.seq (.region [
 oN 9 (.alloc false 9 [.p (.str []),.p (.str []),.p (.str []),.p (.list []),.p (.list [])] []) 0] false [0,1,4,7,8,9] [4,7,9,1000,1001]) (.seq (.region [
 oM 41 0 0,oM 42 8 1,oN 43 (.pcall 161 [(.t 41,.as),(.t 42,.as)]) 2,oM 40 43 3,oN 44 (.extract (.t 40) 0) 4,oN 45 (.extract (.t 40) 1) 5,⟨none,.store 5 true (.t 9) (.t 44),none,6,[]⟩,oM 8 45 7] false [0,1,4,7,8,9] [4,7,9,1000,1001]) (.seq (.region [
 oN 46 (fA 4 7) 0,oN 47 (lD 46) 1,oN 48 (.load 5 true (.t 9)) 2,oN 49 (.row 5 [.t 48]) 3,oN 50 (.append true 1002 5 96 (.t 47) (.t 49)) 4,oN 51 (fA 4 7) 5,⟨none,.store 1 false (.t 51) (.t 50),none,6,[]⟩] false [0,1,4,7,8] [4,7,1000,1001]) (.keep [0,1,4,7,8] [4,7,1000,1001] .skip))))) (.keep [0,1,4,7,8] [4,7,1000,1001] .skip)))))
def F161:LFunc:={ nparams:=2,results:=[.cell 4 5 true,.tmp 5],pure:=true,body :=
 (.seq (.region [
 oN 4 (.alloc false 4 [.p (.str []),.p (.str []),.p (.str []),.p (.list []),.p (.list [])] []) 0,oN 5 (.move (iC 0)) 1] false [0,1,4] [4,1000,1001]) (.seq (.region [
 oM 10 0 0,oM 11 1 1,oN 12 (.indexAddr 6 (.t 10) (.t 11)) 2,oN 13 (.load 6 true (.t 12)) 3,oN 6 (.alloc false 6 [.p (.int .i64 0),.p (.int .i64 0),.p (.str []),.p (.str []),.p (.str []),.p (.list [])] []) 4,⟨none,.store 6 true (.t 6) (.t 13),none,5,[]⟩] false [0,1,4,6] [4,6,1000,1001]) (.seq (.draw [
 oN 14 (fA 2 6) 0,oN 15 (lD 14) 1,oN 16 (fA 3 6) 2,oN 17 (lD 16) 3,oN 18 (fA 4 6) 4,oN 19 (lD 18) 5,oN 20 (fA 5 6) 6,oN 21 (lD 20) 7,oN 22 (.pcall 56 [(.t 21,.as)]) 8,oN 23 (.build [.p (.str []),.p (.str []),.p (.str []),.p (.list []),.nils] [(0,1,.t 15),(1,1,.t 17),(2,1,.t 19),(3,1,.t 22)]) 9,⟨some 7,.alloc false 7 [.p (.str []),.p (.str []),.p (.str []),.p (.list []),.p (.list [])] [(4,1000,5)],none,10,[1,3,5,7,8]⟩,⟨none,.store 5 true (.t 7) (.t 23),none,11,[]⟩] [0,1,4,7] [4,7,1000,1001]) (.seq (.region [
 oM 24 1 0,oN 25 (.bin .add (.t 24) (iC 1)) 1,oM 8 25 2] false [0,1,4,7,8] [4,7,1000,1001]) (.seq (.block 0 (.seq (.keep [0,1,4,7,8] [4,7,1000,1001] (.loop B161x0)) (.keep [4,7,8] [4,7,1000,1001] .skip))) (.keep [4,7,8] [4,7,1000,1001] (.seq (.region [
 oN 52 (.load 5 true (.t 7)) 0,oM 53 8 1,⟨none,.store 5 true (.t 4) (.t 52),none,2,[]⟩,oM 5 53 3] false [4,5] [4,1000,1001]) (.keep [4,5] [4,1000,1001] .ret)))))))) }
theorem ok161:fnSoundB Go.Proofs.Tryz.prog 161 F161=true:=by decide +kernel
def F162:LFunc:={ nparams:=1,results:=[.tmp 2,.tmp 3],pure:=true,body :=
 (.seq (.region [
 oN 1 (.box false 1 (.t 0)) 0,oN 2 (.move (iC 0)) 1,oN 3 (.move (iC 0)) 2] false [1] [1]) (.seq (.region [
 oN 5 (.load 5 true (.t 1)) 0,oN 6 (.pcall 195 [(.t 5,.as)]) 1,oN 4 (.alloc false 4 [.p (.int .i64 0),.p (.int .i64 0),.p (.int .i64 0)] []) 2,⟨none,.store 3 true (.t 4) (.t 6),none,3,[]⟩] false [4] [4]) (.seq (.region [
 oN 7 (fA 2 4) 0,oN 8 (lD 7) 1,oN 9 (.eq .i false (.t 8) (iC 0)) 2] false [4,9] [4]) (.seq (.cond (.t 9) (.seq (rN [
 oN 2 (.move (iC 0)) 0,oN 3 (.move (iC 0)) 1] [2,3]) (kB [2,3] .ret)) (.keep [4] [4] .skip)) (.keep [4] [4] (.seq (.region [
 oN 10 (fA 0 4) 0,oN 11 (lD 10) 1,oN 12 (fA 2 4) 2,oN 13 (lD 12) 3,oM 2 11 4,oM 3 13 5] true [2,3] []) (kB [2,3] .ret))))))) }
theorem ok162:fnSoundB Go.Proofs.Tryz.prog 162 F162=true:=by decide +kernel
def B165x0:LCode :=
 (.seq (rN [
 oN 14 (.bin .lss (.t 13) (.t 12)) 0] [0,1,12,13,14]) (.seq (.cond (.t 14) (kS [0,1,12,13]) (kB [] (.exit 0))) (kB [0,1,12,13] (.seq (.block 1 (.seq (rN [
 oM 15 13 0,oM 5 15 1] [0,1,5,12,13]) (.seq (.region [
 oM 16 0 0,oM 17 5 1,oN 18 (.indexAddr 2 (.t 16) (.t 17)) 2,oN 19 (.load 2 true (.t 18)) 3,oM 20 1 4,oM 21 5 5,oN 22 (.indexAddr 2 (.t 20) (.t 21)) 6,oN 23 (.load 2 true (.t 22)) 7,oN 24 (.eq (.st [2,2]) true (.t 19) (.t 23)) 8] true [0,1,12,13,24] []) (.seq (.cond (.t 24) (.seq (rN [
 oN 4 (.move (.c (.bool false))) 0] [4]) (kB [4] .ret)) (kS [0,1,12,13])) (kS [0,1,12,13]))))) (kB [0,1,12,13] (.seq (rN [
 oN 25 (.bin .add (.t 13) (iC 1)) 0,oM 13 25 1] [0,1,12,13]) (kS [0,1,12,13])))))))
def F165:LFunc:={ nparams:=2,results:=[.tmp 4],pure:=true,body :=
 (.seq (rN [
 oN 4 (.move (.c (.bool false))) 0] [0,1]) (.seq (rN [
 oM 6 0 0,oN 7 (.len 1 (.t 6)) 1,oM 8 1 2,oN 9 (.len 1 (.t 8)) 3,oN 10 (.eq .i true (.t 7) (.t 9)) 4] [0,1,10]) (.seq (.cond (.t 10) (.seq (rN [
 oN 4 (.move (.c (.bool false))) 0] [4]) (kB [4] .ret)) (kS [0,1])) (kB [0,1] (.seq (rN [
 oM 11 0 0,oN 12 (.len 1 (.t 11)) 1,oN 13 (.move (iC 0)) 2] [0,1,12,13]) (.seq (.block 0 (.seq (kB [0,1,12,13] (.loop B165x0)) (kS []))) (kB [] (.seq (rN [
 oN 4 (.move (.c (.bool true))) 0] [4]) (kB [4] .ret))))))))) }
theorem ok165:fnSoundB Go.Proofs.Tryz.prog 165 F165=true:=by decide +kernel
def F166:LFunc:={ nparams:=1,results:=[.cell 2 9 true],pure:=true,body :=
 (.seq (.region [
 oN 1 (.box false 1 (.t 0)) 0,oN 2 (.alloc false 2 [.p (.str []),.p (.str []),.p (.str []),.p (.str []),.p (.str []),.p (.str []),.p (.str []),.p (.str []),.p (.str [])] []) 1] false [1,2] [1,2]) (.seq (.draw [
 oN 3 (fA 0 1) 0,oN 4 (lD 3) 1,oN 5 (.pcall 167 [(.t 4,.as)]) 2,oN 6 (fA 1 1) 3,oN 7 (lD 6) 4,oN 8 (.pcall 167 [(.t 7,.as)]) 5,oN 9 (fA 2 1) 6,oN 10 (lD 9) 7,oN 11 (.pcall 167 [(.t 10,.as)]) 8,oN 12 (fA 3 1) 9,oN 13 (lD 12) 10,oN 14 (.pcall 167 [(.t 13,.as)]) 11,oN 15 (fA 4 1) 12,oN 16 (lD 15) 13,oN 17 (fA 5 1) 14,oN 18 (lD 17) 15,oN 19 (fA 6 1) 16,oN 20 (lD 19) 17,oN 21 (fA 7 1) 18,oN 22 (lD 21) 19,oN 23 (.build [.p (.str []),.p (.str []),.p (.str []),.p (.str []),.p (.str []),.p (.str []),.p (.str []),.p (.str []),.p (.str [])] [(0,1,.t 5),(1,1,.t 8),(2,1,.t 11),(3,1,.t 14),(4,1,.t 16),(5,1,.t 18),(6,1,.t 20),(7,1,.t 22)]) 20,⟨none,.store 9 true (.t 2) (.t 23),none,21,[]⟩] [2] [2]) (.keep [2] [2] .ret))) }
theorem ok166:fnSoundB Go.Proofs.Tryz.prog 166 F166=true:=by decide +kernel
def B168x0:LCode :=
 (.seq (rN [
 oN 23 (.bin .lss (.t 22) (.t 21)) 0] [0,1,21,22,23]) (.seq (.cond (.t 23) (kS [0,1,21,22]) (kB [] (.exit 0))) (kB [0,1,21,22] (.seq (.block 1 (.seq (rN [
 oM 24 22 0,oM 5 24 1] [0,1,5,21,22]) (.seq (rN [
 oM 25 0 0,oM 26 5 1,oN 27 (.index (.t 25) (.t 26)) 2,oM 6 27 3] [0,1,6,21,22]) (.seq (rN [
 oM 28 6 0,oN 29 (.pcall 197 [(.t 28,.as)]) 1,oN 30 (.un .not (.t 29)) 2,oM 31 30 3,oG 32 (.move (.t 6)) 31 true 4,oG 33 (.bin .lss (.t 32) (.c (.int .u8 48))) 31 true 5,oG 34 (.move (.t 33)) 31 true 6,oG 35 (.move (.t 6)) 34 false 7,oG 36 (.bin .gtr (.t 35) (.c (.int .u8 57))) 34 false 8,oG 37 (.pick (.t 34) (.c (.bool true)) (.t 36)) 31 true 9,oN 38 (.pick (.t 31) (.t 37) (.c (.bool false))) 10,oM 39 38 11,oG 40 (.move (.t 1)) 39 true 12,oG 41 (.move (.t 6)) 39 true 13,oG 42 (.pcall 198 [(.t 40,.as),(.t 41,.as)]) 39 true 14,oG 43 (.bin .lss (.t 42) (iC 0)) 39 true 15,oN 44 (.pick (.t 39) (.t 43) (.c (.bool false))) 16] [0,1,21,22,44]) (.seq (.cond (.t 44) (.seq (rN [
 oN 4 (.move (.c (.bool false))) 0] [4]) (kB [4] .ret)) (kS [0,1,21,22])) (kS [0,1,21,22])))))) (kB [0,1,21,22] (.seq (rN [
 oN 45 (.bin .add (.t 22) (iC 1)) 0,oM 22 45 1] [0,1,21,22]) (kS [0,1,21,22])))))))
def F168:LFunc:={ nparams:=2,results:=[.tmp 4],pure:=true,body :=
 (.seq (rN [
 oN 4 (.move (.c (.bool false))) 0] [0,1]) (.seq (rN [
 oM 7 0 0,oN 8 (.eq .s false (.t 7) (.c (.str []))) 1,oM 9 8 2,oG 10 (.move (.t 0)) 9 false 3,oG 11 (.len 0 (.t 10)) 9 false 4,oG 12 (.bin .gtr (.t 11) (iC 32)) 9 false 5,oN 13 (.pick (.t 9) (.c (.bool true)) (.t 12)) 6,oM 14 13 7,oG 15 (.move (.t 0)) 14 false 8,oG 16 (.index (.t 15) (iC 0)) 14 false 9,oG 17 (.pcall 197 [(.t 16,.as)]) 14 false 10,oG 18 (.un .not (.t 17)) 14 false 11,oN 19 (.pick (.t 14) (.c (.bool true)) (.t 18)) 12] [0,1,19]) (.seq (.cond (.t 19) (.seq (rN [
 oN 4 (.move (.c (.bool false))) 0] [4]) (kB [4] .ret)) (kS [0,1])) (kB [0,1] (.seq (rN [
 oM 20 0 0,oN 21 (.len 0 (.t 20)) 1,oN 22 (.move (iC 0)) 2] [0,1,21,22]) (.seq (.block 0 (.seq (kB [0,1,21,22] (.loop B168x0)) (kS []))) (kB [] (.seq (rN [
 oN 4 (.move (.c (.bool true))) 0] [4]) (kB [4] .ret))))))))) }
theorem ok168:fnSoundB Go.Proofs.Tryz.prog 168 F168=true:=by decide +kernel
def B171x0:LCode :=
 (.seq (rN [
 oN 14 (.bin .lss (.t 13) (.t 12)) 0] [0,1,6,11,12,13,14]) (.seq (.cond (.t 14) (kS [0,1,6,11,12,13]) (kB [6] (.exit 0))) (kB [0,1,6,11,12,13] (.seq (.block 1 (.seq (.region [
 oM 15 13 0,oN 16 (.indexAddr 2 (.t 11) (.t 13)) 1,oN 17 (.load 2 true (.t 16)) 2,oN 8 (.alloc false 8 [.p (.str []),.p (.str [])] []) 3,oM 7 15 4,⟨none,.store 2 true (.t 8) (.t 17),none,5,[]⟩] false [0,1,6,7,8,11,12,13] [8]) (.seq (.block 2 (.seq (.block 5 (.seq (.block 4 (.seq (.block 3 (.seq (.region [
 oN 19 (fA 0 8) 0,oN 20 (lD 19) 1,oM 21 1 2,oN 22 (.eq .s false (.t 20) (.t 21)) 3,oM 18 22 4] false [0,1,6,7,8,11,12,13,18] [8]) (.seq (.cond (.t 18) (kB [7] (.exit 3)) (.keep [0,1,6,7,8,11,12,13] [8] .skip)) (.keep [0,1,6,7,8,11,12,13] [8] (.seq (.region [
 oM 24 6 0,oM 25 0 1,oN 26 (.len 1 (.t 25)) 2,oN 27 (.bin .lss (.t 24) (.t 26)) 3,oM 23 27 4] false [0,1,6,7,8,11,12,13,23] [8]) (.seq (.cond (.t 23) (kB [0,1,6,11,12,13] (.exit 4)) (.keep [0,1,6,7,8,11,12,13] [8] .skip)) (.keep [0,1,6,7,8,11,12,13] [8] (.seq (rN [
 oN 29 (fA 0 8) 0,oN 30 (lD 29) 1,oM 31 1 2,oN 32 (.bin .lss (.t 30) (.t 31)) 3,oM 28 32 4] [0,1,6,7,11,12,13,28]) (.seq (.cond (.t 28) (kB [0,1,6,11,12,13] (.exit 5)) (kS [0,1,7,11,12,13])) (kB [0,1,7,11,12,13] (.exit 2))))))))))) (kB [7] (.seq (rN [
 oM 33 7 0,oM 4 33 1,oN 5 (.move (.c (.bool true))) 2] [4,5]) (.seq (kB [4,5] .ret) (kB [0,1,7,11,12,13] (.exit 2))))))) (kS [0,1,6,11,12,13]))) (.seq (kB [0,1,6,11,12,13] (.exit 1)) (kB [0,1,7,11,12,13] (.exit 2))))) (kB [0,1,7,11,12,13] (.seq (rN [
 oM 34 7 0,oM 6 34 1] [0,1,6,11,12,13]) (kS [0,1,6,11,12,13])))))) (kB [0,1,6,11,12,13] (.seq (rN [
 oN 35 (.bin .add (.t 13) (iC 1)) 0,oM 13 35 1] [0,1,6,11,12,13]) (kS [0,1,6,11,12,13])))))))
def F171:LFunc:={ nparams:=2,results:=[.tmp 4,.tmp 5],pure:=true,body :=
 (.seq (rN [
 oN 4 (.move (iC 0)) 0,oN 5 (.move (.c (.bool false))) 1] [0,1]) (.seq (rN [
 oM 9 0 0,oN 10 (.len 1 (.t 9)) 1,oM 6 10 2] [0,1,6]) (.seq (rN [
 oM 11 0 0,oN 12 (.len 1 (.t 11)) 1,oN 13 (.move (iC 0)) 2] [0,1,6,11,12,13]) (.seq (.block 0 (.seq (kB [0,1,6,11,12,13] (.loop B171x0)) (kS [6]))) (kB [6] (.seq (rN [
 oM 36 6 0,oM 4 36 1,oN 5 (.move (.c (.bool false))) 2] [4,5]) (kB [4,5] .ret))))))) }
theorem ok171:fnSoundB Go.Proofs.Tryz.prog 171 F171=true:=by decide +kernel
def F174:LFunc:={ nparams:=2,results:=[.tmp 3],pure:=false,body :=
 (.seq (.region [
 oN 2 (.box false 2 (.t 0)) 0,oN 3 (.move (.c (.bool false))) 1] false [1,2] [2]) (.seq (rN [
 oN 4 (fA 0 2) 0,oN 5 (lD 4) 1,oN 6 (lD 1) 2,oN 7 (.eq .s false (.t 5) (.t 6)) 3,oM 3 7 4] [3]) (kB [3] .ret))) }
theorem ok174:fnSoundB Go.Proofs.Tryz.prog 174 F174=true:=by decide +kernel
def B176x0:LCode :=
 (.seq (.region [
 oN 10 (.bin .lss (.t 9) (.t 8)) 0] false [0,1,5,8,9,10] [1000]) (.seq (.cond (.t 10) (.keep [0,1,5,8,9] [1000] .skip) (.keep [5] [1000] (.exit 0))) (.keep [0,1,5,8,9] [1000] (.seq (.block 1 (.seq (.region [
 oM 11 9 0,oM 6 11 1] false [0,1,5,6,8,9] [1000]) (.seq (.region [
 oM 12 0 0,oM 13 6 1,oN 14 (.indexAddr 1 (.t 12) (.t 13)) 2,oN 15 (lD 14) 3,oM 16 1 4,oN 17 (.eq .i true (.t 15) (.t 16)) 5] false [0,1,5,6,8,9,17] [1000]) (.seq (.cond (.t 17) (.seq (.region [
 oM 18 5 0,oM 19 0 1,oM 20 6 2,oN 21 (.indexAddr 1 (.t 19) (.t 20)) 3,oN 22 (lD 21) 4,oN 23 (.row 1 [.t 22]) 5,oN 24 (.append false 1001 1 8 (.t 18) (.t 23)) 6,oM 5 24 7] false [0,1,5,8,9] [1000]) (.keep [0,1,5,8,9] [1000] .skip)) (.keep [0,1,5,8,9] [1000] .skip)) (.keep [0,1,5,8,9] [1000] .skip))))) (.keep [0,1,5,8,9] [1000] (.seq (.region [
 oN 25 (.bin .add (.t 9) (iC 1)) 0,oM 9 25 1] false [0,1,5,8,9] [1000]) (.keep [0,1,5,8,9] [1000] .skip)))))))
def F176:LFunc:={ nparams:=2,results:=[.tmp 4],pure:=true,body :=
 (.seq (rN [
 oN 4 (.move (.c (.list []))) 0] [0,1]) (.seq (.region [
 oN 5 (.nilown false 1000 1) 0] false [0,1,5] [1000]) (.seq (.region [
 oM 7 0 0,oN 8 (.len 1 (.t 7)) 1,oN 9 (.move (iC 0)) 2] false [0,1,5,8,9] [1000]) (.seq (.block 0 (.seq (.keep [0,1,5,8,9] [1000] (.loop B176x0)) (.keep [5] [1000] .skip))) (.keep [5] [1000] (.seq (.region [
 oM 26 5 0,oM 4 26 1] false [4] [1000]) (.keep [4] [1000] .ret))))))) }
theorem ok176:fnSoundB Go.Proofs.Tryz.prog 176 F176=true:=by decide +kernel
def B177x0:LCode :=
 (.seq (rN [
 oM 15 8 0,oM 16 0 1,oN 17 (.len 1 (.t 16)) 2,oN 18 (.bin .lss (.t 15) (.t 17)) 3,oM 19 18 4,oG 20 (.move (.t 0)) 19 true 5,oG 21 (.move (.t 8)) 19 true 6,oG 22 (.indexAddr 2 (.t 20) (.t 21)) 19 true 7,oG 23 (fA 0 22) 19 true 8,oG 24 (lD 23) 19 true 9,oG 25 (.move (.t 1)) 19 true 10,oG 26 (.pcall 112 [(.t 24,.as),(.t 25,.as)]) 19 true 11,oG 27 (.bin .leq (.t 26) (iC 0)) 19 true 12,oN 28 (.pick (.t 19) (.t 27) (.c (.bool false))) 13] [0,1,2,7,8,28]) (.seq (.cond (.t 28) (kS [0,1,2,7,8]) (kB [0,1,2,7,8] (.exit 0))) (kB [0,1,2,7,8] (.seq (.block 1 (.seq (rN [
 oM 29 8 0,oN 30 (.bin .add (.t 29) (iC 1)) 1,oM 8 30 2] [0,1,2,7,8]) (kS [0,1,2,7,8]))) (kS [0,1,2,7,8])))))
def B177x1:LCode :=
 (.seq (.region [
 oN 34 (.bin .lss (.t 33) (.t 32)) 0] false [0,1,2,7,8,9,32,33,34] [1000]) (.seq (.cond (.t 34) (.keep [0,1,2,7,8,9,32,33] [1000] .skip) (.keep [0,1,2,7,8,9] [1000] (.exit 2))) (.keep [0,1,2,7,8,9,32,33] [1000] (.seq (.block 3 (.seq (.region [
 oM 35 33 0,oM 10 35 1] false [0,1,2,7,8,9,10,32,33] [1000]) (.seq (.region [
 oM 36 7 0,oN 37 (.bin .lss (.t 36) (iC 0)) 1,oM 38 37 2,oG 39 (.move (.t 10)) 38 true 3,oG 40 (.move (.t 8)) 38 true 4,oG 41 (.eq .i false (.t 39) (.t 40)) 38 true 5,oN 42 (.pick (.t 38) (.t 41) (.c (.bool false))) 6] false [0,1,2,7,8,9,10,32,33,42] [1000]) (.seq (.cond (.t 42) (.seq (.region [
 oM 43 9 0,oM 44 1 1,oM 45 2 2,oN 46 (.build [.p (.str []),.p (.str [])] [(0,1,.t 44),(1,1,.t 45)]) 3,oN 47 (.row 2 [.t 46]) 4,oN 48 (.append false 1001 2 32 (.t 43) (.t 47)) 5,oM 9 48 6] false [0,1,2,7,8,9,10,32,33] [1000]) (.keep [0,1,2,7,8,9,10,32,33] [1000] .skip)) (.keep [0,1,2,7,8,9,10,32,33] [1000] .skip)) (.keep [0,1,2,7,8,9,10,32,33] [1000] (.seq (.region [
 oM 49 0 0,oM 50 10 1,oN 51 (.indexAddr 2 (.t 49) (.t 50)) 2,oN 52 (.load 2 true (.t 51)) 3,oN 11 (.alloc false 11 [.p (.str []),.p (.str [])] []) 4,⟨none,.store 2 true (.t 11) (.t 52),none,5,[]⟩] false [0,1,2,7,8,9,10,11,32,33] [11,1000]) (.seq (.region [
 oM 53 10 0,oM 54 7 1,oN 55 (.eq .i false (.t 53) (.t 54)) 2] false [0,1,2,7,8,9,11,32,33,55] [11,1000]) (.seq (.cond (.t 55) (.seq (.region [
 oM 56 2 0,oN 57 (fA 1 11) 1,⟨none,.store 1 false (.t 57) (.t 56),none,2,[]⟩] false [0,1,2,7,8,9,11,32,33] [11,1000]) (.keep [0,1,2,7,8,9,11,32,33] [11,1000] .skip)) (.keep [0,1,2,7,8,9,11,32,33] [11,1000] .skip)) (.keep [0,1,2,7,8,9,11,32,33] [11,1000] (.seq (.region [
 oM 58 9 0,oN 59 (.load 2 true (.t 11)) 1,oN 60 (.row 2 [.t 59]) 2,oN 61 (.append false 1002 2 32 (.t 58) (.t 60)) 3,oM 9 61 4] false [0,1,2,7,8,9,32,33] [1000]) (.keep [0,1,2,7,8,9,32,33] [1000] .skip))))))))))) (.keep [0,1,2,7,8,9,32,33] [1000] (.seq (.region [
 oN 62 (.bin .add (.t 33) (iC 1)) 0,oM 33 62 1] false [0,1,2,7,8,9,32,33] [1000]) (.keep [0,1,2,7,8,9,32,33] [1000] .skip)))))))
def F177:LFunc:={ nparams:=3,results:=[.tmp 6],pure:=true,body :=
 (.seq (rN [
 oN 6 (.move (.c (.list []))) 0] [0,1,2]) (.seq (rN [
 oM 12 0 0,oM 13 1 1,oN 14 (.pcall 193 [(.t 12,.as),(.t 13,.as)]) 2,oM 7 14 3] [0,1,2,7]) (.seq (rN [
 oN 8 (.move (iC 0)) 0] [0,1,2,7,8]) (.seq (.block 0 (.seq (kB [0,1,2,7,8] (.loop B177x0)) (kS [0,1,2,7,8]))) (kB [0,1,2,7,8] (.seq (.region [
 oN 9 (.nilown false 1000 2) 0] false [0,1,2,7,8,9] [1000]) (.seq (.region [
 oM 31 0 0,oN 32 (.len 1 (.t 31)) 1,oN 33 (.move (iC 0)) 2] false [0,1,2,7,8,9,32,33] [1000]) (.seq (.block 2 (.seq (.keep [0,1,2,7,8,9,32,33] [1000] (.loop B177x1)) (.keep [0,1,2,7,8,9] [1000] .skip))) (.keep [0,1,2,7,8,9] [1000] (.seq (.region [
 oM 63 7 0,oN 64 (.bin .lss (.t 63) (iC 0)) 1,oM 65 64 2,oG 66 (.move (.t 8)) 65 true 3,oG 67 (.move (.t 0)) 65 true 4,oG 68 (.len 1 (.t 67)) 65 true 5,oG 69 (.eq .i false (.t 66) (.t 68)) 65 true 6,oN 70 (.pick (.t 65) (.t 69) (.c (.bool false))) 7] false [1,2,9,70] [1000]) (.seq (.cond (.t 70) (.seq (.region [
 oM 71 9 0,oM 72 1 1,oM 73 2 2,oN 74 (.build [.p (.str []),.p (.str [])] [(0,1,.t 72),(1,1,.t 73)]) 3,oN 75 (.row 2 [.t 74]) 4,oN 76 (.append false 1003 2 32 (.t 71) (.t 75)) 5,oM 9 76 6] false [9] [1000]) (.keep [9] [1000] .skip)) (.keep [9] [1000] .skip)) (.keep [9] [1000] (.seq (.region [
 oM 77 9 0,oM 6 77 1] false [6] [1000]) (.keep [6] [1000] .ret)))))))))))))) }
theorem ok177:fnSoundB Go.Proofs.Tryz.prog 177 F177=true:=by decide +kernel
def B178x0:LCode :=
 (.seq (.region [
 oN 11 (.bin .lss (.t 10) (.t 9)) 0] false [0,1,6,9,10,11] [1000]) (.seq (.cond (.t 11) (.keep [0,1,6,9,10] [1000] .skip) (.keep [0,6] [1000] (.exit 0))) (.keep [0,1,6,9,10] [1000] (.seq (.block 1 (.seq (.region [
 oM 12 10 0,oM 7 12 1] false [0,1,6,7,9,10] [1000]) (.seq (.region [
 oM 13 0 0,oM 14 7 1,oN 15 (.indexAddr 2 (.t 13) (.t 14)) 2,oN 16 (fA 0 15) 3,oN 17 (lD 16) 4,oM 18 1 5,oN 19 (.eq .s true (.t 17) (.t 18)) 6] false [0,1,6,7,9,10,19] [1000]) (.seq (.cond (.t 19) (.seq (.region [
 oM 20 6 0,oM 21 0 1,oM 22 7 2,oN 23 (.indexAddr 2 (.t 21) (.t 22)) 3,oN 24 (.load 2 true (.t 23)) 4,oN 25 (.row 2 [.t 24]) 5,oN 26 (.append false 1001 2 32 (.t 20) (.t 25)) 6,oM 6 26 7] false [0,1,6,9,10] [1000]) (.keep [0,1,6,9,10] [1000] .skip)) (.keep [0,1,6,9,10] [1000] .skip)) (.keep [0,1,6,9,10] [1000] .skip))))) (.keep [0,1,6,9,10] [1000] (.seq (.region [
 oN 27 (.bin .add (.t 10) (iC 1)) 0,oM 10 27 1] false [0,1,6,9,10] [1000]) (.keep [0,1,6,9,10] [1000] .skip)))))))
def F178:LFunc:={ nparams:=2,results:=[.tmp 4,.tmp 5],pure:=true,body :=
 (.seq (rN [
 oN 4 (.move (.c (.list []))) 0,oN 5 (.move (.c (.bool false))) 1] [0,1]) (.seq (.region [
 oN 6 (.nilown false 1000 2) 0] false [0,1,6] [1000]) (.seq (.region [
 oM 8 0 0,oN 9 (.len 1 (.t 8)) 1,oN 10 (.move (iC 0)) 2] false [0,1,6,9,10] [1000]) (.seq (.block 0 (.seq (.keep [0,1,6,9,10] [1000] (.loop B178x0)) (.keep [0,6] [1000] .skip))) (.keep [0,6] [1000] (.seq (.region [
 oM 28 6 0,oM 29 6 1,oN 30 (.len 1 (.t 29)) 2,oM 31 0 3,oN 32 (.len 1 (.t 31)) 4,oN 33 (.bin .lss (.t 30) (.t 32)) 5,oM 4 28 6,oM 5 33 7] false [4,5] [1000]) (.keep [4,5] [1000] .ret))))))) }
theorem ok178:fnSoundB Go.Proofs.Tryz.prog 178 F178=true:=by decide +kernel
def B193x0:LCode :=
 (.seq (rN [
 oN 9 (.bin .lss (.t 8) (.t 7)) 0] [0,1,7,8,9]) (.seq (.cond (.t 9) (kS [0,1,7,8]) (kB [] (.exit 0))) (kB [0,1,7,8] (.seq (.block 1 (.seq (rN [
 oM 10 8 0,oM 5 10 1] [0,1,5,7,8]) (.seq (rN [
 oM 11 0 0,oM 12 5 1,oN 13 (.indexAddr 2 (.t 11) (.t 12)) 2,oN 14 (fA 0 13) 3,oN 15 (lD 14) 4,oM 16 1 5,oN 17 (.eq .s false (.t 15) (.t 16)) 6] [0,1,5,7,8,17]) (.seq (.cond (.t 17) (.seq (rN [
 oM 18 5 0,oM 4 18 1] [4]) (kB [4] .ret)) (kS [0,1,7,8])) (kS [0,1,7,8]))))) (kB [0,1,7,8] (.seq (rN [
 oN 19 (.bin .add (.t 8) (iC 1)) 0,oM 8 19 1] [0,1,7,8]) (kS [0,1,7,8])))))))
def F193:LFunc:={ nparams:=2,results:=[.tmp 4],pure:=true,body :=
 (.seq (rN [
 oN 4 (.move (iC 0)) 0] [0,1]) (.seq (rN [
 oM 6 0 0,oN 7 (.len 1 (.t 6)) 1,oN 8 (.move (iC 0)) 2] [0,1,7,8]) (.seq (.block 0 (.seq (kB [0,1,7,8] (.loop B193x0)) (kS []))) (kB [] (.seq (rN [
 oN 4 (.move (iC (-1))) 0] [4]) (kB [4] .ret)))))) }
theorem ok193:fnSoundB Go.Proofs.Tryz.prog 193 F193=true:=by decide +kernel
def F195:LFunc:={ nparams:=1,results:=[.cell 2 3 true],pure:=true,body :=
 (.seq (.region [
 oN 1 (.box false 1 (.t 0)) 0,oN 2 (.alloc false 2 [.p (.int .i64 0),.p (.int .i64 0),.p (.int .i64 0)] []) 1] false [1,2] [1,2]) (.seq (.region [
 oN 3 (.alloc true 3 [.p (.int .i64 0),.p (.int .i64 0),.p (.int .i64 0)] []) 0] false [1,2,3] [1,2]) (.seq (.region [
 oN 4 (.alloc true 4 [.p (.nilf)] []) 0] false [1,2,3,4] [1,2]) (.seq (.region [
 oN 5 (.makeFunc 215 [.t 3,.t 4]) 0,⟨none,.store 1 false (.t 4) (.t 5),none,1,[]⟩] false [1,2,3,4] [1,2]) (.seq (.region [
 oN 6 (lD 4) 0,oN 7 (.load 5 true (.t 1)) 1,oN 8 (.makeMap true 8) 2,oN 9 (.callv (.t 6) [(.t 7,.as),(.c (.int .i64 1),.as),(.t 8,.as)]) 3] false [2,3] [2]) (.seq (.region [
 oN 10 (.load 3 true (.t 3)) 0,⟨none,.store 3 true (.t 2) (.t 10),none,1,[]⟩] false [2] [2]) (.keep [2] [2] .ret))))))) }
theorem ok195:fnSoundB Go.Proofs.Tryz.prog 195 F195=true:=by decide +kernel
def F197:LFunc:={ nparams:=1,results:=[.tmp 2],pure:=true,body :=
 (.seq (rN [
 oN 2 (.move (.c (.bool false))) 0] [0]) (.seq (rN [
 oM 3 0 0,oN 4 (.bin .geq (.t 3) (.c (.int .u8 97))) 1,oM 5 4 2,oG 6 (.move (.t 0)) 5 true 3,oG 7 (.bin .leq (.t 6) (.c (.int .u8 122))) 5 true 4,oN 8 (.pick (.t 5) (.t 7) (.c (.bool false))) 5,oM 2 8 6] [2]) (kB [2] .ret))) }
theorem ok197:fnSoundB Go.Proofs.Tryz.prog 197 F197=true:=by decide +kernel
def B215x0:LCode :=
 (.seq (rN [
 oN 64 (.bin .lss (.t 63) (.t 62)) 0] [1,4,11,61,62,63,64]) (.seq (.cond (.t 64) (kS [1,4,11,61,62,63]) (kB [] (.exit 1))) (kB [1,4,11,61,62,63] (.seq (.block 2 (.seq (.region [
 oN 65 (.indexAddr 5 (.t 61) (.t 63)) 0,oN 66 (.load 5 true (.t 65)) 1,oN 13 (.alloc false 13 [.p (.str []),.p (.str []),.p (.str []),.p (.list []),.p (.list [])] []) 2,⟨none,.store 5 true (.t 13) (.t 66),none,3,[]⟩] false [1,4,11,13,61,62,63] [13]) (.seq (rN [
 oN 67 (lD 4) 0,oN 68 (.load 5 true (.t 13)) 1,oM 69 1 2,oN 70 (.bin .add (.t 69) (iC 1)) 3,oM 71 11 4,oN 72 (.callv (.t 67) [(.t 68,.as),(.t 70,.as),(.t 71,.as)]) 5,oN 73 (.un .not (.t 72)) 6] [1,4,11,61,62,63,73]) (.seq (.cond (.t 73) (.seq (rN [
 oN 8 (.move (.c (.bool false))) 0] [8]) (kB [8] .ret)) (kS [1,4,11,61,62,63])) (kS [1,4,11,61,62,63]))))) (kB [1,4,11,61,62,63] (.seq (rN [
 oN 74 (.bin .add (.t 63) (iC 1)) 0,oM 63 74 1] [1,4,11,61,62,63]) (kS [1,4,11,61,62,63])))))))
def F215:LFunc:={ nparams:=5,results:=[.tmp 8],pure:=false,body :=
 (.seq (.region [
 oN 5 (.box false 5 (.t 0)) 0,oN 8 (.move (.c (.bool false))) 1] false [1,2,3,4,5] [5]) (.seq (.region [
 oN 14 (fA 1 3) 0,oN 15 (lD 14) 1,oM 16 1 2,oN 17 (.maxI (.t 15) (.t 16)) 3,oN 18 (fA 1 3) 4,⟨none,.store 1 false (.t 18) (.t 17),none,5,[]⟩] false [1,2,3,4,5] [5]) (.seq (.block 0 (.seq (.region [
 oN 23 (fA 0 3) 0,oN 24 (lD 23) 1,oN 25 (.eq .i false (.t 24) (iC 4096)) 2,oM 22 25 3] false [1,2,3,4,5,22] [5]) (.seq (.cond (.t 22) (.seq (.region [
 oN 26 (fA 2 3) 0,⟨none,.store 1 false (.t 26) (iC 12),none,1,[]⟩] false [1,2,3,4,5] [5]) (.keep [1,2,3,4,5] [5] .skip)) (.seq (.region [
 oM 28 1 0,oN 29 (.bin .gtr (.t 28) (iC 64)) 1,oM 27 29 2] false [1,2,3,4,5,27] [5]) (.seq (.cond (.t 27) (.seq (.region [
 oN 30 (fA 2 3) 0,⟨none,.store 1 false (.t 30) (iC 11),none,1,[]⟩] false [1,2,3,4,5] [5]) (.keep [1,2,3,4,5] [5] .skip)) (.seq (.region [
 oN 19 (.load 5 true (.t 5)) 0,oN 20 (.pcall 216 [(.t 19,.as)]) 1,oN 21 (fA 2 3) 2,⟨none,.store 1 false (.t 21) (.t 20),none,3,[]⟩] false [1,2,3,4,5] [5]) (.keep [1,2,3,4,5] [5] .skip))) (.keep [1,2,3,4,5] [5] .skip)))) (.keep [1,2,3,4,5] [5] .skip)))) (.keep [1,2,3,4,5] [5] (.seq (.region [
 oM 32 2 0,oN 33 (fA 1 5) 1,oN 34 (lD 33) 2,oN 35 (.lookup 2 (.agg []) true (.t 32) (.t 34)) 3,oM 31 35 4,oN 36 (.extract (.t 31) 0) 5,oN 37 (.extract (.t 31) 1) 6,oN 9 (.alloc false 9 [] []) 7,⟨none,.store 0 true (.t 9) (.t 36),none,8,[]⟩,oM 10 37 9] false [1,2,3,4,5,10] [5]) (.seq (.region [
 oN 38 (fA 2 3) 0,oN 39 (lD 38) 1,oN 40 (.eq .i false (.t 39) (iC 0)) 2,oM 41 40 3,oG 42 (.move (.t 10)) 41 true 4,oN 43 (.pick (.t 41) (.t 42) (.c (.bool false))) 5] false [1,2,3,4,5,43] [5]) (.seq (.cond (.t 43) (.seq (.region [
 oN 44 (fA 2 3) 0,⟨none,.store 1 false (.t 44) (iC 10),none,1,[]⟩] false [1,2,3,4,5] [5]) (.keep [1,2,3,4,5] [5] .skip)) (.keep [1,2,3,4,5] [5] .skip)) (.keep [1,2,3,4,5] [5] (.seq (.region [
 oN 45 (fA 2 3) 0,oN 46 (lD 45) 1,oN 47 (.eq .i true (.t 46) (iC 0)) 2] false [1,2,3,4,5,47] [5]) (.seq (.cond (.t 47) (.seq (rN [
 oN 8 (.move (.c (.bool false))) 0] [8]) (kB [8] .ret)) (.keep [1,2,3,4,5] [5] .skip)) (.keep [1,2,3,4,5] [5] (.seq (.region [
 oN 48 (fA 1 5) 0,oN 49 (lD 48) 1,oN 50 (.eq .s true (.t 49) (.c (.str []))) 2] false [1,2,3,4,5,50] [5]) (.seq (.cond (.t 50) (.seq (.region [
 oM 51 2 0,oN 52 (fA 1 5) 1,oN 53 (lD 52) 2,oN 54 (.build [] []) 3,⟨none,.mapUpdate 2 (.t 51) (.t 53) (.t 54),none,4,[]⟩] false [1,3,4,5] [5]) (.keep [1,3,4,5] [5] .skip)) (.keep [1,3,4,5] [5] .skip)) (.keep [1,3,4,5] [5] (.seq (.region [
 oN 55 (fA 0 3) 0,oN 56 (lD 55) 1,oN 57 (.bin .add (.t 56) (iC 1)) 2,oN 58 (fA 0 3) 3,⟨none,.store 1 false (.t 58) (.t 57),none,4,[]⟩] false [1,4,5] [5]) (.seq (.region [
 oN 59 (.makeMap true 59) 0,oM 11 59 1] false [1,4,5,11] [5]) (.seq (rN [
 oN 60 (fA 4 5) 0,oN 61 (lD 60) 1,oN 62 (.len 1 (.t 61)) 2,oN 63 (.move (iC 0)) 3] [1,4,11,61,62,63]) (.seq (.block 1 (.seq (kB [1,4,11,61,62,63] (.loop B215x0)) (kS []))) (kB [] (.seq (rN [
 oN 8 (.move (.c (.bool true))) 0] [8]) (kB [8] .ret))))))))))))))))))))) }
theorem ok215:fnSoundB Go.Proofs.Tryz.prog 215 F215=true:=by decide +kernel
def F216:LFunc:={ nparams:=1,results:=[.tmp 2],pure:=true,body :=
 (.seq (.region [
 oN 1 (.box false 1 (.t 0)) 0,oN 2 (.move (iC 0)) 1] false [1] [1]) (.seq (.block 0 (.seq (.region [
 oN 6 (fA 0 1) 0,oN 7 (lD 6) 1,oN 8 (.pcall 116 [(.t 7,.as)]) 2,oN 9 (.un .not (.t 8)) 3,oM 5 9 4] false [1,5] [1]) (.seq (.cond (.t 5) (.seq (rN [
 oN 2 (.move (iC 7)) 0] [2]) (kB [2] .ret)) (.seq (.region [
 oN 11 (fA 1 1) 0,oN 12 (lD 11) 1,oN 13 (.pcall 118 [(.t 12,.as)]) 2,oN 14 (.un .not (.t 13)) 3,oM 15 14 4,oG 16 (fA 2 1) 15 false 5,oG 17 (lD 16) 15 false 6,oG 18 (.pcall 118 [(.t 17,.as)]) 15 false 7,oG 19 (.un .not (.t 18)) 15 false 8,oN 20 (.pick (.t 15) (.c (.bool true)) (.t 19)) 9,oM 10 20 10] false [1,10] [1]) (.seq (.cond (.t 10) (.seq (rN [
 oN 2 (.move (iC 3)) 0] [2]) (kB [2] .ret)) (.keep [1] [1] .skip)) (.keep [1] [1] .skip)))) (.keep [1] [1] .skip)))) (.keep [1] [1] (.seq (rN [
 oN 22 (fA 3 1) 0,oN 23 (lD 22) 1,oN 24 (.pcall 119 [(.t 23,.as)]) 2,oM 21 24 3,oN 25 (.extract (.t 21) 0) 4,oN 26 (.extract (.t 21) 1) 5,oM 3 25 6,oM 4 26 7] [4]) (.seq (rN [
 oM 27 4 0,oM 2 27 1] [2]) (kB [2] .ret)))))) }
theorem ok216:fnSoundB Go.Proofs.Tryz.prog 216 F216=true:=by decide +kernel
def B170x0:LCode :=
 (.seq (rN [
 oN 9 (.bin .lss (.t 8) (.t 7)) 0] [0,1,7,8,9]) (.seq (.cond (.t 9) (kS [0,1,7,8]) (kB [] (.exit 0))) (kB [0,1,7,8] (.seq (.block 1 (.seq (rN [
 oM 10 8 0,oM 5 10 1] [0,1,5,7,8]) (.seq (rN [
 oM 11 1 0,oM 12 0 1,oM 13 5 2,oN 14 (.indexAddr 1 (.t 12) (.t 13)) 3,oN 15 (lD 14) 4,oN 16 (.callv (.t 11) [(.t 15,.as)]) 5] [0,1,5,7,8,16]) (.seq (.cond (.t 16) (.seq (rN [
 oM 17 5 0,oM 4 17 1] [4]) (kB [4] .ret)) (kS [0,1,7,8])) (kS [0,1,7,8]))))) (kB [0,1,7,8] (.seq (rN [
 oN 18 (.bin .add (.t 8) (iC 1)) 0,oM 8 18 1] [0,1,7,8]) (kS [0,1,7,8])))))))
def F170:LFunc:={ nparams:=2,results:=[.tmp 4],pure:=false,body :=
 (.seq (rN [
 oN 4 (.move (iC 0)) 0] [0,1]) (.seq (rN [
 oM 6 0 0,oN 7 (.len 1 (.t 6)) 1,oN 8 (.move (iC 0)) 2] [0,1,7,8]) (.seq (.block 0 (.seq (kB [0,1,7,8] (.loop B170x0)) (kS []))) (kB [] (.seq (rN [
 oN 4 (.move (iC (-1))) 0] [4]) (kB [4] .ret)))))) }
theorem ok170:fnSoundB Go.Proofs.Tryz.prog 170 F170=true:=by decide +kernel
def B203x0:LCode :=
 (.seq (rN [
 oN 9 (.bin .lss (.t 8) (.t 7)) 0] [0,1,7,8,9]) (.seq (.cond (.t 9) (kS [0,1,7,8]) (kB [] (.exit 0))) (kB [0,1,7,8] (.seq (.block 1 (.seq (rN [
 oM 10 8 0,oM 5 10 1] [0,1,5,7,8]) (.seq (rN [
 oM 11 1 0,oM 12 0 1,oM 13 5 2,oN 14 (.indexAddr 2 (.t 12) (.t 13)) 3,oN 15 (.load 2 true (.t 14)) 4,oN 16 (.callv (.t 11) [(.t 15,.as)]) 5] [0,1,5,7,8,16]) (.seq (.cond (.t 16) (.seq (rN [
 oM 17 5 0,oM 4 17 1] [4]) (kB [4] .ret)) (kS [0,1,7,8])) (kS [0,1,7,8]))))) (kB [0,1,7,8] (.seq (rN [
 oN 18 (.bin .add (.t 8) (iC 1)) 0,oM 8 18 1] [0,1,7,8]) (kS [0,1,7,8])))))))
def F203:LFunc:={ nparams:=2,results:=[.tmp 4],pure:=false,body :=
 (.seq (rN [
 oN 4 (.move (iC 0)) 0] [0,1]) (.seq (rN [
 oM 6 0 0,oN 7 (.len 1 (.t 6)) 1,oN 8 (.move (iC 0)) 2] [0,1,7,8]) (.seq (.block 0 (.seq (kB [0,1,7,8] (.loop B203x0)) (kS []))) (kB [] (.seq (rN [
 oN 4 (.move (iC (-1))) 0] [4]) (kB [4] .ret)))))) }
theorem ok203:fnSoundB Go.Proofs.Tryz.prog 203 F203=true:=by decide +kernel
end Go.TA.Tryz


end
section
/- slices.DeleteFunc on a row of one's own, told at once: its text up to the last two lines as lowered code, the rest by hand. -/
namespace Go.TA
def delLoop1 : LCode :=
  (.seq (.region [
    { dst:=some 16,op:=.move (.t 6),ix:=0 },
    { dst:=some 17,op:=.move (.t 0),ix:=1 },
    { dst:=some 18,op:=.len 1 (.t 17),ix:=2 },
    { dst:=some 19,op:=.bin .lss (.t 16) (.t 18),ix:=3 }] false [0,1,5,6,19] []) (.seq (.cond (.t 19) (.keep [0,1,5,6] [] .skip) (.keep [0,5] [] (.exit 0))) (.keep [0,1,5,6] [] (.seq (.block 1 (.seq (.region [
    { dst:=some 22,op:=.move (.t 0),ix:=0 },
    { dst:=some 23,op:=.move (.t 6),ix:=1 },
    { dst:=some 24,op:=.indexAddr 1 (.t 22) (.t 23),ix:=2 },
    { dst:=some 25,op:=.load 1 false (.t 24),ix:=3 },
    { dst:=some 7,op:=.move (.t 25),ix:=4 }] false [0,1,5,6,7] []) (.seq (.region [
    { dst:=some 26,op:=.move (.t 1),ix:=0 },
    { dst:=some 27,op:=.move (.t 7),ix:=1 },
    { dst:=some 28,op:=.callv (.t 26) [(.t 27,.as)],ix:=2 },
    { dst:=some 29,op:=.un .not (.t 28),ix:=3 }] false [0,1,5,6,7,29] []) (.seq (.cond (.t 29) (.seq (.region [
    { dst:=some 30,op:=.move (.t 0),ix:=0 },
    { dst:=some 31,op:=.move (.t 5),ix:=1 },
    { dst:=some 32,op:=.move (.t 7),ix:=2 },
    { dst:=some 33,op:=.indexAddr 1 (.t 30) (.t 31),ix:=3 },
    { dst:=none,op:=.store 1 false (.t 33) (.t 32),ix:=4 }] false [0,1,5,6] []) (.seq (.region [
    { dst:=some 34,op:=.move (.t 5),ix:=0 },
    { dst:=some 35,op:=.bin .add (.t 34) (.c (.int .i64 1)),ix:=1 },
    { dst:=some 5,op:=.move (.t 35),ix:=2 }] false [0,1,5,6] []) (.keep [0,1,5,6] [] .skip))) (.keep [0,1,5,6] [] .skip)) (.keep [0,1,5,6] [] .skip))))) (.keep [0,1,5,6] [] (.seq (.region [
    { dst:=some 20,op:=.move (.t 6),ix:=0 },
    { dst:=some 21,op:=.bin .add (.t 20) (.c (.int .i64 1)),ix:=1 },
    { dst:=some 6,op:=.move (.t 21),ix:=2 }] false [0,1,5,6] []) (.keep [0,1,5,6] [] .skip)))))))
def delLoop2 : LCode :=
  (.seq (.region [
    { dst:=some 16,op:=.move (.t 6),ix:=0 },
    { dst:=some 17,op:=.move (.t 0),ix:=1 },
    { dst:=some 18,op:=.len 1 (.t 17),ix:=2 },
    { dst:=some 19,op:=.bin .lss (.t 16) (.t 18),ix:=3 }] false [0,1,5,6,19] []) (.seq (.cond (.t 19) (.keep [0,1,5,6] [] .skip) (.keep [0,5] [] (.exit 0))) (.keep [0,1,5,6] [] (.seq (.block 1 (.seq (.region [
    { dst:=some 22,op:=.move (.t 0),ix:=0 },
    { dst:=some 23,op:=.move (.t 6),ix:=1 },
    { dst:=some 24,op:=.indexAddr 2 (.t 22) (.t 23),ix:=2 },
    { dst:=some 25,op:=.load 2 true (.t 24),ix:=3 },
    { dst:=some 7,op:=.alloc false 7 [.p (.str []),.p (.str [])] [],ix:=4 },
    { dst:=none,op:=.store 2 true (.t 7) (.t 25),ix:=5 }] false [0,1,5,6,7] [7]) (.seq (.region [
    { dst:=some 26,op:=.move (.t 1),ix:=0 },
    { dst:=some 27,op:=.load 2 true (.t 7),ix:=1 },
    { dst:=some 28,op:=.callv (.t 26) [(.t 27,.as)],ix:=2 },
    { dst:=some 29,op:=.un .not (.t 28),ix:=3 }] false [0,1,5,6,7,29] [7]) (.seq (.cond (.t 29) (.seq (.region [
    { dst:=some 30,op:=.move (.t 0),ix:=0 },
    { dst:=some 31,op:=.move (.t 5),ix:=1 },
    { dst:=some 32,op:=.load 2 true (.t 7),ix:=2 },
    { dst:=some 33,op:=.indexAddr 2 (.t 30) (.t 31),ix:=3 },
    { dst:=none,op:=.store 2 true (.t 33) (.t 32),ix:=4 }] false [0,1,5,6] []) (.seq (.region [
    { dst:=some 34,op:=.move (.t 5),ix:=0 },
    { dst:=some 35,op:=.bin .add (.t 34) (.c (.int .i64 1)),ix:=1 },
    { dst:=some 5,op:=.move (.t 35),ix:=2 }] false [0,1,5,6] []) (.keep [0,1,5,6] [] .skip))) (.keep [0,1,5,6] [] .skip)) (.keep [0,1,5,6] [] .skip))))) (.keep [0,1,5,6] [] (.seq (.region [
    { dst:=some 20,op:=.move (.t 6),ix:=0 },
    { dst:=some 21,op:=.bin .add (.t 20) (.c (.int .i64 1)),ix:=1 },
    { dst:=some 6,op:=.move (.t 21),ix:=2 }] false [0,1,5,6] []) (.keep [0,1,5,6] [] .skip)))))))
def delHead (fi : Nat) (L : LCode) : LCode :=
  (.seq (.region [
    { dst:=some 4,op:=.move (.c (.list [])),ix:=0 }] false [0,1] []) (.seq (.region [
    { dst:=some 8,op:=.move (.t 0),ix:=0 },
    { dst:=some 9,op:=.move (.t 1),ix:=1 },
    { dst:=some 10,op:=.call fi [(.t 8,.as),(.t 9,.as)],ix:=2 },
    { dst:=some 5,op:=.move (.t 10),ix:=3 }] false [0,1,5] []) (.seq (.region [
    { dst:=some 11,op:=.move (.t 5),ix:=0 },
    { dst:=some 12,op:=.eq .i false (.t 11) (.c (.int .i64 (-1))),ix:=1 }] false [0,1,5,12] []) (.seq (.cond (.t 12) (.seq (.region [
    { dst:=some 13,op:=.move (.t 0),ix:=0 },
    { dst:=some 4,op:=.move (.t 13),ix:=1 }] false [4] []) (.keep [4] [] .ret)) (.keep [0,1,5] [] .skip)) (.keep [0,1,5] [] (.seq (.region [
    { dst:=some 14,op:=.move (.t 5),ix:=0 },
    { dst:=some 15,op:=.bin .add (.t 14) (.c (.int .i64 1)),ix:=1 },
    { dst:=some 6,op:=.move (.t 15),ix:=2 }] false [0,1,5,6] []) (.seq (.block 0 (.seq (.keep [0,1,5,6] [] (.loop L)) (.keep [0,5] [] .skip))) (.keep [0,5] [] .skip))))))))
def delOut (sz : Nat) : Ex × St → Option (AV × List AObj)
  | (.ret, ⟨fr, [], g⟩) => match (⟨fr, [], g⟩ : St).get 4 with
    | .own true k n => match g[k]? with
      | some (.pcells s xs)=>if s=sz∧xs.length=n then some (.p (.list xs),g.set k .dead) else none
      | _=>none
    | _=>none
  | (.normal, ⟨fr, [], g⟩) => match (⟨fr, [], g⟩ : St).get 0, (⟨fr, [], g⟩ : St).get 5 with
    | .own true k n, .p (.int .i64 i) => match g[k]? with
      | some (.pcells s xs)=>if s=sz∧xs.length=n∧0≤i∧i<n then some (.p (.list (xs.take i.toNat)),g.set k .dead) else none
      | _=>none
    | _,_=>none
  | _=>none
def pDelete (fi:Nat) (L:LCode) (sz:Nat) (C:Calls'):List AV→List AObj→Option (AV × List AObj)
 | [.own true k n,fv],g=>(aexec C (n+2) (delHead fi L) (enterSt [.own true k n,fv] g)).bind (delOut sz)
 | _,_=>none
def isMv (o:Oper) (d n:Nat):Bool:=o.guard.isNone && o.dst==some d && match o.op with
 | .move (.tmp m)=>m==n
 | .assign (.tmp m)=>m==n
 | _=>false
def isCut (P:Program) (sz:Nat) (o:Oper) (d x i:Nat):Bool:=o.guard.isNone && o.dst==some d && match o.op with
 | .slice t (.tmp y) (some (.tmp j)) none none=>y==x && j==i && (match P.underlying t with | some (.slice e)=>tsize P e==some sz | _=>false)
 | _=>false
def isTop (P:Program) (sz:Nat) (o:Oper) (d x i:Nat):Bool:=o.guard.isNone && o.dst==some d && match o.op with
 | .slice t (.tmp y) none (some (.tmp j)) none=>y==x && j==i && (match P.underlying t with | some (.slice e)=>tsize P e==some sz | _=>false)
 | _=>false
def isClear (P : Program) (sz : Nat) (o : Oper) (x : Nat) : Bool := o.guard.isNone && o.dst == none && match o.op with
  | .call { callee := .builtin .clear, args, argTypes } => (match args.toList, argTypes.toList with
    | [.tmp y], [t] => y == x && (match P.underlying t with
      | some (.slice e) => (match (P.info? e).bind (·.zero) with
        | some z=>z.cells.size==sz && z.cells.toList.all (·.oneCell')
        | none=>false)
      | _=>false)
    | _,_=>false)
  | _=>false
def delTail (P : Program) (sz : Nat) : List Code → Bool
  | [.region _ o4 false, .region _ o5 false, .ret] => (match o4.toList with
    | [a,b,c,d]=>isMv a 36 0 && isMv b 37 5 && isCut P sz c 38 36 37 && isClear P sz d 38
    | _=>false) && (match o5.toList with
    | [a,b,c,d]=>isMv a 39 0 && isMv b 40 5 && isTop P sz c 41 39 40 && isMv d 4 41
    | _=>false)
  | _=>false
def delItems (P:Program) (fi:Nat) (L:LCode) (sz:Nat) (l:List Code):Bool:=codeOk P 42 (delHead fi L) (l.take 6) && delTail P sz (l.drop 6)
def delB (P : Program) (f fi : Nat) (L : LCode) (sz : Nat) : Bool := calleeOk P f && sz != 0 && match P.funcs[f]? with
  | some fn => (match fn.body with
    | some b=>fn.ntmps==42 && resOk P [.tmp 4] fn.results.toList && delItems P fi L sz (items b)
    | none=>false)
  | none=>false
section
variable {P:Program} {Γ : Ground} {f:Nat}
theorem wpL_join {Q:Exit→Act→World→Prop}:∀ {l r:List Code} {a:Act} {w:World},wpL P (Exit.then (wpL P Q r) Q) l a w→wpL P Q (l++r) a w
  | [],r,a,w,h=>h
  | c :: l, r, a, w, h => by
    simp only [List.cons_append,wpL] at h ⊢
    refine wp_mono h (fun e a' w' he => ?_)
    cases e <;> simp only [Exit.then] at he ⊢ <;> first | exact wpL_join he | exact he
theorem wpList_step {ops:Array Oper} {rest:List Oper} {o:Oper} {a:Act} {w w':World} {v:Value} {Q:Exit→Act→World→Prop} (hg:o.guard.isNone=true) (hr:(execOp a.eval o).run P w = .ok (.value v) w') (h:wpList P ops Q rest (a.put o.dst v) w'):wpList P ops Q (o::rest) a w:=by
 have hw:Region.wanted o (yielded ops a.tmps)=true:=by
  have:o.guard=none:=by simpa using hg
  simp [Region.wanted,this]
 unfold wpList
 rw [if_pos hw]
 exact .inl (Does.wp (Does.value (R:=fun v' w''=>v'=v∧w''=w') hr ⟨rfl,rfl⟩) (fun v' w'' hR=>by
  obtain ⟨rfl,rfl⟩:=hR
  exact h))
theorem run_mv {o:Oper} {d n:Nat} (h:isMv o d n=true) (a:Act) (w:World):o.guard.isNone=true∧o.dst=some d∧(execOp a.eval o).run P w = .ok (.value (a.eval (.tmp n))) w:=by
 simp only [isMv,Bool.and_eq_true,beq_iff_eq] at h
 obtain ⟨⟨h1,h2⟩,h3⟩:=h
 refine ⟨h1,h2, ?_⟩
 split at h3 <;> rename_i ho <;> first | (cases h3;done) | skip
 all_goals
  simp only [beq_iff_eq] at h3
  subst h3
  simp only [execOp,ho]
  rfl
theorem run_cut {sz:Nat} {o:Oper} {d x i:Nat} (h:isCut P sz o d x i=true) (a:Act) (w:World) {b n cp m:Nat} (hx:a.eval (.tmp x) = .slice (some ⟨b,0,none⟩) n cp) (hi:a.eval (.tmp i) = .int .i64 m) (hm:m<n) (hn:n≤cp) :
  o.guard.isNone=true∧o.dst=some d∧(execOp a.eval o).run P w = .ok (.value (.slice (some ⟨b,m*sz,none⟩) (n - m) (cp - m))) w:=by
 simp only [isCut,Bool.and_eq_true,beq_iff_eq] at h
 obtain ⟨⟨h1,h2⟩,h3⟩:=h
 refine ⟨h1,h2, ?_⟩
 split at h3
 rotate_left
 ·cases h3
 rename_i t y j ho
 simp only [Bool.and_eq_true,beq_iff_eq] at h3
 obtain ⟨⟨rfl,rfl⟩,h3⟩:=h3
 split at h3
 rotate_left
 ·cases h3
 rename_i e he
 simp only [beq_iff_eq] at h3
 have hne:¬ (cp=m):=by omega
 have hsz:∀ w,(sizeOf e).run P w = .ok sz w:=fun w=>by
  cases hq:P.info? e with
  | none=>simp [tsize,hq] at h3
  | some q=>simp [tsize,hq] at h3;simp [sizeOf,typeInfo,hq,h3]
 have hle:(m:Int)≤(n:Int):=by omega
 simp [execOp,ho,hx,hi,Instr.sliceAt,Instr.slice,run_underlying he,Instr.sliceBounds,Instr.sliceBound,asIntOf,hle,hsz,hne,Addr.add_lit]
 first | done | (intro h;omega)
theorem run_top {sz:Nat} {o:Oper} {d x i:Nat} (h:isTop P sz o d x i=true) (a:Act) (w:World) {b n cp m:Nat} (hx:a.eval (.tmp x) = .slice (some ⟨b,0,none⟩) n cp) (hi:a.eval (.tmp i) = .int .i64 m) (hm:m<n) (hn:n≤cp) :
  o.guard.isNone=true∧o.dst=some d∧(execOp a.eval o).run P w = .ok (.value (.slice (some ⟨b,0,none⟩) m cp)) w:=by
 simp only [isTop,Bool.and_eq_true,beq_iff_eq] at h
 obtain ⟨⟨h1,h2⟩,h3⟩:=h
 refine ⟨h1,h2, ?_⟩
 split at h3
 rotate_left
 ·cases h3
 rename_i t y j ho
 simp only [Bool.and_eq_true,beq_iff_eq] at h3
 obtain ⟨⟨rfl,rfl⟩,h3⟩:=h3
 split at h3
 rotate_left
 ·cases h3
 rename_i e he
 simp only [beq_iff_eq] at h3
 have hne:¬ (cp=0):=by omega
 have hsz:∀ w,(sizeOf e).run P w = .ok sz w:=fun w=>by
  cases hq:P.info? e with
  | none=>simp [tsize,hq] at h3
  | some q=>simp [tsize,hq] at h3;simp [sizeOf,typeInfo,hq,h3]
 have hle:(m:Int)≤(cp:Int):=by omega
 simp [execOp,ho,hx,hi,Instr.sliceAt,Instr.slice,run_underlying he,Instr.sliceBounds,Instr.sliceBound,asIntOf,hle,hsz,hne,Addr.add_lit]
 first | done | (intro h;omega)
theorem run_clear_k (w:World) (t e ty:TypeId) (z:Value) (ht:P.underlying t=some (.slice e)) (hv:∀ w,(zeroValue e).run P w = .ok z w) (h1:∀ v ∈ z.cells.toList,v.oneCell'=true) (b o n c:Nat) (hn:0<n)
  (hc:∀ j,j<n*z.cells.size→(w.cell? ⟨b,o+j,none⟩).isSome=true) (hf:∀ j,j<n*z.cells.size→w.frozen? ⟨b,o+j,none⟩=false) :
  (Builtin.clear_ #[t] ty #[.slice (some ⟨b,o,none⟩) n c]).run P w = .ok (.tuple #[]) (w.setCells b o (Builtin.zeroCells z.cells n).toList):=by
 have hl:(Builtin.zeroCells z.cells n).toList.length=n*z.cells.size:=by rw [Array.length_toList,size_zeroCells]
 have hst:=run_storeCells_cells (P:=P) b o (Builtin.zeroCells z.cells n).toList 0 w (by rw [hl];simpa using hc) (by rw [hl];simpa using hf) (by
  intro v hv'
  refine h1 v ?_
  simp only [Builtin.zeroCells,Array.toList_map,List.mem_map,Array.toList_range,List.mem_range] at hv'
  obtain ⟨i,hi,rfl⟩:=hv'
  have h0:0<z.cells.size:=Nat.pos_of_ne_zero (fun e=>by rw [e] at hi;omega)
  rw [getElem!_pos z.cells _ (Nat.mod_lt _ h0)]
  exact Array.getElem_mem_toList _)
 simp only [Nat.add_zero] at hst
 obtain ⟨m,rfl⟩:∃ m,n=m+1:=⟨n - 1,by omega⟩
 simp [Builtin.clear_,run_underlying ht,hv,hst]
theorem run_clearOp {sz:Nat} {o:Oper} {x:Nat} (h:isClear P sz o x=true) (a:Act) (w:World) {b off n cp:Nat} (hx:a.eval (.tmp x) = .slice (some ⟨b,off,none⟩) n cp) (hn:0<n)
  (hc:∀ j,j<n*sz→(w.cell? ⟨b,off+j,none⟩).isSome=true) (hf:∀ j,w.frozen? ⟨b,j,none⟩=false) :
  o.guard.isNone=true∧o.dst=none∧∃ zs:List Value,zs.length=n*sz∧(execOp a.eval o).run P w = .ok (.value (.tuple #[])) (w.setCells b off zs):=by
 simp only [isClear,Bool.and_eq_true,beq_iff_eq] at h
 obtain ⟨⟨h1,h2⟩,h3⟩:=h
 refine ⟨h1,h2, ?_⟩
 split at h3
 rotate_left
 ·cases h3
 rename_i args ats ho
 split at h3
 rotate_left
 ·cases h3
 rename_i y t hargs hats
 simp only [Bool.and_eq_true,beq_iff_eq] at h3
 obtain ⟨rfl,h3⟩:=h3
 split at h3
 rotate_left
 ·cases h3
 rename_i e he
 split at h3
 rotate_left
 ·cases h3
 rename_i z hz
 simp only [Bool.and_eq_true,beq_iff_eq,List.all_eq_true] at h3
 obtain ⟨rfl,h1c⟩:=h3
 have hv:∀ w,(zeroValue e).run P w = .ok z w:=fun w=>by
  obtain ⟨q,hq,hqz⟩:=Option.bind_eq_some_iff.1 hz
  simp [zeroValue,typeInfo,hq,hqz]
 have hrun:=run_clear_k w t e o.type z he hv h1c b off n cp hn hc (fun j _=>hf _)
 refine ⟨_,by rw [Array.length_toList,size_zeroCells], ?_⟩
 have ha:args = #[.tmp y]:=by rw [← Array.toArray_toList (xs:=args),hargs]
 have ht:ats = #[t]:=by rw [← Array.toArray_toList (xs:=ats),hats]
 subst ha
 subst ht
 simp [execOp,ho,resolve,invoke,builtin,hx,hrun,Result.andThen]
theorem putSize (a:Act) (d:Option Nat) (v:Value):(a.put d v).tmps.size=a.tmps.size:=by cases d <;> simp [Act.put]
theorem putEval {a:Act} {d n:Nat} {v:Value} (h:d<a.tmps.size):(a.put (some d) v).eval (.tmp n)=if n=d then v else a.eval (.tmp n):=by
 by_cases e:n=d
 ·subst e
  simp [Act.put,Act.eval,h]
 ·have e':¬ d=n:=fun h=>e h.symm
  simp [Act.put,Act.eval,e,e',Array.getElem?_setIfInBounds]
theorem putDefers (a:Act) (d:Option Nat) (v:Value):(a.put d v).defers=a.defers:=by cases d <;> rfl
theorem pDelete_ok (hm : P.follows .mixedOrders = true) {fi : Nat} {L : LCode} {sz : Nat} (hB : delB P f fi L sz = true) : PrimOk P Γ f (pDelete fi L sz) := by
  intro C hC args g r g' hp hno hgo
  unfold pDelete at hp
  split at hp
  rotate_left
  · cases hp
  rename_i k n fv
  obtain ⟨⟨ex,s1⟩,hex,hout⟩:=Option.bind_eq_some_iff.1 hp
  simp only [delB,Bool.and_eq_true,bne_iff_ne,ne_eq] at hB
  obtain ⟨⟨hcal,hsz0⟩,hB⟩:=hB
  split at hB
  rotate_left
  · cases hB
  rename_i fn hfn
  split at hB
  rotate_left
  · cases hB
  rename_i body hbody
  simp only [Bool.and_eq_true,beq_iff_eq,delItems] at hB
  obtain ⟨⟨hnt,hres⟩,hhead,htail⟩:=hB
  have hitems:items body=(items body).take 6++(items body).drop 6:=(List.take_append_drop 6 _).symm
  generalize (items body).take 6=is1 at *
  generalize (items body).drop 6=is2 at *
  have hCg:∀ f args g r g',C f args g=some (r,g')→noLocals args=true→gOk g→gOk g':=fun f args g r g' h1 h2 h3=>(hC f args g r g' h1 h2 h3).2.1
  have hgo1:gOk s1.g:=aexec_gOk hCg _ hhead (s:=enterSt [.own true k n,fv] g) hgo hex
  obtain ⟨fr,l1,g1⟩:=s1
  have hr:l1=[]∧∃ xs k',r = .p (.list xs)∧g'=g1.set k' .dead:=by
    unfold delOut at hout
    split at hout <;> (try (cases hout;done)) <;> (rename_i heq;simp only [Prod.mk.injEq,St.mk.injEq] at heq;obtain ⟨_,rfl,rfl,rfl⟩:=heq) <;> (split at hout <;> (try (cases hout;done))) <;> (split at hout <;> (try (cases hout;done))) <;> (split at hout <;> (try (cases hout;done))) <;> (simp only [Option.some.injEq,Prod.mk.injEq] at hout;exact ⟨rfl,_,_,hout.1.symm,hout.2.symm⟩)
  obtain ⟨rfl,ys,k',rfl,rfl⟩:=hr
  refine ⟨hcal,gOk_dead hgo1 k',rfl,fun c vs hl hgc hH hlen hrel => ?_⟩
  subst hgc
  refine calls_of_wp hfn hbody ?_
  have hg0:=body_good (c:=c) (args:=[.own true k n,fv]) (vs:=vs) (np:=2) (nt:=fn.ntmps) hlen hrel hH hl hgo rfl
  rw [hnt] at hg0 ⊢
  have hmax:max 2 42=42:=rfl
  rw [hmax] at hg0
  refine wp_of_wpL ?_
  rw [hitems]
  refine wpL_join (aexec_rel (C:=C) (N:=n+2) hm hC _ hhead hg0 hex (fun c1 a1 hg1 hE1 => ?_))
  have fin:∀ (a2:Act) (c2:Cx),a2.defers=[]→c2.l=[]→c2.g=g1.set k' .dead→Evo c c2→RelH Γ c2→(∃ u,a2.tmps.getD 4 undef=u∧RelV c2 (.p (.list ys)) u)→bodyPost P fn (fun e w'=>∃ v,e = .returned v∧Ans Γ c [] (g1.set k' .dead) (.p (.list ys)) v w') .ret a2 c2.w:=by
    intro a2 c2 hd hl2 hg2 hE hH2 ⟨u,hu,hv⟩
    refine ⟨hd,u, ?_,u,rfl,c2,hl2,hg2,rfl,hE.evolve hl,hH2,hv⟩
    have e:results fn a2.tmps=(do let vs ← fn.results.mapM (rvOf a2.tmps);pure (if h:vs.size=1 then vs[0] else .tuple vs)):=rfl
    have hrs:fn.results.toList=[.tmp 4]:=by
      cases h:fn.results.toList with
      | nil=>rw [h] at hres;simp [resOk] at hres
      | cons x l =>
        rw [h] at hres
        cases x with
        | tmp t =>
          simp only [resOk,Bool.and_eq_true,beq_iff_eq] at hres
          cases l with
          | nil=>rw [← hres.1]
          | cons y l=>simp [resOk] at hres
        | cell a b=>simp [resOk] at hres
    rw [e,Array.mapM_eq_mapM_toList,hrs]
    simp only [List.mapM_cons,List.mapM_nil,rvOf,hu]
    rfl
  cases ex with
  | exit id=>cases hout
  | ret =>
    simp only [delOut] at hout
    split at hout
    rotate_left
    · cases hout
    rename_i k2 n2 hav
    split at hout
    rotate_left
    · cases hout
    rename_i s xs hob
    split at hout
    rotate_left
    · cases hout
    rename_i hc
    obtain ⟨rfl,rfl⟩:=hc
    simp only [Option.some.injEq,Prod.mk.injEq,AV.p.injEq,PV.list.injEq] at hout
    obtain ⟨rfl,hset⟩:=hout
    have hob1:c1.obj true k2=some (.pcells s xs):=by
      have:c1.g=g1:=hg1.g.symm
      simp [Cx.obj,this,hob]
    have h4:=hg1.F 4
    rw [hav] at h4
    obtain ⟨t1,t2,t3⟩:=freeze_rel hg1.H hob1 h4
    refine fin a1 (c1.set true k2 .dead none c1.w) hg1.D ?_ ?_ (hE1.trans t1.evo) t2 ⟨_,rfl,.p _ _ t3⟩
    · have:c1.l=[]:=hg1.l.symm
      simpa [Cx.set] using this
    · have:c1.g=g1:=hg1.g.symm
      simp [Cx.set,this,hset]
  | normal =>
    simp only [delOut] at hout
    split at hout
    rotate_left
    · cases hout
    rename_i k2 n2 i hav0 hav5
    split at hout
    rotate_left
    · cases hout
    rename_i s xs hob
    split at hout
    rotate_left
    · cases hout
    rename_i hc
    obtain ⟨rfl,rfl,hi0,hin⟩:=hc
    simp only [Option.some.injEq,Prod.mk.injEq,AV.p.injEq,PV.list.injEq] at hout
    obtain ⟨rfl,hset⟩:=hout
    have hg1g:c1.g=g1:=hg1.g.symm
    have hob1:c1.obj true k2=some (.pcells s xs):=by simp [Cx.obj,hg1g,hob]
    have h0:=hg1.F 0
    rw [hav0] at h0
    have h5:=hg1.F 5
    rw [hav5] at h5
    have h5:=relV_int h5
    obtain ⟨A,cap,hv0,hrow⟩:=row_now h0 hob1 rfl
    rcases hrow with ⟨_,hn0,_⟩ | ⟨b,arr,e,q1,rfl,q3,q4,q5,q6⟩
    · omega
    simp only [AObj.sz] at q6
    have hR1:RelRow c1 (c1.μ true k2) s (lift xs):=hg1.H.objs true k2 _ hob1
    rw [q1] at hR1
    obtain ⟨arr',e',hh,hrows⟩:=relRow_rows hR1
    rw [q5] at hh
    cases hh
    obtain ⟨m,rfl⟩:∃ m:Nat,i=m:=⟨i.toNat,by omega⟩
    have hmn:m<xs.length:=by omega
    simp only [Int.toNat_natCast] at *
    unfold delTail at htail
    split at htail
    rotate_left
    · cases htail
    rename_i i4 o4 i5 o5
    simp only [Bool.and_eq_true] at htail
    obtain ⟨ht4,ht5⟩:=htail
    split at ht4
    rotate_left
    · cases ht4
    rename_i x0 x1 x2 x3 ho4
    split at ht5
    rotate_left
    · cases ht5
    rename_i y0 y1 y2 y3 ho5
    simp only [Bool.and_eq_true] at ht4 ht5
    obtain ⟨⟨⟨hx0,hx1⟩,hx2⟩,hx3⟩:=ht4
    obtain ⟨⟨⟨hy0,hy1⟩,hy2⟩,hy3⟩:=ht5
    simp only [toExit,Exit.then]
    have hN:=hg1.N
    have E0:a1.eval (.tmp 0) = .slice (some ⟨b,0,none⟩) xs.length cap:=hv0
    have E5:a1.eval (.tmp 5) = .int .i64 m:=h5
    have hfz:∀ j,c1.w.frozen? ⟨b,j,none⟩=false:=fun j=>by simp [World.frozen?,q5]
    have hmul:(xs.length - m)*s+m*s=xs.length*s:=by rw [← Nat.add_mul];congr 1;omega
    have hcap:xs.length*s≤arr.size:=by rw [q6];exact Nat.mul_le_mul_right _ q3
    show (Code.region i4 o4 false).wp P _ a1 c1.w
    refine wp_region_list ?_
    rw [ho4]
    obtain ⟨gd,dd,rr⟩:=run_mv (P:=P) hx0 a1 c1.w
    refine wpList_step gd rr ?_
    rw [dd,E0]
    obtain ⟨gd,dd,rr⟩:=run_mv (P:=P) hx1 (a1.put (some 36) (.slice (some ⟨b,0,none⟩) xs.length cap)) c1.w
    refine wpList_step gd rr ?_
    rw [dd,putEval (by omega),if_neg (by decide),E5]
    obtain ⟨gd,dd,rr⟩:=run_cut hx2 ((a1.put (some 36) (.slice (some ⟨b,0,none⟩) xs.length cap)).put (some 37) (.int .i64 m)) c1.w (b:=b) (n:=xs.length) (cp:=cap) (m:=m) (by rw [putEval (by rw [putSize];omega),if_neg (by decide),putEval (by omega),if_pos rfl]) (by rw [putEval (by rw [putSize];omega),if_pos rfl]) hmn q3
    refine wpList_step gd rr ?_
    rw [dd]
    obtain ⟨gd,dd,zs,hzl,rr⟩:=run_clearOp hx3 (((a1.put (some 36) (.slice (some ⟨b,0,none⟩) xs.length cap)).put (some 37) (.int .i64 m)).put (some 38) (.slice (some ⟨b,m*s,none⟩) (xs.length - m) (cap - m))) c1.w (b:=b) (off:=m*s) (n:=xs.length - m) (cp:=cap - m) (by rw [putEval (by rw [putSize,putSize];omega),if_pos rfl]) (by omega) (fun j hj=>by
      rw [cell_of_row c1.w b _ arr _ (0,0) q5,Array.getElem?_eq_getElem (by omega)];rfl) hfz
    refine wpList_step gd rr ?_
    rw [dd]
    simp only [wpList,Exit.then]
    have hw1:∃ w1,w1=c1.w.setCells b (m*s) zs:=⟨_,rfl⟩
    obtain ⟨w1,hw1⟩:=hw1
    rw [← hw1]
    have hA:∃ a5:Act,a5=((((a1.put (some 36) (.slice (some ⟨b,0,none⟩) xs.length cap)).put (some 37) (.int .i64 m)).put (some 38) (.slice (some ⟨b,m*s,none⟩) (xs.length - m) (cap - m))).put none (.tuple #[])):=⟨_,rfl⟩
    obtain ⟨a5,hA⟩:=hA
    rw [← hA]
    have F0:a5.eval (.tmp 0) = .slice (some ⟨b,0,none⟩) xs.length cap:=by
      rw [hA]
      show (Act.put _ (some 38) _).eval _=_
      rw [putEval (by simp only [putSize];omega),if_neg (by decide),putEval (by simp only [putSize];omega),if_neg (by decide),putEval (by omega),if_neg (by decide),E0]
    have F5:a5.eval (.tmp 5) = .int .i64 m:=by
      rw [hA]
      show (Act.put _ (some 38) _).eval _=_
      rw [putEval (by simp only [putSize];omega),if_neg (by decide),putEval (by simp only [putSize];omega),if_neg (by decide),putEval (by omega),if_neg (by decide),E5]
    have FN:a5.tmps.size=42:=by rw [hA];simp only [putSize];omega
    have FD:a5.defers=[]:=by rw [hA];simp only [putDefers];exact hg1.D
    show (Code.region i5 o5 false).wp P _ a5 w1
    refine wp_region_list ?_
    rw [ho5]
    obtain ⟨gd,dd,rr⟩:=run_mv (P:=P) hy0 a5 w1
    refine wpList_step gd rr ?_
    rw [dd,F0]
    obtain ⟨gd,dd,rr⟩:=run_mv (P:=P) hy1 (a5.put (some 39) (.slice (some ⟨b,0,none⟩) xs.length cap)) w1
    refine wpList_step gd rr ?_
    rw [dd,putEval (by omega),if_neg (by decide),F5]
    obtain ⟨gd,dd,rr⟩:=run_top hy2 ((a5.put (some 39) (.slice (some ⟨b,0,none⟩) xs.length cap)).put (some 40) (.int .i64 m)) w1 (b:=b) (n:=xs.length) (cp:=cap) (m:=m) (by rw [putEval (by rw [putSize];omega),if_neg (by decide),putEval (by omega),if_pos rfl]) (by rw [putEval (by rw [putSize];omega),if_pos rfl]) hmn q3
    refine wpList_step gd rr ?_
    rw [dd]
    obtain ⟨gd,dd,rr⟩:=run_mv (P:=P) hy3 (((a5.put (some 39) (.slice (some ⟨b,0,none⟩) xs.length cap)).put (some 40) (.int .i64 m)).put (some 41) (.slice (some ⟨b,0,none⟩) m cap)) w1
    refine wpList_step gd rr ?_
    rw [dd,putEval (by simp only [putSize];omega),if_pos rfl]
    simp only [wpList,Exit.then]
    refine wp_ret ?_
    have hml:(xs.take m).length=m:=by rw [List.length_take];omega
    have hbw:b<c1.w.heap.size:=(Array.getElem?_eq_some_iff.1 q5).1
    obtain ⟨t1,t2,t3⟩:=kill_list hg1.H hob1 (w':=w1) (by rw [hw1,q1];exact Only.cells (.inl rfl) _ _ (Only.refl _ _)) (b:=b) (cap:=cap) (.inl q1) (by rw [hw1,heap_lt_setCells];exact hbw) (xs:=xs.take m) (by omega) q4 (by rw [lift_take];exact hrows.head m) (fun j v hj=>by
      have hj':j<m*s:=by
        have:=(List.getElem?_eq_some_iff.1 hj).1
        rw [List.length_take] at this
        omega
      rw [hw1,World.cell?_setCells_out b _ _ _ _ (fun _ _=>by show j<m*s∨_;omega),cell_of_row c1.w b _ arr _ (0,0) q5]
      rw [List.getElem?_take,if_pos hj'] at hj
      simpa using hj)
    rw [hml] at t3
    refine fin _ (c1.set true k2 .dead none w1) (by simp only [putDefers];exact FD) ?_ ?_ (hE1.trans t1.evo) t2 ⟨_,rfl, ?_⟩
    · have:c1.l=[]:=hg1.l.symm
      simpa [Cx.set] using this
    · simp [Cx.set,hg1g,hset]
    · have e4:(Act.put (((a5.put (some 39) (.slice (some ⟨b,0,none⟩) xs.length cap)).put (some 40) (.int .i64 m)).put (some 41) (.slice (some ⟨b,0,none⟩) m cap)) (some 4) (.slice (some ⟨b,0,none⟩) m cap)).eval (.tmp 4) = .slice (some ⟨b,0,none⟩) m cap:=by rw [putEval (by simp only [putSize];omega),if_pos rfl]
      have e5:∀ a:Act,a.eval (.tmp 4)=a.tmps.getD 4 undef:=fun _=>rfl
      rw [← e5,e4]
      exact t3
end
end Go.TA


end
section
/- strconv.Itoa, told at once. -/
namespace Go.TA
open Go.RowKit Go.Sort
def ΓW (P : Program) (W : World) : Ground where
  B:=W.heap.size
  holds w:=W.heap.size≤w.heap.size∧∃ g,P.globalNamed "internal/strconv.uint64pow10" = some g∧g<W.heap.size∧Lib.TabIs P w "internal/strconv.uint64pow10" .u64 Lib.pow10Tab
  lt w h:=h.1
  keep w w' h hb hs:=by
    obtain ⟨h1,g,hg,hlt,ht⟩:=h
    refine ⟨Nat.le_trans h1 hs,g,hg,hlt, ?_⟩
    unfold Lib.TabIs World.var? at *
    rw [hg] at *
    simp only [Option.bind_some] at *
    rw [hb g hlt]
    exact ht
theorem ΓW_tab {P:Program} {W:World} (w:World) (h:(ΓW P W).holds w):Lib.TabIs P w "internal/strconv.uint64pow10" .u64 Lib.pow10Tab:=by
 obtain ⟨_,_,_,_,h⟩:=h
 exact h
theorem ΓW_holds {P:Program} {W:World} (h:Lib.TabIs P W "internal/strconv.uint64pow10" .u64 Lib.pow10Tab):(ΓW P W).holds W:=by
 refine ⟨Nat.le_refl _, ?_⟩
 have h':=h
 unfold Lib.TabIs World.var? at h'
 obtain ⟨g,hg,h2⟩:=Option.bind_eq_some_iff.1 h'
 refine ⟨g,hg, ?_,h⟩
 rcases Nat.lt_or_ge g W.heap.size with hlt | hge
 ·exact hlt
 ·rw [Array.getElem?_eq_none hge] at h2
  cases h2
def pItoa (C:Calls'):List AV→List AObj→Option (AV × List AObj)
 | [.p (.int .i64 n)],g=>if -9223372036854775808≤n∧n≤9223372036854775807 then some (.p (.str (Lib.itoa n)),g) else none
 | _,_=>none
section
variable {P:Program} {Γ : Ground} {f:Nat}
theorem pItoa_ok (hcal:calleeOk P f=true) (hΓ : ∀ w, Γ.holds w→Lib.TabIs P w "internal/strconv.uint64pow10" .u64 Lib.pow10Tab)
  (h:∀ (n:Int) (w:World), -9223372036854775808≤n→n≤9223372036854775807→Lib.TabIs P w "internal/strconv.uint64pow10" .u64 Lib.pow10Tab→Calls P f #[.int .i64 n] w fun e w'=>e = .returned (.string ⟨(Lib.itoa n).toArray⟩)∧∃ k os,w'=grow (w.drewN k) os):PrimOk P Γ f pItoa:=by
 intro C hC args g r g' hp hno hgo
 unfold pItoa at hp
 split at hp
 ·rename_i n
  split at hp
  ·rename_i hn
   simp only [Option.some.injEq,Prod.mk.injEq] at hp
   obtain ⟨rfl,rfl⟩:=hp
   refine ⟨hcal,hgo,rfl,fun c vs hl hgc hH hlen hrel => ?_⟩
   match vs,hlen with
   | [v],_=>
   have e1:=relV_int (hrel 0 (by simp) (by simp))
   simp only [List.getElem_cons_zero] at e1
   subst e1
   refine Calls.mono (h n c.w hn.1 hn.2 (hΓ _ hH.ground)) (fun e w' he => ?_)
   obtain ⟨rfl,k,os,rfl⟩:=he
   have hbel:Go.RowKit.Below c.w.heap.size c.w (grow (c.w.drewN k) os):=Lib.below_grow _ _ (Nat.le_refl _) k os
   exact ⟨_,rfl,{ c with w:=grow (c.w.drewN k) os },hl,hgc,rfl,evolve_below hbel hH.lt,hH.below hbel,.p _ _ (.str _)⟩
  ·cases hp
 ·cases hp
end
end Go.TA


end
section
/- slices.Insert at int: its roads, and what it is. -/
namespace Go.TA.Tryz
open Go.Shelf Go.RowKit Go.Lib Go.Proofs
def zeroI:Value:=.int .i64 0
set_option maxHeartbeats 4000000 in
set_option maxRecDepth 100000 in
theorem ins_shiftI (b n c i vb voff m vc : Nat) (cs vs : List Value) (w : World) (hi : i < n) (hm : 0 < m) (hroom : n + m ≤ c) (hc63 : c ≤ 9223372036854775807) (hvb : vb ≠ b)
    (hcl:cs.length=n) (hvl:vs.length=m)
    (hcs:∀ j v,cs[j]? = some v→w.cell? ⟨b,j,none⟩=some v) (hsp:∀ j,j<(n+m)→(w.cell? ⟨b,j,none⟩).isSome=true) (hfz:∀ j,j<(n+m)→w.frozen? ⟨b,j,none⟩=false)
    (hvs:∀ j v,vs[j]? = some v→w.cell? ⟨vb,voff+j,none⟩=some v) (h1c:∀ v ∈ cs,v.oneCell'=true) (h1v:∀ v ∈ vs,v.oneCell'=true)
    (tA tB:TypeId) (kA kB:Nat) (hsa:w.shape? vb=some (tA,kA)) (hsb:w.shape? b=some (tB,kB)) (hkA:kA≠0) (hfb:∀ j,w.frozen? ⟨b,j,none⟩=false) :
    Calls Go.Proofs.Tryz.prog 169 #[.slice (some ⟨b,0,none⟩) n c,.int .i64 i,.slice (some ⟨vb,voff,none⟩) m vc] w fun e w'=>
      e = .returned (.slice (some ⟨b,0,none⟩) (n+m) c)∧w'=(w.drew.setCells b ((i+m)) (cs.drop (i))).setCells b (i) vs:=by
  have mixed:Go.Proofs.Tryz.prog.follows .mixedOrders=true:=by kernel_rfl
  have hz1:¬ ((m:Int)=0):=by omega
  have hz2:¬ ((i:Int)=(n:Int)):=by omega
  have hov:∀ lb cb,(callFunc 199 #[.slice (some ⟨vb,voff,none⟩) m vc,.slice (some ⟨b,(i+m),none⟩) lb cb]).run Go.Proofs.Tryz.prog w = .ok (.value (.bool false)) w:=fun lb cb=>by
    rw [run_callFunc_extern Tryz.func199 (by kernel_rfl) (by kernel_rfl) (by kernel_rfl) (e:=Extern.SlicesOverlaps.overlaps #[47,47] #[4]) (by kernel_rfl),
      run_overlaps_own w 47 4 3 Tryz.underlying47 1 (fun w=>by kernel_rfl) ⟨vb,voff,none⟩ ⟨b,(i+m),none⟩ m vc lb cb hvb tA tB kA kB hsa hsb hkA (hfb _) (hfb _)]
    rfl
  have hsz:(Go.Proofs.Tryz.prog.info? 3).map (·.size)=some 1:=by kernel_rfl
  have hw1:IntKind.i64.wrap ((i:Int)+(m:Int))=(i:Int)+(m:Int):=by rw [IntKind.wrap_i64];omega
  have hb1:(0:Int)≤(i:Int)+(m:Int):=by omega
  have hin:i≤n:=by omega
  have htn:((i:Int)+(m:Int)).toNat=i+m:=by omega
  have hb2:¬ (c=i+m):=by omega
  have hb3:(i:Int)≤(n:Int)+(m:Int):=by omega
  have hb4:¬ (c=i):=by omega
  have hdl:(cs.drop (i)).length=(n - i):=by rw [List.length_drop];omega
  have hcp1:∀ ty dc sc,(Builtin.copy_ #[47,47] ty #[.slice (some ⟨b,(i+m),none⟩) (n+m - (i+m)) dc,.slice (some ⟨b,i,none⟩) (n+m - i) sc]).run Go.Proofs.Tryz.prog w.drew = .ok (goInt (Nat.min (n+m - i) (n+m - (i+m)))) (w.drew.setCells b ((i+m)) (cs.drop (i))):=fun ty dc sc=>
    run_copy_k w.drew _ _ ty 3 1 b ((i+m)) (n+m - (i+m)) dc ⟨b,i,none⟩ (n+m - i) sc (cs.drop (i)) Tryz.underlying47 hsz (by rw [hdl];simp only [Nat.min_def];split <;> omega)
      (fun j v hj=>by rw [Addr.add_lit];exact hcs (i+j) v (by rwa [List.getElem?_drop] at hj))
      (fun j hj=>hsp _ (by omega)) (fun j hj=>hfz _ (by omega)) (fun v hv=>h1c v (List.mem_of_mem_drop hv))
  obtain ⟨W1,hW1⟩:∃ W1,W1=w.drew.setCells b ((i+m)) (cs.drop (i)):=⟨_,rfl⟩
  have hsp1:∀ k,k<(n+m)→(W1.cell? ⟨b,k,none⟩).isSome=true:=fun k hk=>by
    rw [hW1]
    exact isSome_setCells b (cs.drop (i)) ((i+m)) w.drew (fun j hj=>hsp ((i+m)+j) (by rw [hdl] at hj;omega)) k (hsp k hk)
  have hcp2:∀ (W:World),(∀ x,W.cell? x=W1.cell? x)→(∀ x,W.frozen? x=W1.frozen? x)→∀ ty dc,(Builtin.copy_ #[47,47] ty #[.slice (some ⟨b,i,none⟩) (n+m - i) dc,.slice (some ⟨vb,voff,none⟩) m vc]).run Go.Proofs.Tryz.prog W = .ok (goInt (Nat.min m (n+m - i))) (W.setCells b (i) vs):=fun W hWc hWf ty dc=>
    run_copy_k W _ _ ty 3 1 b (i) (n+m - i) dc ⟨vb,voff,none⟩ m vc vs Tryz.underlying47 hsz (by rw [hvl];simp only [Nat.min_def];split <;> omega)
      (fun j v hj=>by
        rw [Addr.add_lit,hWc,hW1,World.cell?_setCells_out b _ _ _ _ (fun h _=>absurd h hvb)]
        exact hvs j v hj)
      (fun j hj=>by rw [hWc];exact hsp1 _ (by omega)) (fun j hj=>by rw [hWf,hW1,World.frozen?_setCells];exact hfz _ (by omega)) h1v
  rw [← hW1] at hcp1
  go_enter Tryz.func169,Tryz.ntmps169
  go_wp2_with (simp only [hov])
  go_region_law_o (refine step_copy_runI rfl _ _ 47 47 rfl _ _ (by simp [Act.eval,Act.put]) (by simp [Act.eval,Act.put]) (hcp1 _ _ _) ?_)
  go_wp2_with (at_builtin;refine wpList_copy_runI _ rfl _ _ 47 47 rfl _ _ rfl rfl (hcp2 _ (fun _=>rfl) (fun _=>rfl) _ _) ?_)
  go_ret
  first | exact ⟨rfl,rfl⟩ | exact ⟨rfl,by rw [hW1]⟩
set_option maxHeartbeats 4000000 in
set_option maxRecDepth 100000 in
theorem ins_end_roomI (b n c vb voff m vc:Nat) (vs:List Value) (w:World) (hm:0<m) (hroom:n+m≤c) (hc63:c≤9223372036854775807) (hvl:vs.length=m)
  (hsp:∀ j,j<m→(w.cell? ⟨b,n+j,none⟩).isSome=true) (hfz:∀ j,j<m→w.frozen? ⟨b,n+j,none⟩=false)
  (hvs:∀ j v,vs[j]? = some v→w.cell? ⟨vb,voff+j,none⟩=some v) (h1v:∀ v ∈ vs,v.oneCell'=true) :
  Calls Go.Proofs.Tryz.prog 169 #[.slice (some ⟨b,0,none⟩) n c,.int .i64 n,.slice (some ⟨vb,voff,none⟩) m vc] w fun e w'=>
   e = .returned (.slice (some ⟨b,0,none⟩) (n+m) c)∧w'=w.setCells b (n) vs:=by
 have mixed:Go.Proofs.Tryz.prog.follows .mixedOrders=true:=by kernel_rfl
 have hz1:¬ ((m:Int)=0):=by omega
 obtain ⟨i0,hi0,hs0⟩:∃ i,Go.Proofs.Tryz.prog.info? 3=some i∧i.size=1:=⟨_,rfl,rfl⟩
 have hsrc:Src Go.Proofs.Tryz.prog i0.size 47 (.slice (some ⟨vb,voff,none⟩) m vc) m vs w:=Src.ofSlice w Tryz.underlying47 ⟨vb,voff,none⟩ m vc vs (by rw [hs0];omega) (fun j u hj=>by rw [Addr.add_lit];exact hvs j u hj) h1v
 go_enter Tryz.func169,Tryz.ntmps169
 go_wp2_with (at_builtin;refine wpList_append_room_src _ rfl _ _ 47 47 rfl 3 i0 Tryz.underlying47 hi0 b 0 n c rfl _ rfl m vs hsrc hroom (by rw [hs0,Nat.zero_add,hvl];first | exact hsp | simpa using hsp) (by rw [hs0,Nat.zero_add,hvl];first | exact hfz | simpa using hfz) ?_)
 go_ret
 first | exact ⟨rfl,rfl⟩ | exact ⟨rfl,by rw [hs0,Nat.zero_add]⟩ | exact ⟨rfl,by rw [hs0,Nat.zero_add,Nat.mul_one]⟩
set_option maxHeartbeats 4000000 in
set_option maxRecDepth 100000 in
theorem ins_end_growI (base:Option Addr) (n c vb voff m vc:Nat) (cs vs:List Value) (w:World) (hm:0<m) (hnc:n≤c) (hroom:c<n+m) (hbig:(n+m)*8≤140737488355328)
    (hcl:cs.length=n) (hvl:vs.length=m) (hnil:base=none→n=0)
    (hcs:∀ a,base=some a→∀ j v,cs[j]? = some v→w.cell? (a.add j)=some v)
    (hvs:∀ j v,vs[j]? = some v→w.cell? ⟨vb,voff+j,none⟩=some v) (h1v:∀ v ∈ vs,v.oneCell'=true) :
    Calls Go.Proofs.Tryz.prog 169 #[.slice base n c,.int .i64 n,.slice (some ⟨vb,voff,none⟩) m vc] w fun e w'=>
      e = .returned (.slice (some ⟨w.heap.size,0,none⟩) (n+m) (grownCap w (n+m) c 3)) ∧
      w'=w.drew.alloc (.cells ((cs++vs).toArray++Builtin.zeroCells zeroI.cells (grownCap w (n+m) c 3 - (n+m))) 3):=by
  have mixed:Go.Proofs.Tryz.prog.follows .mixedOrders=true:=by kernel_rfl
  have hz1:¬ ((m:Int)=0):=by omega
  obtain ⟨i0,hi0,hs0,hz0,hb0⟩:∃ i,Go.Proofs.Tryz.prog.info? 3=some i∧i.size=1∧i.zero=some zeroI∧i.bytes=8:=⟨_,rfl,rfl,rfl,rfl⟩
  have hsrc:Src Go.Proofs.Tryz.prog i0.size 47 (.slice (some ⟨vb,voff,none⟩) m vc) m vs w:=Src.ofSlice w Tryz.underlying47 ⟨vb,voff,none⟩ m vc vs (by rw [hs0];omega) (fun j u hj=>by rw [Addr.add_lit];exact hvs j u hj) h1v
  have hold:(Builtin.firstCells i0.size n (.slice base n c)).run Go.Proofs.Tryz.prog w.drew = .ok cs.toArray w.drew:=by
    rw [hs0]
    cases base with
    | none =>
      have h0:=hnil rfl
      subst h0
      have hc0:cs=[]:=List.length_eq_zero_iff.1 (by simpa using hcl)
      rw [hc0]
      exact run_firstCells_none w.drew 1 0 0 c
    | some a=>exact run_firstCells_some w.drew 1 n a n c cs (by omega) (fun j v hj=>hcs a rfl j v hj)
  have hrun:∀ ty,(Builtin.append_ #[47,47] ty #[.slice base n c,.slice (some ⟨vb,voff,none⟩) m vc]).run Go.Proofs.Tryz.prog w=_:=fun ty=>
    run_append_grow_src w 47 47 ty 3 i0 zeroI Tryz.underlying47 hi0 hz0 base n c cs hold _ m vs hsrc hroom (by omega) (by rw [hb0];exact growslice_fits hroom hbig)
  go_enter Tryz.func169,Tryz.ntmps169
  cases base with
  | none =>
    have h0:=hnil rfl
    subst h0
    go_wp2_with (at_builtin;refine Lib.wpList_append_run _ rfl _ _ _ _ rfl _ _ rfl rfl _ _ (hrun _) ?_)
    go_ret
    exact ⟨rfl,rfl⟩
  | some a =>
    obtain ⟨ab,ao,asp⟩:=a
    go_wp2_with (at_builtin;refine Lib.wpList_append_run _ rfl _ _ _ _ rfl _ _ rfl rfl _ _ (hrun _) ?_)
    all_goals (go_ret;exact ⟨rfl,rfl⟩)
set_option maxHeartbeats 4000000 in
set_option maxRecDepth 100000 in
theorem ins_growI (b n c i vb voff m vc : Nat) (cs vs : List Value) (w : World) (hi : i < n) (hm : 0 < m) (hnc : n ≤ c) (hroom : c < n + m) (hbig : (n + m) * 8 ≤ 140737488355328)
    (hcl:cs.length=n) (hvl:vs.length=m)
    (hcs:∀ j v,cs[j]? = some v→w.cell? ⟨b,j,none⟩=some v)
    (hvs:∀ j v,vs[j]? = some v→w.cell? ⟨vb,voff+j,none⟩=some v) (h1c:∀ v ∈ cs,v.oneCell'=true) (h1v:∀ v ∈ vs,v.oneCell'=true) :
    Calls Go.Proofs.Tryz.prog 169 #[.slice (some ⟨b,0,none⟩) n c,.int .i64 i,.slice (some ⟨vb,voff,none⟩) m vc] w fun e w'=>
      e = .returned (.slice (some ⟨w.heap.size,0,none⟩) (n+m) (grownCap w (n+m) c 3)) ∧
      w'=(((w.alloc (.cells ((cs.take (i)).toArray++Builtin.zeroCells zeroI.cells (n+m - i)++Builtin.zeroCells zeroI.cells (grownCap w (n+m) c 3 - (n+m))) 3)).drew.setCells w.heap.size (i) vs).drew).setCells w.heap.size ((i+m)) (cs.drop (i)):=by
  have mixed:Go.Proofs.Tryz.prog.follows .mixedOrders=true:=by kernel_rfl
  obtain ⟨i0,hi0,hzs,hz0,hzb⟩:∃ i,Go.Proofs.Tryz.prog.info? 3=some i∧i.size=1∧i.zero=some zeroI∧i.bytes=8:=⟨_,rfl,rfl,rfl,rfl⟩
  have hz1:¬ ((m:Int)=0):=by omega
  have hz2:¬ ((i:Int)=(n:Int)):=by omega
  have hz3:(c:Int)<(n:Int)+(m:Int):=by omega
  have hsz:(Go.Proofs.Tryz.prog.info? 3).map (·.size)=some 1:=by kernel_rfl
  have hbw:b<w.heap.size:=block_lt_of_cell (hcs 0 _ (List.getElem?_eq_getElem (by omega)))
  have hvw:vb<w.heap.size:=block_lt_of_cell (hvs 0 _ (List.getElem?_eq_getElem (by omega)))
  have hkk:(n:Int)+(m:Int) - (i:Int)=((n+m - i:Nat):Int):=by omega
  have hik:i+(n+m - i)=n+m:=by omega
  have hold:(Builtin.firstCells i0.size i (.slice (some ⟨b,0,none⟩) i c)).run Go.Proofs.Tryz.prog w.drew = .ok (cs.take (i)).toArray w.drew:=by
    rw [hzs]
    exact run_firstCells_some w.drew 1 i ⟨b,0,none⟩ i c (cs.take (i)) (by rw [List.length_take];omega) (fun j v hj=>by
      rw [Addr.add_lit,Nat.zero_add]
      rw [List.getElem?_take] at hj
      split at hj
      · exact hcs j v hj
      · cases hj)
  have hrz:∀ ty,(Builtin.append_ #[47,3] ty #[.slice (some ⟨b,0,none⟩) i c,.int .i64 ((n:Int)+(m:Int) - (i:Int))]).run Go.Proofs.Tryz.prog w =
      .ok (.slice (some ⟨w.heap.size,0,none⟩) (n+m) (grownCap w (n+m) c 3)) (w.drew.alloc (.cells ((cs.take (i)).toArray++Builtin.zeroCells zeroI.cells (n+m - i)++Builtin.zeroCells zeroI.cells (grownCap w (n+m) c 3 - (n+m))) 3)):=fun ty=>by
    have h:=Lib.run_append_grow_zeros w 47 3 ty 3 i0 zeroI .i64 .i64 Tryz.underlying47 Tryz.underlying3 hi0 hz0 (some ⟨b,0,none⟩) i c (cs.take (i)) hold (n+m - i) (by omega) (by omega) (by omega) (by omega) (by rw [hzb];omega) (by rw [hzb,hik];exact growslice_fits hroom hbig)
    rw [hik] at h
    rw [hkk]
    exact h
  obtain ⟨G,hG⟩:∃ G,G=grownCap w (n+m) c 3:=⟨_,rfl⟩
  obtain ⟨ROW,hROW⟩:∃ ROW:Array Value,ROW=(cs.take (i)).toArray++Builtin.zeroCells zeroI.cells (n+m - i)++Builtin.zeroCells zeroI.cells (G - (n+m)):=⟨_,rfl⟩
  rw [← hG] at hrz ⊢
  rw [← hROW] at hrz ⊢
  have hRl:(n+m)≤ROW.size:=by
    rw [hROW]
    simp [Builtin.zeroCells,Value.cells,zeroI]
    omega
  obtain ⟨W1,hW1⟩:∃ W1,W1=w.drew.alloc (.cells ROW 3):=⟨_,rfl⟩
  rw [← hW1] at hrz
  have hN:∀ j,j<(n+m)→(W1.cell? ⟨w.heap.size,j,none⟩).isSome=true:=fun j hj=>by
    rw [hW1,World.cell?_alloc_at (w:=w.drew) ROW _ w.heap.size j rfl,Array.getElem?_eq_getElem (by omega)];rfl
  have hNf:∀ j,W1.frozen? ⟨w.heap.size,j,none⟩=false:=fun j=>by rw [hW1];exact World.frozen?_alloc_at (w:=w.drew) ROW _ w.heap.size j rfl
  have hOb:∀ j v,w.cell? ⟨b,j,none⟩=some v→W1.cell? ⟨b,j,none⟩=some v:=fun j v h=>by rw [hW1,World.cell?_alloc_past (w:=w.drew) _ b j hbw];exact h
  have hOv:∀ j v,w.cell? ⟨vb,voff+j,none⟩=some v→W1.cell? ⟨vb,voff+j,none⟩=some v:=fun j v h=>by rw [hW1,World.cell?_alloc_past (w:=w.drew) _ vb (voff+j) hvw];exact h
  have hcpA:∀ (W:World),(∀ x,W.cell? x=W1.cell? x)→(∀ x,W.frozen? x=W1.frozen? x)→∀ ty dc,(Builtin.copy_ #[47,47] ty #[.slice (some ⟨w.heap.size,i,none⟩) (n+m - i) dc,.slice (some ⟨vb,voff,none⟩) m vc]).run Go.Proofs.Tryz.prog W = .ok (goInt (Nat.min m (n+m - i))) (W.setCells w.heap.size (i) vs):=fun W hWc hWf ty dc=>
    run_copy_k W _ _ ty 3 1 w.heap.size (i) (n+m - i) dc ⟨vb,voff,none⟩ m vc vs Tryz.underlying47 hsz (by rw [hvl];simp only [Nat.min_def];split <;> omega)
      (fun j v hj=>by rw [Addr.add_lit,hWc];exact hOv _ v (hvs j v hj))
      (fun j hj=>by rw [hWc];exact hN _ (by omega)) (fun j hj=>by rw [hWf];exact hNf _) h1v
  have hGn:n+m≤G:=by rw [hG];exact grownCap_ge w _ _ _
  have hG63:G≤9223372036854775807:=by
    have:=grownCap_le_maxLen w (n+m) c 3 (by unfold maxLen;omega)
    rw [← hG] at this
    unfold maxLen at this
    omega
  have hGi:¬ (G=i):=by omega
  have hGim:¬ (G=i+m):=by omega
  have hci:¬ (c=i):=by omega
  have hbN:b≠w.heap.size:=by omega
  have hdl:(cs.drop (i)).length=(n - i):=by rw [List.length_drop];omega
  have hcpB:∀ (W:World),(∀ x,W.cell? x=(W1.setCells w.heap.size (i) vs).cell? x)→(∀ x,W.frozen? x=(W1.setCells w.heap.size (i) vs).frozen? x)→∀ ty dc sc,(Builtin.copy_ #[47,47] ty #[.slice (some ⟨w.heap.size,(i+m),none⟩) (n+m - (i+m)) dc,.slice (some ⟨b,i,none⟩) (n - i) sc]).run Go.Proofs.Tryz.prog W = .ok (goInt (Nat.min (n - i) (n+m - (i+m)))) (W.setCells w.heap.size ((i+m)) (cs.drop (i))):=fun W hWc hWf ty dc sc=>
    run_copy_k W _ _ ty 3 1 w.heap.size ((i+m)) (n+m - (i+m)) dc ⟨b,i,none⟩ (n - i) sc (cs.drop (i)) Tryz.underlying47 hsz (by rw [hdl];simp only [Nat.min_def];split <;> omega)
      (fun j v hj=>by
        rw [Addr.add_lit,hWc,World.cell?_setCells_out _ _ _ _ _ (fun h _=>absurd h hbN)]
        exact hOb _ v (hcs (i+j) v (by rwa [List.getElem?_drop] at hj)))
      (fun j hj=>by rw [hWc];exact isSome_setCells _ vs (i) W1 (fun t ht=>hN _ (by omega)) _ (hN _ (by omega)))
      (fun j hj=>by rw [hWf,World.frozen?_setCells];exact hNf _) (fun v hv=>h1c v (List.mem_of_mem_drop hv))
  subst hW1
  have hE1:∀ x,((w.alloc (.cells ROW 3)).drew).cell? x=(w.drew.alloc (.cells ROW 3)).cell? x:=fun x=>rfl
  have hE2:∀ x,((w.alloc (.cells ROW 3)).drew).frozen? x=(w.drew.alloc (.cells ROW 3)).frozen? x:=fun x=>rfl
  have hF1:∀ x,(((w.alloc (.cells ROW 3)).drew.setCells w.heap.size (i) vs).drew).cell? x=((w.drew.alloc (.cells ROW 3)).setCells w.heap.size (i) vs).cell? x:=fun x=>rfl
  have hF2:∀ x,(((w.alloc (.cells ROW 3)).drew.setCells w.heap.size (i) vs).drew).frozen? x=((w.drew.alloc (.cells ROW 3)).setCells w.heap.size (i) vs).frozen? x:=fun x=>rfl
  have hw1:IntKind.i64.wrap ((i:Int)+(m:Int))=(i:Int)+(m:Int):=by rw [IntKind.wrap_i64];omega
  have hb1:(0:Int)≤(i:Int)+(m:Int):=by omega
  have hin:i≤n:=by omega
  have htn:((i:Int)+(m:Int)).toNat=i+m:=by omega
  have hb3:(i:Int)≤(n:Int):=by omega
  clear hkk hik hold hROW hG hRl
  go_enter Tryz.func169,Tryz.ntmps169
  go_wp2_with (first
    | (at_builtin;refine Lib.wpList_append_run _ rfl _ _ _ _ rfl _ _ rfl rfl _ _ (hrz _) ?_)
    | (at_builtin;refine wpList_copy_runI _ rfl _ _ 47 47 rfl _ _ rfl rfl (hcpA _ hE1 hE2 _ _) ?_)
    | (at_builtin;refine wpList_copy_runI _ rfl _ _ 47 47 rfl _ _ rfl rfl (hcpB _ (fun _=>rfl) (fun _=>rfl) _ _ _) ?_))
  go_region_law_o (refine step_copy_runI rfl _ _ 47 47 rfl (.slice (some ⟨w.heap.size,(i+m),none⟩) (n+m - (i+m)) (G - (i+m))) (.slice (some ⟨b,i,none⟩) (n - i) (c - i)) (by simp [Act.eval,Act.put]) (by simp [Act.eval,Act.put]) (hcpB _ hF1 hF2 3 (G - (i+m)) (c - i)) ?_)
  go_wp2
  go_ret
  exact ⟨rfl,rfl⟩
theorem ins_specI : InsSpec Go.Proofs.Tryz.prog 169 1 := by
  unfold InsSpec
  simp only [Nat.mul_one]
  intro A n cp i vb voff m vc cs vs w hi hm hnc hcm hbig hcl hvl h1c h1v hA hV
  have hvs:∀ j v,vs[j]? = some v→w.cell? ⟨vb,voff+j,none⟩=some v:=hV
  obtain ⟨tA,kA,hsa,hkA⟩:=shape_of_cell (hvs 0 _ (List.getElem?_eq_getElem (by omega)))
  have hmax:maxLen=9223372036854775807:=by decide
  by_cases hroom:n+m≤cp
  · rcases hA with ⟨h1,h2,h3⟩ | ⟨b,arr,e,rfl,hvb,hh,hsz,hcc⟩
    · omega
    have hcs:∀ j v,cs[j]? = some v→w.cell? ⟨b,j,none⟩=some v:=fun j v h=>(cell_of_row w b j arr e (0,0) hh).trans (hcc j v h)
    have hbw:b<w.heap.size:=(Array.getElem?_eq_some_iff.1 hh).1
    have hsp:∀ j,j<(n+m)→(w.cell? ⟨b,j,none⟩).isSome=true:=fun j hj=>by rw [cell_of_row w b j arr e (0,0) hh,Array.getElem?_eq_getElem (by omega)];rfl
    have hfz:∀ j,w.frozen? ⟨b,j,none⟩=false:=fun j=>by simp [World.frozen?,hh]
    by_cases hin:i<n
    · refine Calls.mono (ins_shiftI b n cp i vb voff m vc cs vs w hin hm hroom (by omega) hvb hcl hvl hcs hsp (fun j _=>hfz j) hvs h1c h1v tA e kA arr.size hsa (by simp [World.shape?,hh]) hkA hfz) (fun e' w' he => ?_)
      obtain ⟨rfl,rfl⟩:=he
      refine ⟨b,cp,rfl,hroom,hcm,.inl ⟨_,rfl,rfl⟩,by rw [heap_lt_setCells,heap_lt_setCells];exact hbw,Only.cells (.inl rfl) _ _ (Only.cells (.inl rfl) _ _ (Only.refl w _).drew),fun j v hj => ?_⟩
      have:=shift_cells (a:=i) (w:=w.drew) (b:=b) (by omega) hcs (fun j hj=>hsp j (by omega)) j v hj
      rw [hvl,show i+m=(i+m) by omega] at this
      exact this
    · have hin:i=n:=by omega
      subst hin
      refine Calls.mono (ins_end_roomI b i cp vb voff m vc vs w hm hroom (by omega) hvl (fun j hj=>hsp _ (by omega)) (fun j _=>hfz _) hvs h1v) (fun e' w' he => ?_)
      obtain ⟨rfl,rfl⟩:=he
      refine ⟨b,cp,rfl,hroom,hcm,.inl ⟨_,rfl,rfl⟩,by rw [heap_lt_setCells];exact hbw,Only.cells (.inl rfl) _ _ (Only.refl w _),fun j v hj => ?_⟩
      rw [← hcl] at hj ⊢
      exact end_cells hcs (fun j hj=>hsp j (by omega)) j v hj
  · have hge:=grownCap_ge w (n+m) cp 3
    have hcm2:=grownCap_le_maxLen w (n+m) cp 3 (by omega)
    by_cases hin:i<n
    · rcases hA with ⟨h1,h2,h3⟩ | ⟨b,arr,e,rfl,hvb,hh,hsz,hcc⟩
      · omega
      have hcs:∀ j v,cs[j]? = some v→w.cell? ⟨b,j,none⟩=some v:=fun j v h=>(cell_of_row w b j arr e (0,0) hh).trans (hcc j v h)
      refine Calls.mono (ins_growI b n cp i vb voff m vc cs vs w hin hm hnc (by omega) (by omega) hcl hvl hcs hvs h1c h1v) (fun e' w' he => ?_)
      obtain ⟨rfl,rfl⟩:=he
      generalize grownCap w (n+m) cp 3=G at *
      obtain ⟨ROW,hROW⟩:∃ ROW:Array Value,ROW=(cs.take (i)).toArray++Builtin.zeroCells zeroI.cells (n+m - i)++Builtin.zeroCells zeroI.cells (G - (n+m)):=⟨_,rfl⟩
      have hRl:(n+m)≤ROW.size:=by
        rw [hROW]
        simp [Builtin.zeroCells,Value.cells,zeroI]
        omega
      have hRt:∀ j v,(cs.take (i))[j]? = some v→ROW[j]? = some v:=fun j v hj=>by
        have hlt:=(List.getElem?_eq_some_iff.1 hj).1
        rw [hROW,Array.getElem?_append_left (by simp at hlt ⊢;omega),Array.getElem?_append_left (by simpa using hlt)]
        simpa using hj
      rw [← hROW]
      have hN:∀ j,(w.alloc (.cells ROW 3)).drew.cell? ⟨w.heap.size,j,none⟩=ROW[j]? := fun j=>World.cell?_alloc_at (w:=w) ROW _ w.heap.size j rfl
      refine ⟨w.heap.size,G,rfl,hge,hcm2,.inr (Nat.le_refl _),by rw [heap_lt_setCells];show w.heap.size<(World.setCells _ _ _ _).heap.size;rw [heap_lt_setCells];show w.heap.size<(w.alloc _).heap.size;simp,Only.cells (.inr (Nat.le_refl _)) _ _ (Only.cells (.inr (Nat.le_refl _)) _ _ ((Only.refl w _).alloc _).drew).drew,fun j v hj => ?_⟩
      have:=grow_cells (a:=i) (vs:=vs) (w:=(w.alloc (.cells ROW 3)).drew) (w':=((w.alloc (.cells ROW 3)).drew.setCells w.heap.size (i) vs).drew) (b:=w.heap.size) (by omega) (fun j v hj=>(hN j).trans (hRt j v hj)) (fun j hj=>by rw [hN,Array.getElem?_eq_getElem (by omega)];rfl) (fun _=>rfl) j v hj
      rw [hvl,show i+m=(i+m) by omega] at this
      exact this
    · have hin:i=n:=by omega
      subst hin
      have hnil:A=none→i=0:=fun h=>by
        rcases hA with ⟨_,h2,_⟩ | ⟨b,arr,e,h2,_⟩
        · exact h2
        · rw [h2] at h;cases h
      have hcsA:∀ a,A=some a→∀ j v,cs[j]? = some v→w.cell? (a.add j)=some v:=by
        intro a ha j v hj
        rcases hA with ⟨h,_⟩ | ⟨b,arr,e,h,hvb,hh,hsz,hcc⟩
        · rw [h] at ha;cases ha
        · rw [h] at ha;cases ha
          rw [Addr.add_lit,Nat.zero_add]
          exact (cell_of_row w b j arr e (0,0) hh).trans (hcc j v hj)
      refine Calls.mono (ins_end_growI A i cp vb voff m vc cs vs w hm hnc (by omega) (by omega) hcl hvl hnil hcsA hvs h1v) (fun e' w' he => ?_)
      obtain ⟨rfl,rfl⟩:=he
      generalize grownCap w (i+m) cp 3=G at *
      refine ⟨w.heap.size,G,rfl,hge,hcm2,.inr (Nat.le_refl _),by show w.heap.size<(w.drew.alloc _).heap.size;simp,((Only.refl w _).drew).alloc _,fun j v hj => ?_⟩
      rw [← hcl,List.take_length,List.drop_length,List.append_nil] at hj
      have hlt:=(List.getElem?_eq_some_iff.1 hj).1
      rw [World.cell?_alloc_at (w:=w.drew) _ _ w.heap.size j rfl,Array.getElem?_append_left (by simpa using hlt)]
      simpa using hj
end Go.TA.Tryz


end
