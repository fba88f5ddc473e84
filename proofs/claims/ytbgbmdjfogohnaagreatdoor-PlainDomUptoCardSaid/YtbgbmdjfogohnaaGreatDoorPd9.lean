/- Part 9 of 14 of a proof; joined from PdmLow1, Prims, PrimW, PrimX, PrimD, PrimI, InsInt. slices.Insert at int: its roads, and what it is. -/
import Derived.Test.YtbgbmdjfogohnaaGreatDoorPd6
import Derived.Test.YtbgbmdjfogohnaaGreatDoorProg
import Derived.Lib.Bytealg
import Derived.Laws.IdiomCopy
import Derived.Deep.Upon
import Derived.Lib.ItoaNum
import Derived.Lib.LaidTab
import Derived.Lib.AppendIntMem
import Derived.Shelf.Spec.SlicesInsert
import Derived.Shelf.Spec.SlicesInsertGrow
set_option linter.unusedSimpArgs false
set_option linter.unusedVariables false
set_option linter.defProp false
set_option maxRecDepth 100000
set_option maxHeartbeats 8000000
section
/- Functions of the program, lowered: each is held against the program's own text by the kernel. -/
namespace Go.TA.Tryz
def d1l:b1g :=
 (.seq (.region [
 oM 26 8 0,oM 27 0 1,oN 28 (.len 1 (.t 27)) 2,oN 29 (.bin .lss (.t 26) (.t 28)) 3,oM 30 29 4,oG 31 (.move (.t 0)) 30 true 5,oG 32 (.move (.t 8)) 30 true 6,oG 33 (.indexAddr 6 (.t 31) (.t 32)) 30 true 7,oG 34 (fA 1 33) 30 true 8,oG 35 (lD 34) 30 true 9,oG 36 (.move (.t 1)) 30 true 10,oG 37 (.bin .add (.t 36) (iC 1)) 30 true 11,oG 38 (.eq .i false (.t 35) (.t 37)) 30 true 12,oN 39 (.pick (.t 30) (.t 38) (.c (.bool false))) 13] false [0,1,4,7,8,39] [4,7,1000,1001]) (.seq (.cond (.t 39) (.keep [0,1,4,7,8] [4,7,1000,1001] .skip) (.keep [4,7,8] [4,7,1000,1001] (.exit 0))) (.keep [0,1,4,7,8] [4,7,1000,1001] (.seq (.block 1 (.seq (.region [
 oN 9 (.alloc false 9 [.p (.str []),.p (.str []),.p (.str []),.p (.list []),.p (.list [])] []) 0] false [0,1,4,7,8,9] [4,7,9,1000,1001]) (.seq (.region [
 oM 41 0 0,oM 42 8 1,oN 43 (.pcall 161 [(.t 41,.as),(.t 42,.as)]) 2,oM 40 43 3,oN 44 (.extract (.t 40) 0) 4,oN 45 (.extract (.t 40) 1) 5,⟨none,.store 5 true (.t 9) (.t 44),none,6,[]⟩,oM 8 45 7] false [0,1,4,7,8,9] [4,7,9,1000,1001]) (.seq (.region [
 oN 46 (fA 4 7) 0,oN 47 (lD 46) 1,oN 48 (.load 5 true (.t 9)) 2,oN 49 (.row 5 [.t 48]) 3,oN 50 (.append true 1002 5 96 (.t 47) (.t 49)) 4,oN 51 (fA 4 7) 5,⟨none,.store 1 false (.t 51) (.t 50),none,6,[]⟩] false [0,1,4,7,8] [4,7,1000,1001]) (.keep [0,1,4,7,8] [4,7,1000,1001] .skip))))) (.keep [0,1,4,7,8] [4,7,1000,1001] .skip)))))
def F161:b0u:={ nparams:=2,results:=[.cell 4 5 true,.tmp 5],pure:=true,body :=
 (.seq (.region [
 oN 4 (.alloc false 4 [.p (.str []),.p (.str []),.p (.str []),.p (.list []),.p (.list [])] []) 0,oN 5 (.move (iC 0)) 1] false [0,1,4] [4,1000,1001]) (.seq (.region [
 oM 10 0 0,oM 11 1 1,oN 12 (.indexAddr 6 (.t 10) (.t 11)) 2,oN 13 (.load 6 true (.t 12)) 3,oN 6 (.alloc false 6 [.p (.int .i64 0),.p (.int .i64 0),.p (.str []),.p (.str []),.p (.str []),.p (.list [])] []) 4,⟨none,.store 6 true (.t 6) (.t 13),none,5,[]⟩] false [0,1,4,6] [4,6,1000,1001]) (.seq (.draw [
 oN 14 (fA 2 6) 0,oN 15 (lD 14) 1,oN 16 (fA 3 6) 2,oN 17 (lD 16) 3,oN 18 (fA 4 6) 4,oN 19 (lD 18) 5,oN 20 (fA 5 6) 6,oN 21 (lD 20) 7,oN 22 (.pcall 56 [(.t 21,.as)]) 8,oN 23 (.build [.p (.str []),.p (.str []),.p (.str []),.p (.list []),.nils] [(0,1,.t 15),(1,1,.t 17),(2,1,.t 19),(3,1,.t 22)]) 9,⟨some 7,.alloc false 7 [.p (.str []),.p (.str []),.p (.str []),.p (.list []),.p (.list [])] [(4,1000,5)],none,10,[1,3,5,7,8]⟩,⟨none,.store 5 true (.t 7) (.t 23),none,11,[]⟩] [0,1,4,7] [4,7,1000,1001]) (.seq (.region [
 oM 24 1 0,oN 25 (.bin .add (.t 24) (iC 1)) 1,oM 8 25 2] false [0,1,4,7,8] [4,7,1000,1001]) (.seq (.block 0 (.seq (.keep [0,1,4,7,8] [4,7,1000,1001] (.loop d1l)) (.keep [4,7,8] [4,7,1000,1001] .skip))) (.keep [4,7,8] [4,7,1000,1001] (.seq (.region [
 oN 52 (.load 5 true (.t 7)) 0,oM 53 8 1,⟨none,.store 5 true (.t 4) (.t 52),none,2,[]⟩,oM 5 53 3] false [4,5] [4,1000,1001]) (.keep [4,5] [4,1000,1001] .ret)))))))) }
theorem j0u:b0f Go.Proofs.Tryz.prog 161 F161=true:=by decide +kernel
def F162:b0u:={ nparams:=1,results:=[.tmp 2,.tmp 3],pure:=true,body :=
 (.seq (.region [
 oN 1 (.box false 1 (.t 0)) 0,oN 2 (.move (iC 0)) 1,oN 3 (.move (iC 0)) 2] false [1] [1]) (.seq (.region [
 oN 5 (.load 5 true (.t 1)) 0,oN 6 (.pcall 195 [(.t 5,.as)]) 1,oN 4 (.alloc false 4 [.p (.int .i64 0),.p (.int .i64 0),.p (.int .i64 0)] []) 2,⟨none,.store 3 true (.t 4) (.t 6),none,3,[]⟩] false [4] [4]) (.seq (.region [
 oN 7 (fA 2 4) 0,oN 8 (lD 7) 1,oN 9 (.eq .i false (.t 8) (iC 0)) 2] false [4,9] [4]) (.seq (.cond (.t 9) (.seq (rN [
 oN 2 (.move (iC 0)) 0,oN 3 (.move (iC 0)) 1] [2,3]) (kB [2,3] .ret)) (.keep [4] [4] .skip)) (.keep [4] [4] (.seq (.region [
 oN 10 (fA 0 4) 0,oN 11 (lD 10) 1,oN 12 (fA 2 4) 2,oN 13 (lD 12) 3,oM 2 11 4,oM 3 13 5] true [2,3] []) (kB [2,3] .ret))))))) }
theorem j0t:b0f Go.Proofs.Tryz.prog 162 F162=true:=by decide +kernel
def F163:b0u:={ nparams:=1,results:=[.tmp 2],pure:=false,body :=
 (.seq (rN [
 oN 2 (.move (iC 0)) 0] [0]) (.seq (.block 0 (.seq (rN [
 oM 4 0 0,oN 5 (.eq .ptr false (.t 4) (.c (.nilp))) 1,oM 3 5 2] [0,3]) (.seq (.cond (.t 3) (.seq (rN [
 oN 2 (.move (iC 1)) 0] [2]) (kB [2] .ret)) (.seq (rN [
 oM 7 0 0,oN 8 (.nilCheck (.t 7)) 1,oN 9 (fA 1 8) 2,oN 10 (lD 9) 3,oN 11 (.eq .ptr false (.t 10) (.c (.nilp))) 4,oM 6 11 5] [0,6]) (.seq (.cond (.t 6) (.seq (rN [
 oN 2 (.move (iC 16)) 0] [2]) (kB [2] .ret)) (kS [0])) (kS [0])))) (kS [0])))) (kB [0] (.seq (rN [
 oM 12 0 0,oN 13 (.nilCheck (.t 12)) 1,oN 14 (fA 4 13) 2,oN 15 (lD 14) 3,oN 16 (.eq .ptr false (.t 15) (.c (.nilp))) 4] [0,16]) (.seq (.cond (.t 16) (.seq (.draw [
 oM 17 0 0,oN 18 (.nilCheck (.t 17)) 1,oN 19 (fA 1 18) 2,oN 20 (lD 19) 3,oM 21 0 4,oN 22 (.nilCheck (.t 21)) 5,oN 23 (fA 5 22) 6,oN 24 (lD 23) 7,oN 25 (.nilCheck (.t 20)) 8,oN 26 (fA 2 25) 9,⟨none,.store 1 false (.t 26) (.t 24),none,10,[]⟩] [0] []) (kS [0])) (.seq (.draw [
 oM 27 0 0,oN 28 (.nilCheck (.t 27)) 1,oN 29 (fA 4 28) 2,oN 30 (lD 29) 3,oM 31 0 4,oN 32 (.nilCheck (.t 31)) 5,oN 33 (fA 5 32) 6,oN 34 (lD 33) 7,oN 35 (.nilCheck (.t 30)) 8,oN 36 (fA 5 35) 9,⟨none,.store 1 false (.t 36) (.t 34),none,10,[]⟩] [0] []) (kS [0]))) (kB [0] (.seq (rN [
 oM 37 0 0,oN 38 (.nilCheck (.t 37)) 1,oN 39 (fA 5 38) 2,oN 40 (lD 39) 3,oN 41 (.eq .ptr false (.t 40) (.c (.nilp))) 4] [0,41]) (.seq (.cond (.t 41) (.seq (.draw [
 oM 42 0 0,oN 43 (.nilCheck (.t 42)) 1,oN 44 (fA 1 43) 2,oN 45 (lD 44) 3,oM 46 0 4,oN 47 (.nilCheck (.t 46)) 5,oN 48 (fA 4 47) 6,oN 49 (lD 48) 7,oN 50 (.nilCheck (.t 45)) 8,oN 51 (fA 3 50) 9,⟨none,.store 1 false (.t 51) (.t 49),none,10,[]⟩] [0] []) (kS [0])) (.seq (.draw [
 oM 52 0 0,oN 53 (.nilCheck (.t 52)) 1,oN 54 (fA 5 53) 2,oN 55 (lD 54) 3,oM 56 0 4,oN 57 (.nilCheck (.t 56)) 5,oN 58 (fA 4 57) 6,oN 59 (lD 58) 7,oN 60 (.nilCheck (.t 55)) 8,oN 61 (fA 4 60) 9,⟨none,.store 1 false (.t 61) (.t 59),none,10,[]⟩] [0] []) (kS [0]))) (kB [0] (.seq (rN [
 oM 62 0 0,oM 63 0 1,oM 64 0 2,oN 65 (.nilCheck (.t 62)) 3,oN 66 (fA 1 65) 4,⟨none,.store 1 false (.t 66) (.c (.nilp)),none,5,[]⟩,oN 67 (.nilCheck (.t 63)) 6,oN 68 (fA 4 67) 7,⟨none,.store 1 false (.t 68) (.c (.nilp)),none,8,[]⟩,oN 69 (.nilCheck (.t 64)) 9,oN 70 (fA 5 69) 10,⟨none,.store 1 false (.t 70) (.c (.nilp)),none,11,[]⟩] []) (.seq (rN [
 oN 2 (.move (iC 0)) 0] [2]) (kB [2] .ret)))))))))))) }
theorem j0s:b0f Go.Proofs.Tryz.prog 163 F163=true:=by decide +kernel
def d7a:b1g :=
 (.seq (rN [
 oM 13 4 0,oN 14 (.eq .ptr true (.t 13) (.c (.nilp))) 1] [2,4,14]) (.seq (.cond (.t 14) (kS [2,4]) (kB [] (.exit 0))) (kB [2,4] (.seq (.block 1 (.seq (rN [
 oN 17 (lD 2) 0,oM 18 4 1,oN 19 (.callv (.t 17) [(.t 18,.as)]) 2] [2,4]) (kS [2,4]))) (kB [2,4] (.seq (rN [
 oM 15 4 0,oN 16 (.call 84 [(.t 15,.as)]) 1,oM 4 16 2] [2,4]) (kS [2,4])))))))
def F164:b0u:={ nparams:=3,results:=[],pure:=false,body :=
 (.seq (.draw [
 oN 5 (lD 1) 0,oN 6 (.nilCheck (.t 5)) 1,oN 7 (fA 0 6) 2,oN 8 (lD 7) 3,oM 9 0 4,⟨some 10,.call 85 [(.t 9,.as)],none,5,[0,3]⟩,⟨none,.delete 1 (.t 8) (.t 10),none,6,[]⟩] [0,2] []) (.seq (rN [
 oM 11 0 0,oN 12 (.call 83 [(.t 11,.as)]) 1,oM 4 12 2] [2,4]) (.seq (.block 0 (.seq (kB [2,4] (.loop d7a)) (kS []))) (kS [])))) }
theorem j0r:b0f Go.Proofs.Tryz.prog 164 F164=true:=by decide +kernel
def d6z:b1g :=
 (.seq (rN [
 oN 14 (.bin .lss (.t 13) (.t 12)) 0] [0,1,12,13,14]) (.seq (.cond (.t 14) (kS [0,1,12,13]) (kB [] (.exit 0))) (kB [0,1,12,13] (.seq (.block 1 (.seq (rN [
 oM 15 13 0,oM 5 15 1] [0,1,5,12,13]) (.seq (.region [
 oM 16 0 0,oM 17 5 1,oN 18 (.indexAddr 2 (.t 16) (.t 17)) 2,oN 19 (.load 2 true (.t 18)) 3,oM 20 1 4,oM 21 5 5,oN 22 (.indexAddr 2 (.t 20) (.t 21)) 6,oN 23 (.load 2 true (.t 22)) 7,oN 24 (.eq (.st [2,2]) true (.t 19) (.t 23)) 8] true [0,1,12,13,24] []) (.seq (.cond (.t 24) (.seq (rN [
 oN 4 (.move (.c (.bool false))) 0] [4]) (kB [4] .ret)) (kS [0,1,12,13])) (kS [0,1,12,13]))))) (kB [0,1,12,13] (.seq (rN [
 oN 25 (.bin .add (.t 13) (iC 1)) 0,oM 13 25 1] [0,1,12,13]) (kS [0,1,12,13])))))))
def F165:b0u:={ nparams:=2,results:=[.tmp 4],pure:=true,body :=
 (.seq (rN [
 oN 4 (.move (.c (.bool false))) 0] [0,1]) (.seq (rN [
 oM 6 0 0,oN 7 (.len 1 (.t 6)) 1,oM 8 1 2,oN 9 (.len 1 (.t 8)) 3,oN 10 (.eq .i true (.t 7) (.t 9)) 4] [0,1,10]) (.seq (.cond (.t 10) (.seq (rN [
 oN 4 (.move (.c (.bool false))) 0] [4]) (kB [4] .ret)) (kS [0,1])) (kB [0,1] (.seq (rN [
 oM 11 0 0,oN 12 (.len 1 (.t 11)) 1,oN 13 (.move (iC 0)) 2] [0,1,12,13]) (.seq (.block 0 (.seq (kB [0,1,12,13] (.loop d6z)) (kS []))) (kB [] (.seq (rN [
 oN 4 (.move (.c (.bool true))) 0] [4]) (kB [4] .ret))))))))) }
theorem j0q:b0f Go.Proofs.Tryz.prog 165 F165=true:=by decide +kernel
def F166:b0u:={ nparams:=1,results:=[.cell 2 9 true],pure:=true,body :=
 (.seq (.region [
 oN 1 (.box false 1 (.t 0)) 0,oN 2 (.alloc false 2 [.p (.str []),.p (.str []),.p (.str []),.p (.str []),.p (.str []),.p (.str []),.p (.str []),.p (.str []),.p (.str [])] []) 1] false [1,2] [1,2]) (.seq (.draw [
 oN 3 (fA 0 1) 0,oN 4 (lD 3) 1,oN 5 (.pcall 167 [(.t 4,.as)]) 2,oN 6 (fA 1 1) 3,oN 7 (lD 6) 4,oN 8 (.pcall 167 [(.t 7,.as)]) 5,oN 9 (fA 2 1) 6,oN 10 (lD 9) 7,oN 11 (.pcall 167 [(.t 10,.as)]) 8,oN 12 (fA 3 1) 9,oN 13 (lD 12) 10,oN 14 (.pcall 167 [(.t 13,.as)]) 11,oN 15 (fA 4 1) 12,oN 16 (lD 15) 13,oN 17 (fA 5 1) 14,oN 18 (lD 17) 15,oN 19 (fA 6 1) 16,oN 20 (lD 19) 17,oN 21 (fA 7 1) 18,oN 22 (lD 21) 19,oN 23 (.build [.p (.str []),.p (.str []),.p (.str []),.p (.str []),.p (.str []),.p (.str []),.p (.str []),.p (.str []),.p (.str [])] [(0,1,.t 5),(1,1,.t 8),(2,1,.t 11),(3,1,.t 14),(4,1,.t 16),(5,1,.t 18),(6,1,.t 20),(7,1,.t 22)]) 20,⟨none,.store 9 true (.t 2) (.t 23),none,21,[]⟩] [2] [2]) (.keep [2] [2] .ret))) }
theorem j0p:b0f Go.Proofs.Tryz.prog 166 F166=true:=by decide +kernel
def c1u:b1g :=
 (.seq (rN [
 oN 23 (.bin .lss (.t 22) (.t 21)) 0] [0,1,21,22,23]) (.seq (.cond (.t 23) (kS [0,1,21,22]) (kB [] (.exit 0))) (kB [0,1,21,22] (.seq (.block 1 (.seq (rN [
 oM 24 22 0,oM 5 24 1] [0,1,5,21,22]) (.seq (rN [
 oM 25 0 0,oM 26 5 1,oN 27 (.index (.t 25) (.t 26)) 2,oM 6 27 3] [0,1,6,21,22]) (.seq (rN [
 oM 28 6 0,oN 29 (.pcall 197 [(.t 28,.as)]) 1,oN 30 (.un .not (.t 29)) 2,oM 31 30 3,oG 32 (.move (.t 6)) 31 true 4,oG 33 (.bin .lss (.t 32) (.c (.int .u8 48))) 31 true 5,oG 34 (.move (.t 33)) 31 true 6,oG 35 (.move (.t 6)) 34 false 7,oG 36 (.bin .gtr (.t 35) (.c (.int .u8 57))) 34 false 8,oG 37 (.pick (.t 34) (.c (.bool true)) (.t 36)) 31 true 9,oN 38 (.pick (.t 31) (.t 37) (.c (.bool false))) 10,oM 39 38 11,oG 40 (.move (.t 1)) 39 true 12,oG 41 (.move (.t 6)) 39 true 13,oG 42 (.pcall 198 [(.t 40,.as),(.t 41,.as)]) 39 true 14,oG 43 (.bin .lss (.t 42) (iC 0)) 39 true 15,oN 44 (.pick (.t 39) (.t 43) (.c (.bool false))) 16] [0,1,21,22,44]) (.seq (.cond (.t 44) (.seq (rN [
 oN 4 (.move (.c (.bool false))) 0] [4]) (kB [4] .ret)) (kS [0,1,21,22])) (kS [0,1,21,22])))))) (kB [0,1,21,22] (.seq (rN [
 oN 45 (.bin .add (.t 22) (iC 1)) 0,oM 22 45 1] [0,1,21,22]) (kS [0,1,21,22])))))))
def F168:b0u:={ nparams:=2,results:=[.tmp 4],pure:=true,body :=
 (.seq (rN [
 oN 4 (.move (.c (.bool false))) 0] [0,1]) (.seq (rN [
 oM 7 0 0,oN 8 (.eq .s false (.t 7) (.c (.str []))) 1,oM 9 8 2,oG 10 (.move (.t 0)) 9 false 3,oG 11 (.len 0 (.t 10)) 9 false 4,oG 12 (.bin .gtr (.t 11) (iC 32)) 9 false 5,oN 13 (.pick (.t 9) (.c (.bool true)) (.t 12)) 6,oM 14 13 7,oG 15 (.move (.t 0)) 14 false 8,oG 16 (.index (.t 15) (iC 0)) 14 false 9,oG 17 (.pcall 197 [(.t 16,.as)]) 14 false 10,oG 18 (.un .not (.t 17)) 14 false 11,oN 19 (.pick (.t 14) (.c (.bool true)) (.t 18)) 12] [0,1,19]) (.seq (.cond (.t 19) (.seq (rN [
 oN 4 (.move (.c (.bool false))) 0] [4]) (kB [4] .ret)) (kS [0,1])) (kB [0,1] (.seq (rN [
 oM 20 0 0,oN 21 (.len 0 (.t 20)) 1,oN 22 (.move (iC 0)) 2] [0,1,21,22]) (.seq (.block 0 (.seq (kB [0,1,21,22] (.loop c1u)) (kS []))) (kB [] (.seq (rN [
 oN 4 (.move (.c (.bool true))) 0] [4]) (kB [4] .ret))))))))) }
theorem j0o:b0f Go.Proofs.Tryz.prog 168 F168=true:=by decide +kernel
def c9i:b1g :=
 (.seq (rN [
 oN 14 (.bin .lss (.t 13) (.t 12)) 0] [0,1,6,11,12,13,14]) (.seq (.cond (.t 14) (kS [0,1,6,11,12,13]) (kB [6] (.exit 0))) (kB [0,1,6,11,12,13] (.seq (.block 1 (.seq (.region [
 oM 15 13 0,oN 16 (.indexAddr 2 (.t 11) (.t 13)) 1,oN 17 (.load 2 true (.t 16)) 2,oN 8 (.alloc false 8 [.p (.str []),.p (.str [])] []) 3,oM 7 15 4,⟨none,.store 2 true (.t 8) (.t 17),none,5,[]⟩] false [0,1,6,7,8,11,12,13] [8]) (.seq (.block 2 (.seq (.block 5 (.seq (.block 4 (.seq (.block 3 (.seq (.region [
 oN 19 (fA 0 8) 0,oN 20 (lD 19) 1,oM 21 1 2,oN 22 (.eq .s false (.t 20) (.t 21)) 3,oM 18 22 4] false [0,1,6,7,8,11,12,13,18] [8]) (.seq (.cond (.t 18) (kB [7] (.exit 3)) (.keep [0,1,6,7,8,11,12,13] [8] .skip)) (.keep [0,1,6,7,8,11,12,13] [8] (.seq (.region [
 oM 24 6 0,oM 25 0 1,oN 26 (.len 1 (.t 25)) 2,oN 27 (.bin .lss (.t 24) (.t 26)) 3,oM 23 27 4] false [0,1,6,7,8,11,12,13,23] [8]) (.seq (.cond (.t 23) (kB [0,1,6,11,12,13] (.exit 4)) (.keep [0,1,6,7,8,11,12,13] [8] .skip)) (.keep [0,1,6,7,8,11,12,13] [8] (.seq (rN [
 oN 29 (fA 0 8) 0,oN 30 (lD 29) 1,oM 31 1 2,oN 32 (.bin .lss (.t 30) (.t 31)) 3,oM 28 32 4] [0,1,6,7,11,12,13,28]) (.seq (.cond (.t 28) (kB [0,1,6,11,12,13] (.exit 5)) (kS [0,1,7,11,12,13])) (kB [0,1,7,11,12,13] (.exit 2))))))))))) (kB [7] (.seq (rN [
 oM 33 7 0,oM 4 33 1,oN 5 (.move (.c (.bool true))) 2] [4,5]) (.seq (kB [4,5] .ret) (kB [0,1,7,11,12,13] (.exit 2))))))) (kS [0,1,6,11,12,13]))) (.seq (kB [0,1,6,11,12,13] (.exit 1)) (kB [0,1,7,11,12,13] (.exit 2))))) (kB [0,1,7,11,12,13] (.seq (rN [
 oM 34 7 0,oM 6 34 1] [0,1,6,11,12,13]) (kS [0,1,6,11,12,13])))))) (kB [0,1,6,11,12,13] (.seq (rN [
 oN 35 (.bin .add (.t 13) (iC 1)) 0,oM 13 35 1] [0,1,6,11,12,13]) (kS [0,1,6,11,12,13])))))))
def F171:b0u:={ nparams:=2,results:=[.tmp 4,.tmp 5],pure:=true,body :=
 (.seq (rN [
 oN 4 (.move (iC 0)) 0,oN 5 (.move (.c (.bool false))) 1] [0,1]) (.seq (rN [
 oM 9 0 0,oN 10 (.len 1 (.t 9)) 1,oM 6 10 2] [0,1,6]) (.seq (rN [
 oM 11 0 0,oN 12 (.len 1 (.t 11)) 1,oN 13 (.move (iC 0)) 2] [0,1,6,11,12,13]) (.seq (.block 0 (.seq (kB [0,1,6,11,12,13] (.loop c9i)) (kS [6]))) (kB [6] (.seq (rN [
 oM 36 6 0,oM 4 36 1,oN 5 (.move (.c (.bool false))) 2] [4,5]) (kB [4,5] .ret))))))) }
theorem j0m:b0f Go.Proofs.Tryz.prog 171 F171=true:=by decide +kernel
def F174:b0u:={ nparams:=2,results:=[.tmp 3],pure:=false,body :=
 (.seq (.region [
 oN 2 (.box false 2 (.t 0)) 0,oN 3 (.move (.c (.bool false))) 1] false [1,2] [2]) (.seq (rN [
 oN 4 (fA 0 2) 0,oN 5 (lD 4) 1,oN 6 (lD 1) 2,oN 7 (.eq .s false (.t 5) (.t 6)) 3,oM 3 7 4] [3]) (kB [3] .ret))) }
theorem j0l:b0f Go.Proofs.Tryz.prog 174 F174=true:=by decide +kernel
def d1k:b1g :=
 (.seq (rN [
 oM 7 0 0,oN 8 (.eq .ptr true (.t 7) (.c (.nilp))) 1] [0,1,8]) (.seq (.cond (.t 8) (kS [0,1]) (kB [] (.exit 0))) (kB [0,1] (.seq (.block 1 (.seq (rN [
 oM 13 0 0,oM 14 1 1,oN 15 (.eq .ptr false (.t 13) (.t 14)) 2] [0,1,15]) (.seq (.cond (.t 15) (.seq (rN [
 oN 4 (.move (.c (.bool true))) 0] [4]) (kB [4] .ret)) (kS [0,1])) (kS [0,1])))) (kB [0,1] (.seq (rN [
 oM 9 0 0,oN 10 (.nilCheck (.t 9)) 1,oN 11 (fA 1 10) 2,oN 12 (lD 11) 3,oM 0 12 4] [0,1]) (kS [0,1])))))))
def F175:b0u:={ nparams:=2,results:=[.tmp 4],pure:=false,body :=
 (.seq (rN [
 oN 4 (.move (.c (.bool false))) 0] [0,1]) (.seq (rN [
 oM 5 1 0,oN 6 (.eq .ptr false (.t 5) (.c (.nilp))) 1] [0,1,6]) (.seq (.cond (.t 6) (.seq (rN [
 oN 4 (.move (.c (.bool false))) 0] [4]) (kB [4] .ret)) (kS [0,1])) (kB [0,1] (.seq (.block 0 (.seq (kB [0,1] (.loop d1k)) (kS []))) (kB [] (.seq (rN [
 oN 4 (.move (.c (.bool false))) 0] [4]) (kB [4] .ret)))))))) }
theorem j0k:b0f Go.Proofs.Tryz.prog 175 F175=true:=by decide +kernel
def F195:b0u:={ nparams:=1,results:=[.cell 2 3 true],pure:=true,body :=
 (.seq (.region [
 oN 1 (.box false 1 (.t 0)) 0,oN 2 (.alloc false 2 [.p (.int .i64 0),.p (.int .i64 0),.p (.int .i64 0)] []) 1] false [1,2] [1,2]) (.seq (.region [
 oN 3 (.alloc true 3 [.p (.int .i64 0),.p (.int .i64 0),.p (.int .i64 0)] []) 0] false [1,2,3] [1,2]) (.seq (.region [
 oN 4 (.alloc true 4 [.p (.nilf)] []) 0] false [1,2,3,4] [1,2]) (.seq (.region [
 oN 5 (.makeFunc 215 [.t 3,.t 4]) 0,⟨none,.store 1 false (.t 4) (.t 5),none,1,[]⟩] false [1,2,3,4] [1,2]) (.seq (.region [
 oN 6 (lD 4) 0,oN 7 (.load 5 true (.t 1)) 1,oN 8 (.makeMap true 8) 2,oN 9 (.callv (.t 6) [(.t 7,.as),(.c (.int .i64 1),.as),(.t 8,.as)]) 3] false [2,3] [2]) (.seq (.region [
 oN 10 (.load 3 true (.t 3)) 0,⟨none,.store 3 true (.t 2) (.t 10),none,1,[]⟩] false [2] [2]) (.keep [2] [2] .ret))))))) }
theorem j0j:b0f Go.Proofs.Tryz.prog 195 F195=true:=by decide +kernel
def F197:b0u:={ nparams:=1,results:=[.tmp 2],pure:=true,body :=
 (.seq (rN [
 oN 2 (.move (.c (.bool false))) 0] [0]) (.seq (rN [
 oM 3 0 0,oN 4 (.bin .geq (.t 3) (.c (.int .u8 97))) 1,oM 5 4 2,oG 6 (.move (.t 0)) 5 true 3,oG 7 (.bin .leq (.t 6) (.c (.int .u8 122))) 5 true 4,oN 8 (.pick (.t 5) (.t 7) (.c (.bool false))) 5,oM 2 8 6] [2]) (kB [2] .ret))) }
theorem j0i:b0f Go.Proofs.Tryz.prog 197 F197=true:=by decide +kernel
def d6w:b1g :=
 (.seq (rN [
 oN 64 (.bin .lss (.t 63) (.t 62)) 0] [1,4,11,61,62,63,64]) (.seq (.cond (.t 64) (kS [1,4,11,61,62,63]) (kB [] (.exit 1))) (kB [1,4,11,61,62,63] (.seq (.block 2 (.seq (.region [
 oN 65 (.indexAddr 5 (.t 61) (.t 63)) 0,oN 66 (.load 5 true (.t 65)) 1,oN 13 (.alloc false 13 [.p (.str []),.p (.str []),.p (.str []),.p (.list []),.p (.list [])] []) 2,⟨none,.store 5 true (.t 13) (.t 66),none,3,[]⟩] false [1,4,11,13,61,62,63] [13]) (.seq (rN [
 oN 67 (lD 4) 0,oN 68 (.load 5 true (.t 13)) 1,oM 69 1 2,oN 70 (.bin .add (.t 69) (iC 1)) 3,oM 71 11 4,oN 72 (.callv (.t 67) [(.t 68,.as),(.t 70,.as),(.t 71,.as)]) 5,oN 73 (.un .not (.t 72)) 6] [1,4,11,61,62,63,73]) (.seq (.cond (.t 73) (.seq (rN [
 oN 8 (.move (.c (.bool false))) 0] [8]) (kB [8] .ret)) (kS [1,4,11,61,62,63])) (kS [1,4,11,61,62,63]))))) (kB [1,4,11,61,62,63] (.seq (rN [
 oN 74 (.bin .add (.t 63) (iC 1)) 0,oM 63 74 1] [1,4,11,61,62,63]) (kS [1,4,11,61,62,63])))))))
def F215:b0u:={ nparams:=5,results:=[.tmp 8],pure:=false,body :=
 (.seq (.region [
 oN 5 (.box false 5 (.t 0)) 0,oN 8 (.move (.c (.bool false))) 1] false [1,2,3,4,5] [5]) (.seq (.region [
 oN 14 (fA 1 3) 0,oN 15 (lD 14) 1,oM 16 1 2,oN 17 (.maxI (.t 15) (.t 16)) 3,oN 18 (fA 1 3) 4,⟨none,.store 1 false (.t 18) (.t 17),none,5,[]⟩] false [1,2,3,4,5] [5]) (.seq (.block 0 (.seq (.region [
 oN 23 (fA 0 3) 0,oN 24 (lD 23) 1,oN 25 (.eq .i false (.t 24) (iC 4096)) 2,oM 22 25 3] false [1,2,3,4,5,22] [5]) (.seq (.cond (.t 22) (.seq (.region [
 oN 26 (fA 2 3) 0,⟨none,.store 1 false (.t 26) (iC 12),none,1,[]⟩] false [1,2,3,4,5] [5]) (.keep [1,2,3,4,5] [5] .skip)) (.seq (.region [
 oM 28 1 0,oN 29 (.bin .gtr (.t 28) (iC 64)) 1,oM 27 29 2] false [1,2,3,4,5,27] [5]) (.seq (.cond (.t 27) (.seq (.region [
 oN 30 (fA 2 3) 0,⟨none,.store 1 false (.t 30) (iC 11),none,1,[]⟩] false [1,2,3,4,5] [5]) (.keep [1,2,3,4,5] [5] .skip)) (.seq (.region [
 oN 19 (.load 5 true (.t 5)) 0,oN 20 (.pcall 216 [(.t 19,.as)]) 1,oN 21 (fA 2 3) 2,⟨none,.store 1 false (.t 21) (.t 20),none,3,[]⟩] false [1,2,3,4,5] [5]) (.keep [1,2,3,4,5] [5] .skip))) (.keep [1,2,3,4,5] [5] .skip)))) (.keep [1,2,3,4,5] [5] .skip)))) (.keep [1,2,3,4,5] [5] (.seq (.region [
 oM 32 2 0,oN 33 (fA 1 5) 1,oN 34 (lD 33) 2,oN 35 (.lookup 2 (.agg []) true (.t 32) (.t 34)) 3,oM 31 35 4,oN 36 (.extract (.t 31) 0) 5,oN 37 (.extract (.t 31) 1) 6,oN 9 (.alloc false 9 [] []) 7,⟨none,.store 0 true (.t 9) (.t 36),none,8,[]⟩,oM 10 37 9] false [1,2,3,4,5,10] [5]) (.seq (.region [
 oN 38 (fA 2 3) 0,oN 39 (lD 38) 1,oN 40 (.eq .i false (.t 39) (iC 0)) 2,oM 41 40 3,oG 42 (.move (.t 10)) 41 true 4,oN 43 (.pick (.t 41) (.t 42) (.c (.bool false))) 5] false [1,2,3,4,5,43] [5]) (.seq (.cond (.t 43) (.seq (.region [
 oN 44 (fA 2 3) 0,⟨none,.store 1 false (.t 44) (iC 10),none,1,[]⟩] false [1,2,3,4,5] [5]) (.keep [1,2,3,4,5] [5] .skip)) (.keep [1,2,3,4,5] [5] .skip)) (.keep [1,2,3,4,5] [5] (.seq (.region [
 oN 45 (fA 2 3) 0,oN 46 (lD 45) 1,oN 47 (.eq .i true (.t 46) (iC 0)) 2] false [1,2,3,4,5,47] [5]) (.seq (.cond (.t 47) (.seq (rN [
 oN 8 (.move (.c (.bool false))) 0] [8]) (kB [8] .ret)) (.keep [1,2,3,4,5] [5] .skip)) (.keep [1,2,3,4,5] [5] (.seq (.region [
 oN 48 (fA 1 5) 0,oN 49 (lD 48) 1,oN 50 (.eq .s true (.t 49) (.c (.str []))) 2] false [1,2,3,4,5,50] [5]) (.seq (.cond (.t 50) (.seq (.region [
 oM 51 2 0,oN 52 (fA 1 5) 1,oN 53 (lD 52) 2,oN 54 (.build [] []) 3,⟨none,.mapUpdate 2 (.t 51) (.t 53) (.t 54),none,4,[]⟩] false [1,3,4,5] [5]) (.keep [1,3,4,5] [5] .skip)) (.keep [1,3,4,5] [5] .skip)) (.keep [1,3,4,5] [5] (.seq (.region [
 oN 55 (fA 0 3) 0,oN 56 (lD 55) 1,oN 57 (.bin .add (.t 56) (iC 1)) 2,oN 58 (fA 0 3) 3,⟨none,.store 1 false (.t 58) (.t 57),none,4,[]⟩] false [1,4,5] [5]) (.seq (.region [
 oN 59 (.makeMap true 59) 0,oM 11 59 1] false [1,4,5,11] [5]) (.seq (rN [
 oN 60 (fA 4 5) 0,oN 61 (lD 60) 1,oN 62 (.len 1 (.t 61)) 2,oN 63 (.move (iC 0)) 3] [1,4,11,61,62,63]) (.seq (.block 1 (.seq (kB [1,4,11,61,62,63] (.loop d6w)) (kS []))) (kB [] (.seq (rN [
 oN 8 (.move (.c (.bool true))) 0] [8]) (kB [8] .ret))))))))))))))))))))) }
theorem j0g:b0f Go.Proofs.Tryz.prog 215 F215=true:=by decide +kernel
def F216:b0u:={ nparams:=1,results:=[.tmp 2],pure:=true,body :=
 (.seq (.region [
 oN 1 (.box false 1 (.t 0)) 0,oN 2 (.move (iC 0)) 1] false [1] [1]) (.seq (.block 0 (.seq (.region [
 oN 6 (fA 0 1) 0,oN 7 (lD 6) 1,oN 8 (.pcall 116 [(.t 7,.as)]) 2,oN 9 (.un .not (.t 8)) 3,oM 5 9 4] false [1,5] [1]) (.seq (.cond (.t 5) (.seq (rN [
 oN 2 (.move (iC 7)) 0] [2]) (kB [2] .ret)) (.seq (.region [
 oN 11 (fA 1 1) 0,oN 12 (lD 11) 1,oN 13 (.pcall 118 [(.t 12,.as)]) 2,oN 14 (.un .not (.t 13)) 3,oM 15 14 4,oG 16 (fA 2 1) 15 false 5,oG 17 (lD 16) 15 false 6,oG 18 (.pcall 118 [(.t 17,.as)]) 15 false 7,oG 19 (.un .not (.t 18)) 15 false 8,oN 20 (.pick (.t 15) (.c (.bool true)) (.t 19)) 9,oM 10 20 10] false [1,10] [1]) (.seq (.cond (.t 10) (.seq (rN [
 oN 2 (.move (iC 3)) 0] [2]) (kB [2] .ret)) (.keep [1] [1] .skip)) (.keep [1] [1] .skip)))) (.keep [1] [1] .skip)))) (.keep [1] [1] (.seq (rN [
 oN 22 (fA 3 1) 0,oN 23 (lD 22) 1,oN 24 (.pcall 119 [(.t 23,.as)]) 2,oM 21 24 3,oN 25 (.extract (.t 21) 0) 4,oN 26 (.extract (.t 21) 1) 5,oM 3 25 6,oM 4 26 7] [4]) (.seq (rN [
 oM 27 4 0,oM 2 27 1] [2]) (kB [2] .ret)))))) }
theorem j0f:b0f Go.Proofs.Tryz.prog 216 F216=true:=by decide +kernel
def d6y:b1g :=
 (.seq (rN [
 oN 9 (.bin .lss (.t 8) (.t 7)) 0] [0,1,7,8,9]) (.seq (.cond (.t 9) (kS [0,1,7,8]) (kB [] (.exit 0))) (kB [0,1,7,8] (.seq (.block 1 (.seq (rN [
 oM 10 8 0,oM 5 10 1] [0,1,5,7,8]) (.seq (rN [
 oM 11 1 0,oM 12 0 1,oM 13 5 2,oN 14 (.indexAddr 1 (.t 12) (.t 13)) 3,oN 15 (lD 14) 4,oN 16 (.callv (.t 11) [(.t 15,.as)]) 5] [0,1,5,7,8,16]) (.seq (.cond (.t 16) (.seq (rN [
 oM 17 5 0,oM 4 17 1] [4]) (kB [4] .ret)) (kS [0,1,7,8])) (kS [0,1,7,8]))))) (kB [0,1,7,8] (.seq (rN [
 oN 18 (.bin .add (.t 8) (iC 1)) 0,oM 8 18 1] [0,1,7,8]) (kS [0,1,7,8])))))))
def F170:b0u:={ nparams:=2,results:=[.tmp 4],pure:=false,body :=
 (.seq (rN [
 oN 4 (.move (iC 0)) 0] [0,1]) (.seq (rN [
 oM 6 0 0,oN 7 (.len 1 (.t 6)) 1,oN 8 (.move (iC 0)) 2] [0,1,7,8]) (.seq (.block 0 (.seq (kB [0,1,7,8] (.loop d6y)) (kS []))) (kB [] (.seq (rN [
 oN 4 (.move (iC (-1))) 0] [4]) (kB [4] .ret)))))) }
theorem j0n:b0f Go.Proofs.Tryz.prog 170 F170=true:=by decide +kernel
def d6x:b1g :=
 (.seq (rN [
 oN 9 (.bin .lss (.t 8) (.t 7)) 0] [0,1,7,8,9]) (.seq (.cond (.t 9) (kS [0,1,7,8]) (kB [] (.exit 0))) (kB [0,1,7,8] (.seq (.block 1 (.seq (rN [
 oM 10 8 0,oM 5 10 1] [0,1,5,7,8]) (.seq (rN [
 oM 11 1 0,oM 12 0 1,oM 13 5 2,oN 14 (.indexAddr 2 (.t 12) (.t 13)) 3,oN 15 (.load 2 true (.t 14)) 4,oN 16 (.callv (.t 11) [(.t 15,.as)]) 5] [0,1,5,7,8,16]) (.seq (.cond (.t 16) (.seq (rN [
 oM 17 5 0,oM 4 17 1] [4]) (kB [4] .ret)) (kS [0,1,7,8])) (kS [0,1,7,8]))))) (kB [0,1,7,8] (.seq (rN [
 oN 18 (.bin .add (.t 8) (iC 1)) 0,oM 8 18 1] [0,1,7,8]) (kS [0,1,7,8])))))))
def F203:b0u:={ nparams:=2,results:=[.tmp 4],pure:=false,body :=
 (.seq (rN [
 oN 4 (.move (iC 0)) 0] [0,1]) (.seq (rN [
 oM 6 0 0,oN 7 (.len 1 (.t 6)) 1,oN 8 (.move (iC 0)) 2] [0,1,7,8]) (.seq (.block 0 (.seq (kB [0,1,7,8] (.loop d6x)) (kS []))) (kB [] (.seq (rN [
 oN 4 (.move (iC (-1))) 0] [4]) (kB [4] .ret)))))) }
theorem j0h:b0f Go.Proofs.Tryz.prog 203 F203=true:=by decide +kernel
end Go.TA.Tryz


end
section
/- Functions of the library, told at once. -/
namespace Go.TA
def b7a (C:b0k):List AV→List AObj→Option (AV × List AObj)
 | [.p (.str s),.p (.int .u8 c)],g=>some (.p (.int .i64 (Lib.indexByte s c.toNat.toUInt8)),g)
 | _,_=>none
section
variable {P:Program} {Γ : b1c} {f:Nat}
theorem g2l {f:Nat} (hcal:b4q P f=true) {args:List AV} {g:List AObj} {r:AV} (hg:gOk g) (hr:noLocal r=true)
  (h:∀ (c:Cx) (vs:List Value),args.length=vs.length→(∀ j (h:j<args.length) (h':j<vs.length),RelV c (args[j]) (vs[j]))→∃ v,RelV c r v∧Calls P f vs.toArray c.w (fun e w'=>e = .returned v∧w'=c.w)):d9n P Γ f args g r g:=by
 refine ⟨hcal,hg,hr,fun c vs hl hgc hH hlen hrel => ?_⟩
 obtain ⟨v,hv,hc⟩:=h c vs hlen hrel
 refine Calls.mono hc (fun e w' he => ?_)
 obtain ⟨rfl,rfl⟩:=he
 exact ⟨v,rfl,c,hl,hgc,rfl,Evolve.refl c,hH,hv⟩
theorem d1y (hcal:b4q P f=true) (h:∀ (s:ByteArray) (c:Int) (w:World),Calls P f #[.string s,.int .u8 c] w fun e w'=>e = .returned (.int .i64 (Lib.indexByte s.data.toList c.toNat.toUInt8))∧w'=w):b5n P Γ f b7a:=by
  intro C hC args g r g' hp hno hgo
  unfold b7a at hp
  split at hp
  · rename_i s b
    simp only [Option.some.injEq,Prod.mk.injEq] at hp
    obtain ⟨rfl,rfl⟩:=hp
    refine g2l hcal hgo rfl (fun c vs hl hr => ?_)
    match vs,hl with
    | [u, v], _ =>
      have e1:=b6t (hr 0 (by simp) (by simp))
      have e2:=b2h (hr 1 (by simp) (by simp))
      simp only [List.getElem_cons_zero,List.getElem_cons_succ] at e1 e2
      subst e1 e2
      refine ⟨_,rInt _ _, ?_⟩
      have:=h ⟨s.toArray⟩ b c.w
      simpa using this
  · cases hp
def c5m (sz:Nat) (C:b0k):List AV→List AObj→Option (AV × List AObj)
 | [.p (.list xs)],g=>if xs.length*4096≤140737488355328∧(xs.all fun x=>x.length==sz)=true then some (.own true g.length xs.length,g++[.pcells sz xs]) else none
 | _,_=>none
def c3z:b1g:=.region [{ dst:=some 2,op:=.move (.c (.list [])) }] false [0] []
def d6k:b1f:={ dst:=some 3,op:=.move (.t 0) }
def c6t (sz:Nat):b1g:=.seq (.region [{ dst:=some 2,op:=.nilown true 0 sz }] false [2] []) .ret
def c4a (sz bytes:Nat):b1g:=.seq (.region [{ dst:=some 5,op:=.rowOwn true 5 sz [] },{ dst:=some 6,op:=.move (.t 0) },{ dst:=some 7,op:=.append true 9 sz bytes (.t 5) (.t 6) },{ dst:=some 2,op:=.move (.t 7) }] false [2] []) .ret
def g1i (P:Program) (o:Oper):Bool:=match o.op with
 | .binOp .eql t (.tmp 3) (.const (.slice none 0 0)) _=>eqOk P t .sl && o.dst==some 4 && o.guard.isNone
 | _=>false
def d1a (P : Program) (sz bytes : Nat) (l : List Code) : Bool := match l with
  | [.region i0 o0 false, .region _ o1 false, .cond (.tmp 4) a b, .region i3 o3 false, .ret] =>
    b2p P 8 c3z [.region i0 o0 false] && (match o1.toList with
      | [x,y]=>c5n P 8 o1 d6k x && g1i P y
      | _=>false) && b2p P 8 (c6t sz) (items a) && (items b).isEmpty && b2p P 8 (c4a sz bytes) [.region i3 o3 false,.ret]
  | _=>false
def h4u (P : Program) (f sz bytes : Nat) : Bool := b4q P f && bytes ≤ 4096 && sz != 0 && match P.funcs[f]? with
  | some fn => (match fn.body with
    | some b=>fn.ntmps==8 && b9q P [.tmp 2] fn.results.toList && d1a P sz bytes (items b)
    | none=>false)
  | none=>false
theorem g4k {C:b0k} {N:Nat} {a:AV} {g:List AObj} {fr:List (Nat × AV)} (h:mentions [] a=false) (hl:lk fr 0=some a):b0r C N c3z ⟨fr,[],g⟩=some (.normal,⟨[(0,a)],[],g⟩):=by
 simp [c3z,b0r,b5m,b2y,be,b0c,putK,opt',St.set,St.arg,bn,bn',St.keep,St.get,lk,c3d,hl,c4v,h]
theorem g9w {C:b0k} {N sz:Nat} {s:St}:b0r C N (c6t sz) s=some (.ret,⟨[(2,.own true s.g.length 0)],[],s.g++[.pcells sz []]⟩):=by
 simp [c6t,b0r,b5m,b2y,be,b0c,putK,opt',St.set,St.arg,bn,bn',St.keep,St.get,lk,c3d,c4v,c1y,mentions,St.newObj,bk]
theorem g4o {C:b0k} {N sz bytes:Nat} {xs:List (List PV)} {fr:List (Nat × AV)} {g:List AObj} (h0:lk fr 0=some (.p (.list xs))) (hb:bytes≤4096) (hn:xs.length*4096≤140737488355328) (h3:(xs.all fun y=>y.length==sz)=true) :
  b0r C N (c4a sz bytes) ⟨fr,[],g⟩=some (.ret,⟨[(2,.own true g.length xs.length)],[],g++[.pcells sz xs]⟩):=by
 have h1:xs.length*bytes≤140737488355328:=Nat.le_trans (Nat.mul_le_mul_left _ hb) hn
 have h2:xs.length≤140737488355328:=by omega
 have h4:∀ x,x ∈ xs→x.length=sz:=by simpa using h3
 simp [c4a,b0r,b5m,b2y,be,b0c,putK,opt',St.set,St.arg,St.get,lk,b6f,b7h,c2j,St.newObj,c2l,b6o,h0,c3d,St.obj,St.putObj,b2w,c6g,h1,h2,bk,bn,bn',St.keep,c4v,c1y,mentions]
 rw [if_pos h4]
 simp [putK,opt',St.set,lk,mentions]
 rfl
theorem h2i {c:Cx} {xs:List (List PV)} {v:Value} (h:RelP c.w c.N (.list xs) v):∃ A cap,v = .slice A xs.length cap:=by
 cases h with
 | none A cap h=>exact ⟨A,cap,rfl⟩
 | list xs b off cap sz f h1 h2 h3 h4 h5 h6 h7 h8=>exact ⟨_,cap,rfl⟩
theorem d4t (hm : P.follows .mixedOrders = true) {sz bytes : Nat} (hB : h4u P f sz bytes = true) : b5n P Γ f (c5m sz) := by
  intro C hC args g r g' hp hno hgo
  unfold c5m at hp
  split at hp
  rotate_left
  · cases hp
  rename_i xs
  split at hp
  rotate_left
  · cases hp
  rename_i hcond
  obtain ⟨hn,hsz⟩:=hcond
  simp only [Option.some.injEq,Prod.mk.injEq] at hp
  obtain ⟨rfl,rfl⟩:=hp
  simp only [h4u,Bool.and_eq_true,decide_eq_true_eq,bne_iff_ne,ne_eq] at hB
  obtain ⟨⟨⟨hcal,hbytes⟩,hsz0⟩,hB⟩:=hB
  split at hB
  rotate_left
  · cases hB
  rename_i fn hfn
  split at hB
  rotate_left
  · cases hB
  rename_i body hbody
  simp only [Bool.and_eq_true,beq_iff_eq] at hB
  obtain ⟨⟨hnt,hres⟩,hit⟩:=hB
  unfold d1a at hit
  split at hit
  rotate_left
  · cases hit
  rename_i i0 o0 i1 o1 ca cb i3 o3 hitems
  simp only [Bool.and_eq_true,List.isEmpty_iff] at hit
  obtain ⟨⟨⟨⟨hc0,hc1⟩,hc2⟩,hcb⟩,hc3⟩:=hit
  split at hc1
  rotate_left
  · cases hc1
  rename_i x y hxy
  simp only [Bool.and_eq_true] at hc1
  obtain ⟨hx,hy⟩:=hc1
  have hgo':gOk (g++[.pcells sz xs]):=by
    intro ob hob
    exact b9g (s:=⟨[],[],g⟩) (z:=true) (k:=0) (k':=g.length) (s':=⟨[],[],g++[.pcells sz xs]⟩) hgo rfl (fun _=>rfl) ob hob
  refine ⟨hcal,hgo',rfl,fun c vs hl hgc hH hlen hrel => ?_⟩
  match vs,hlen with
  | [v],_=>
  subst hgc
  refine calls_of_wp hfn hbody ?_
  have hg0:=c4f (c:=c) (args:=[.p (.list xs)]) (vs:=[v]) (np:=1) (nt:=fn.ntmps) rfl hrel hH hl hgo rfl
  rw [hnt] at hg0 ⊢
  have hmax:max 1 8=8:=rfl
  rw [hmax] at hg0
  refine b3s ?_
  rw [hitems]
  have fin:∀ {c':Cx} {s':St} {a':Act},Good Γ c' s' a' 8→Evo c c'→s'.get 2 = .own true c.g.length xs.length→s'.g=c.g++[.pcells sz xs]→bodyPost P fn (fun e w'=>∃ v,e = .returned v∧Ans Γ c [] (c.g++[.pcells sz xs]) (.own true c.g.length xs.length) v w') .ret a' c'.w:=by
    intro c' s' a' hg' hE hav hsg
    obtain ⟨us,hrun,hl1,hl2⟩:=c2d (C:=C) (vs:=[s'.get 2]) hg' hres rfl
    refine ⟨hg'.D,_,hrun,_,rfl, ?_⟩
    match us,hl1 with
    | [u],_=>
    have hu:RelV c' (.own true c.g.length xs.length) u:=by rw [← hav];exact hl2 0 (by simp) (by simp)
    have hs:∀ k o,lk ([]:List (Nat × AObj)) k=some o→lk c'.l k=some o:=fun k o h=>by simp [lk] at h
    have hgs:c'.g=c.g++[.pcells sz xs]:=by rw [← hg'.g,hsg]
    refine ⟨c'.drop [],rfl,hgs,rfl,(hE.trans d3g).evolve hl,c7o hg'.H hs (by rw [hgs];exact hgo') (fun e h=>by simp at h), ?_⟩
    exact b9w hs hu (b4p _ rfl)
  have hent:b3w [.p (.list xs)] c.g=⟨[(0,.p (.list xs))],[],c.g⟩:=rfl
  rw [hent] at hg0
  have h0:=b3l (C:=C) (N:=9) hm hC c3z hc0 hg0 (g4k (a:=.p (.list xs)) rfl rfl) (Q:=Exit.then (wpL P (bodyPost P fn fun e w'=>∃ v,e = .returned v∧Ans Γ c [] (c.g++[.pcells sz xs]) (.own true c.g.length xs.length) v w') [.region i1 o1 false,.cond (.tmp 4) ca cb,.region i3 o3 false,.ret]) (bodyPost P fn fun e w'=>∃ v,e = .returned v∧Ans Γ c [] (c.g++[.pcells sz xs]) (.own true c.g.length xs.length) v w')) (fun c1 a1 hg1 hE1 => ?_)
  · exact d0p h0
  simp only [c7b,Exit.then]
  show (Code.region i1 o1 false).wp P _ a1 c1.w
  refine wp_region_list ?_
  rw [hxy]
  have hs1:b2y C d6k ⟨[(0,.p (.list xs))],[],c.g⟩=some ⟨[(3,.p (.list xs)),(0,.p (.list xs))],[],c.g⟩:=rfl
  have hg1':Good Γ c1 ⟨[(0,.p (.list xs))],[],c.g⟩ a1 8:=hg1
  have st:=d1r (Q:=Exit.then (wpL P (bodyPost P fn fun e w'=>∃ v,e = .returned v∧Ans Γ c [] (c.g++[.pcells sz xs]) (.own true c.g.length xs.length) v w') [.cond (.tmp 4) ca cb,.region i3 o3 false,.ret]) (bodyPost P fn fun e w'=>∃ v,e = .returned v∧Ans Γ c [] (c.g++[.pcells sz xs]) (.own true c.g.length xs.length) v w'))
    (K:=wpList P o1 (Exit.then (wpL P (bodyPost P fn fun e w'=>∃ v,e = .returned v∧Ans Γ c [] (c.g++[.pcells sz xs]) (.own true c.g.length xs.length) v w') [.cond (.tmp 4) ca cb,.region i3 o3 false,.ret]) (bodyPost P fn fun e w'=>∃ v,e = .returned v∧Ans Γ c [] (c.g++[.pcells sz xs]) (.own true c.g.length xs.length) v w')) [y]) hC hg1' hx hs1 (fun c2 a2 hg2 hE2 => ?_)
  · unfold wpList
    split
    · rename_i hw;rw [if_pos hw] at st;exact .inl st
    · rename_i hw;rw [if_neg hw] at st;exact st
  unfold g1i at hy
  split at hy
  rotate_left
  · cases hy
  rename_i t t' hop
  simp only [Bool.and_eq_true,beq_iff_eq,Option.isNone_iff_eq_none] at hy
  obtain ⟨⟨heq,hdst⟩,hguard⟩:=hy
  have h3v:=hg2.F 3
  have:(⟨[(3,.p (.list xs)),(0,.p (.list xs))],[],c.g⟩:St).get 3 = .p (.list xs):=rfl
  rw [this] at h3v
  obtain ⟨A,cap,hval⟩:=h2i (b2s h3v)
  have ht:=(b7g (P:=P) (w:=c2.w) (t:=t) (k:=.sl) heq (.inl ⟨rfl,A,xs.length,cap,rfl,rfl⟩) (.tmp 3) (.const (.slice none 0 0))).1
  have hdo:Does P a2.eval y c2.w (Ans Γ c2 [] c.g (.p (.bool A.isNone))):=by
    have e3:a2.eval (.tmp 3) = .slice A xs.length cap:=hval
    refine Does.value (v:=.bool A.isNone) (w':=c2.w) ?_ ⟨c2,hg2.l.symm,hg2.g.symm,rfl,Evolve.refl c2,hg2.H,c4t _⟩
    obtain ⟨z1,z2,z3⟩:=ht
    have e4:a2.eval (.const (.slice none 0 0)) = .slice none 0 0:=rfl
    simp only [execOp,hop,e3,e4,Sem.run_bind,z3,Result.andThen_ok,z1]
    rfl
  have hw:Region.wanted y (yielded o1 a2.tmps)=true:=by simp [Region.wanted,hguard]
  unfold wpList
  rw [if_pos hw]
  refine .inl (Does.wp hdo (fun v' w' hR => ?_))
  obtain ⟨c3,p1,p2,rfl,hE3,hH3,hv3⟩:=hR
  have hg3:=d3a hg2 (s':=⟨[(3,.p (.list xs)),(0,.p (.list xs))],[],c.g⟩) (dst:=some 4) hE3 hH3 p1 p2 rfl hg2.G rfl hv3
  rw [hdst]
  simp only [wpList,Exit.then]
  have hg3':Good Γ c3 ⟨[(4,.p (.bool A.isNone)),(3,.p (.list xs)),(0,.p (.list xs))],[],c.g⟩ (a2.put (some 4) v') 8:=hg3
  have hEvo:Evo c c3:=hE1.trans (hE2.trans hE3).evo
  have h4v:=hg3'.F 4
  have:(⟨[(4,.p (.bool A.isNone)),(3,.p (.list xs)),(0,.p (.list xs))],[],c.g⟩:St).get 4 = .p (.bool A.isNone):=rfl
  rw [this] at h4v
  show (Code.cond (.tmp 4) ca cb).wp P _ _ c3.w
  refine wp_cond (t:=A.isNone) (b8e h4v) ?_
  cases hA:A.isNone with
  | true =>
    simp only [if_true]
    have hx0:xs=[]:=by
      obtain ⟨A',cap',e,_,_,hpos⟩:=b5e (b2s h3v)
      rcases Nat.eq_zero_or_pos xs.length with h0 | h0
      · exact List.eq_nil_of_length_eq_zero h0
      · obtain ⟨b,off,sz',f',e',_⟩:=hpos h0
        rw [hval] at e
        injection e with e1 e2 e3
        rw [e1,e'] at hA
        cases hA
    subst hx0
    refine b3s (b3l (C:=C) (N:=9) hm hC (c6t sz) hc2 hg3' g9w (fun c4 a4 hg4 hE4 => ?_))
    simp only [c7b,Exit.then]
    exact fin hg4 (hEvo.trans hE4) rfl rfl
  | false =>
    simp only [Bool.false_eq_true,if_false]
    refine b3s ?_
    rw [hcb]
    show wpL P (bodyPost P fn fun e w'=>∃ v,e = .returned v∧Ans Γ c [] (c.g++[.pcells sz xs]) (.own true c.g.length xs.length) v w') [.region i3 o3 false,.ret] _ c3.w
    refine b3l (C:=C) (N:=9) hm hC (c4a sz bytes) hc3 hg3' (g4o rfl hbytes hn hsz) (fun c4 a4 hg4 hE4 => ?_)
    exact fin hg4 (hEvo.trans hE4) rfl rfl
end
end Go.TA


end
section
/- What the walk of slices.Insert asks of copying, at elements of several cells. -/
namespace Go.TA
variable {P:Program}
theorem b4v (w:World) (dT sT ty elem:TypeId) (k b o dLen dCap:Nat) (a:Addr) (sLen sCap:Nat) (cs:List Value)
    (hu:P.underlying dT=some (.slice elem)) (hs:(P.info? elem).map (·.size)=some k) (hn:cs.length=Nat.min sLen dLen*k)
    (hsrc:∀ j v,cs[j]? = some v→w.cell? (a.add j)=some v) (hc:∀ j,j<cs.length→(w.cell? ⟨b,o+j,none⟩).isSome=true) (hf:∀ j,j<cs.length→w.frozen? ⟨b,o+j,none⟩=false) (h1:∀ v ∈ cs,v.oneCell'=true) :
    (Builtin.copy_ #[dT,sT] ty #[.slice (some ⟨b,o,none⟩) dLen dCap,.slice (some a) sLen sCap]).run P w = .ok (goInt (Nat.min sLen dLen)) (w.setCells b o cs):=by
  have hl:=run_loadCells_list (P:=P) w a cs hsrc
  have hst:=run_storeCells_cells (P:=P) b o cs 0 w (by simpa using hc) (by simpa using hf) h1
  cases hq:P.info? elem with
  | none=>simp [hq] at hs
  | some i =>
    have hi:i.size=k:=by simpa [hq] using hs
    simp [Builtin.copy_,run_underlying hu,Builtin.lenOf,Builtin.firstCells,sizeOf,typeInfo,hq,hi, ← hn,hl,hst]
end Go.TA


end
section
/- slices.Insert on a row of one's own, told at once. -/
namespace Go.TA
structure Only (w w':World) (k:Option Nat):Prop where
 size:w.heap.size≤w'.heap.size
 tape:w'.tape=w.tape
 os:w'.os=w.os
 output:w'.output=w.output
 keep:∀ b,b<w.heap.size→k≠some b→w'.heap[b]? = w.heap[b]?
theorem Only.refl (w:World) (k:Option Nat):Only w w k:=⟨Nat.le_refl _,rfl,rfl,rfl,fun _ _ _=>rfl⟩
theorem Only.drew {w w':World} {k:Option Nat} (h:Only w w' k):Only w w'.drew k:=⟨h.size,h.tape,h.os,h.output,h.keep⟩
theorem Only.alloc {w w':World} {k:Option Nat} (h:Only w w' k) (o:Obj):Only w (w'.alloc o) k :=
 ⟨by have:=h.size;simp;omega,h.tape,h.os,h.output,fun b hb hne=>by
  rw [← h.keep b hb hne]
  have:=h.size
  simp only [World.alloc]
  rw [Array.getElem?_push_lt (by omega)]
  simp⟩
theorem c3s {w:World} {b b' o:Nat} {v:Value} (h:b'≠b):(w.setCell ⟨b,o,none⟩ v).heap[b']? = w.heap[b']? := by
 simp only [World.setCell,Array.getElem?_modify]
 rw [if_neg (fun e=>h e.symm)]
theorem Only.cells {w : World} {k : Option Nat} {b : Nat} (hb : k = some b ∨ w.heap.size ≤ b) : ∀ (vs : List Value) (o : Nat) {w' : World}, Only w w' k → Only w (w'.setCells b o vs) k
  | [],_,_,h=>h
  | v :: r, o, w', h => Only.cells hb r (o + 1) ⟨by simpa using h.size, h.tape, h.os, h.output, fun b' hb' hne => by
      rw [c3s (fun e=>by
        subst e
        rcases hb with e | e
        · exact hne e
        · omega)]
      exact h.keep b' hb' hne⟩
theorem b1j (b:Nat):∀ (vs:List Value) (o:Nat) (w:World),(w.setCells b o vs).heap.size=w.heap.size
 | [],_,_=>rfl
 | v::r,o,w=>by rw [World.setCells,b1j b r];simp
section
variable {cs vs:List Value} {a:Nat}
theorem h4k (ha:a≤cs.length) (j:Nat):(cs.take a++vs++cs.drop a)[j]? = if j<a then cs[j]? else if j<a+vs.length then vs[j - a]? else cs[j - vs.length]? := by
 have hl:(cs.take a).length=a:=by rw [List.length_take];omega
 split
 ·rw [List.append_assoc,List.getElem?_append_left (by omega),List.getElem?_take,if_pos (by omega)]
 ·split
  ·rw [List.append_assoc,List.getElem?_append_right (by omega),List.getElem?_append_left (by omega),hl]
  ·rw [List.getElem?_append_right (by rw [List.length_append];omega),List.getElem?_drop,List.length_append,hl]
   congr 1
   omega
theorem c2a {w:World} {b:Nat} (ha:a≤cs.length) (hcs:∀ j v,cs[j]? = some v→w.cell? ⟨b,j,none⟩=some v) (hsp:∀ j,j<cs.length+vs.length→(w.cell? ⟨b,j,none⟩).isSome=true) (j:Nat) (v:Value) (h:(cs.take a++vs++cs.drop a)[j]? = some v) :
  ((w.setCells b (a+vs.length) (cs.drop a)).setCells b a vs).cell? ⟨b,j,none⟩=some v:=by
 rw [h4k ha] at h
 have hdl:(cs.drop a).length=cs.length - a:=List.length_drop
 have hsp1:∀ q,q<vs.length→((w.setCells b (a+vs.length) (cs.drop a)).cell? ⟨b,a+q,none⟩).isSome=true:=fun q hq=>by
  rw [World.cell?_setCells_out b _ _ _ _ (fun _ _=>by show a+q<a+vs.length∨_;omega)]
  exact hsp _ (by omega)
 split at h
 ·rw [World.cell?_setCells_out b _ _ _ _ (fun _ _=>by show j<a∨_;omega),World.cell?_setCells_out b _ _ _ _ (fun _ _=>by show j<a+vs.length∨_;omega)]
  exact hcs j v h
 ·split at h
  ·have:=World.cell?_setCells_in b vs a _ hsp1 (j - a) (by omega)
   rw [show a+(j - a)=j by omega] at this
   rw [this, ← h,List.getElem?_eq_getElem]
  ·have hj:j - vs.length<cs.length:=(List.getElem?_eq_some_iff.1 h).1
   rw [World.cell?_setCells_out b _ _ _ _ (fun _ _=>by show _∨a+vs.length≤j;omega)]
   have:=World.cell?_setCells_in b (cs.drop a) (a+vs.length) w (fun q hq=>hsp _ (by omega)) (j - (a+vs.length)) (by omega)
   rw [show a+vs.length+(j - (a+vs.length))=j by omega] at this
   rw [this, ← h, ← List.getElem?_eq_getElem,List.getElem?_drop]
   congr 1
   omega
theorem d0u {w w' : World} {b : Nat} (ha : a ≤ cs.length) (hcs : ∀ j v, (cs.take a)[j]? = some v → w.cell? ⟨b, j, none⟩ = some v) (hsp : ∀ j, j < cs.length + vs.length → (w.cell? ⟨b, j, none⟩).isSome = true) (hw : ∀ x, w'.cell? x = (w.setCells b a vs).cell? x) (j : Nat) (v : Value) (h : (cs.take a ++ vs ++ cs.drop a)[j]? = some v) :
    (w'.setCells b (a+vs.length) (cs.drop a)).cell? ⟨b,j,none⟩=some v:=by
  rw [h4k ha] at h
  have hdl:(cs.drop a).length=cs.length - a:=List.length_drop
  split at h
  · rw [World.cell?_setCells_out b _ _ _ _ (fun _ _=>by show j<a+vs.length∨_;omega),hw,World.cell?_setCells_out b _ _ _ _ (fun _ _=>by show j<a∨_;omega)]
    exact hcs j v (by rw [List.getElem?_take,if_pos (by omega)];exact h)
  · split at h
    · rw [World.cell?_setCells_out b _ _ _ _ (fun _ _=>by show j<a+vs.length∨_;omega),hw]
      have:=World.cell?_setCells_in b vs a w (fun q hq=>hsp _ (by omega)) (j - a) (by omega)
      rw [show a+(j - a)=j by omega] at this
      rw [this, ← h,List.getElem?_eq_getElem]
    · have hj:j - vs.length<cs.length:=(List.getElem?_eq_some_iff.1 h).1
      have:=World.cell?_setCells_in b (cs.drop a) (a+vs.length) w' (fun q hq=>by
        rw [hw,World.cell?_setCells_out b _ _ _ _ (fun _ _=>by show _∨a+vs.length≤a+vs.length+q;omega)]
        exact hsp _ (by omega)) (j - (a+vs.length)) (by omega)
      rw [show a+vs.length+(j - (a+vs.length))=j by omega] at this
      rw [this, ← h, ← List.getElem?_eq_getElem,List.getElem?_drop]
      congr 1
      omega
theorem d5y {w:World} {b:Nat} (hcs:∀ j v,cs[j]? = some v→w.cell? ⟨b,j,none⟩=some v) (hsp:∀ j,j<cs.length+vs.length→(w.cell? ⟨b,j,none⟩).isSome=true) (j:Nat) (v:Value) (h:(cs.take cs.length++vs++cs.drop cs.length)[j]? = some v) :
  (w.setCells b cs.length vs).cell? ⟨b,j,none⟩=some v:=by
 have h1:=c2a (Nat.le_refl cs.length) hcs hsp j v h
 rw [List.drop_length] at h1
 exact h1
end
theorem b9o {P : Program} (w : World) (tS tR e : TypeId) (ht : P.underlying tS = some (.slice e)) (size : Nat) (hz : ∀ w, (Go.sizeOf e).run P w = .ok size w)
    (a b:Addr) (la ca lb cb:Nat) (hne:a.block≠b.block) (tA tB:TypeId) (kA kB:Nat)
    (hsa:w.shape? a.block=some (tA,kA)) (hsb:w.shape? b.block=some (tB,kB)) (hkA:kA≠0)
    (hfb:w.frozen? b=false) (hfe:w.frozen? { block:=b.block,off:=kB }=false) :
    (Extern.SlicesOverlaps.overlaps #[tS,tS] #[tR] #[.slice (some a) la ca,.slice (some b) lb cb]).run P w = .ok (.bool false) w:=by
  have hnb:(a.block != b.block)=true:=by simpa using hne
  have hnb':(a.block==b.block)=false:=by simpa using hne
  change Sem.run P (α := Value) (do
    let some t:=(#[tS,tS]:Array TypeId)[0]? | stuck "slices.overlaps: no parameter types"
    let .slice elem ← underlying t | stuck "slices.overlaps: slice type expected"
    let size ← sizeOf elem
    match (some a:Option Addr),(some b:Option Addr) with
    | some a, some b =>
      if la=0∨lb=0∨size=0 then pure (Value.bool false)
      else if a.block != b.block && (← frozen a) && (← frozen b) then unsupported .addressObserved
      else do
        if a.block != b.block then do
          noView a;noView b
          if ← mayBeOne a b then return Value.bool ((← choose (.extern "sameAddr.stringBytes" 2))==1)
        pure (Value.bool (a.block==b.block && a.off<b.off+lb*size && b.off<a.off+la*size))
    | _,_=>pure (Value.bool false)) w=_
  by_cases h0:la=0∨lb=0∨size=0
  · simp [run_underlying ht,hz,h0]
  · cases kA with
    | zero=>exact absurd rfl hkA
    | succ kA =>
      cases hfa:w.frozen? a <;> cases hfc:w.frozen? { block:=a.block,off:=kA+1 } <;>
      simp [run_underlying ht,hz,h0,hnb,hnb',frozen,noView,viewAt,mayBeOne,stringish,shape,Sem.run,hsa,hsb,hfb,hfe,hfa,hfc]
theorem c2w {w:World} {b j:Nat} {v:Value} (h:w.cell? ⟨b,j,none⟩=some v):∃ t k,w.shape? b=some (t,k)∧k≠0:=by
  unfold World.cell? at h
  cases hq:w.heap[b]? with
  | none=>simp [hq] at h
  | some o =>
    cases o with
    | cells c e fr =>
      simp only [hq] at h
      have:=(Array.getElem?_eq_some_iff.1 (by simpa using h)).1
      exact ⟨e,c.size,by simp [World.shape?,hq],by omega⟩
    | _=>simp [hq] at h
section
variable {P:Program} {Γ : b1c} {c:Cx} {f:Nat}
theorem d5j (hH : RelH Γ c) {z : Bool} {k : Nat} {ob : AObj} (hob : c.obj z k = some ob) {w' : World} (ho : Only c.w w' (c.μ z k)) {b cap sz : Nat} (hb : c.μ z k = some b ∨ c.w.heap.size ≤ b) (hbw : b < w'.heap.size) {xs : List (List PV)} {us : List Value} (hc : xs.length ≤ cap) (hcm : cap ≤ maxLen)
    (hR:b1b c sz (lift xs) us) (hcell:∀ j v,us[j]? = some v→w'.cell? ⟨b,j,none⟩=some v) :
    Evolve c (c.set z k .dead none w')∧RelH Γ (c.set z k .dead none w')∧RelV (c.set z k .dead none w') (.p (.list xs)) (.slice (some ⟨b,0,none⟩) xs.length cap):=by
  obtain ⟨hE,hH'⟩:=hH.set .dead none hob ho.size ho.tape ho.os ho.output ho.keep (fun b hb=>by cases hb) (fun m hm=>by simp [AObj.cnt] at hm) (fun _=>trivial)
  refine ⟨hE,hH', ?_⟩
  have hNX:¬ c.X b:=by
    rcases hb with h | h
    · exact (hH.live z k b h).2.2.1
    · exact fun hx=>by have:=hH.xlt b hx;omega
  have hN:(c.set z k .dead none w').N b:=⟨hNX,fun ⟨z',k',h'⟩=>by
    simp only [Cx.set] at h'
    split at h'
    · cases h'
    · rename_i hne
      rcases hb with h | h
      · exact hne (hH.inj _ _ _ _ _ h' h)
      · have:=(hH.live z' k' b h').1
        omega⟩
  have hl1:∀ i (h:i<xs.length),(xs[i]).length=sz:=fun i h=>by simpa [lift] using hR.1 i (by simpa [lift] using h)
  have hv':∀ i j (hi:i<xs.length) (hj:j<sz),∃ v,us[i*sz+j]? = some v∧v.oneCell'=true∧RelP c.w c.N (xs[i][j]'(by rw [hl1 i hi];exact hj)) v:=fun i j hi hj=>by
    obtain ⟨v,v1,v2,v3⟩:=hR.2.2 i j (by simpa [lift] using hi) (by simpa [lift,hl1 i hi] using hj)
    refine ⟨v,v1,v2, ?_⟩
    simp only [lift,List.getElem_map] at v3
    exact b2s v3
  refine .p _ _ (.list xs b 0 cap sz (fun i j=>match us[i*sz+j]? with | some v=>if v.oneCell'=true then v else .bool true | none => .bool true) hN hbw hc hcm hl1 (fun i j hi hj => ?_) (fun i j => ?_) (fun i j hi hj => ?_))
  · obtain ⟨v,v1,v2,v3⟩:=hv' i j hi hj
    simp only [v1,v2,if_true,Nat.zero_add]
    exact hcell _ _ v1
  · split
    · split
      · assumption
      · rfl
    · rfl
  · obtain ⟨v,v1,v2,v3⟩:=hv' i j hi (by rw [hl1 i hi] at hj;exact hj)
    simp only [v1,v2,if_true]
    exact hE.relP v3
theorem b1b.head {sz:Nat} {xs:List (List AV)} {a:List Value} (h:b1b c sz xs a) (i:Nat):b1b c sz (xs.take i) (a.take (i*sz)):=by
 refine ⟨fun q hq => ?_, ?_,fun q j hq hj => ?_⟩
 ·rw [List.getElem_take];exact h.1 _ _
 ·rw [List.length_take,List.length_take,Nat.min_def,Nat.min_def]
  have h2:=h.2.1
  split <;> split
  ·exact Nat.le_refl _
  ·rename_i h3 h4
   have:=Nat.mul_le_mul_right sz h3
   omega
  ·rename_i h3 h4
   exact Nat.mul_le_mul_right sz (by omega)
  ·exact h2
 ·rw [List.length_take] at hq
  have hj':j<(xs[q]'(by omega)).length:=by rw [List.getElem_take] at hj;exact hj
  obtain ⟨v,v1,v2,v3⟩:=h.2.2 q j (by omega) hj'
  refine ⟨v, ?_,v2,by simp only [List.getElem_take];exact v3⟩
  rw [List.getElem?_take,if_pos (g5y (by omega) (by rw [h.1 q (by omega)] at hj';exact hj'))]
  exact v1
theorem b1b.tail {sz:Nat} {xs:List (List AV)} {a:List Value} (h:b1b c sz xs a) (i:Nat):b1b c sz (xs.drop i) (a.drop (i*sz)):=by
 refine ⟨fun q hq => ?_, ?_,fun q j hq hj => ?_⟩
 ·rw [List.getElem_drop];exact h.1 _ _
 ·rw [List.length_drop,List.length_drop,Nat.sub_mul]
  have:=h.2.1
  omega
 ·rw [List.length_drop] at hq
  have hj':j<(xs[i+q]'(by omega)).length:=by rw [List.getElem_drop] at hj;exact hj
  obtain ⟨v,v1,v2,v3⟩:=h.2.2 (i+q) j (by omega) hj'
  refine ⟨v, ?_,v2,by simp only [List.getElem_drop];exact v3⟩
  rw [List.getElem?_drop, ← v1]
  congr 1
  rw [Nat.add_mul]
  omega
theorem b1b.ones {sz:Nat} {xs:List (List AV)} {a:List Value} (h:b1b c sz xs a) (h0:0<sz) (v:Value) (hv:v ∈ a.take (xs.length*sz)):v.oneCell'=true:=by
 obtain ⟨j,hj⟩:=List.getElem?_of_mem hv
 rw [List.getElem?_take] at hj
 split at hj
 ·rename_i hlt
  have h1:j / sz<xs.length:=by rw [Nat.div_lt_iff_lt_mul h0];exact hlt
  obtain ⟨u,u1,u2,u3⟩:=h.2.2 (j / sz) (j % sz) h1 (by rw [h.1 _ h1];exact Nat.mod_lt _ h0)
  rw [Nat.mul_comm,Nat.div_add_mod,hj] at u1
  cases u1
  exact u2
 ·cases hj
theorem c8h (a b:List (List PV)):lift (a++b)=lift a++lift b:=by simp [lift]
theorem d5e (a:List (List PV)) (i:Nat):lift (a.take i)=(lift a).take i:=by simp [lift]
theorem g7m (a:List (List PV)) (i:Nat):lift (a.drop i)=(lift a).drop i:=by simp [lift]
theorem d8j (a:List (List PV)):(lift a).length=a.length:=by simp [lift]
def c9g (P : Program) (f sz : Nat) : Prop := ∀ (A : Option Addr) (n cp i vb voff m vc : Nat) (cs vs : List Value) (w : World), i ≤ n → 0 < m → n ≤ cp → cp ≤ maxLen → (n + m) * 4096 ≤ 140737488355328 → cs.length = n * sz → vs.length = m * sz → (∀ v ∈ cs, v.oneCell' = true) → (∀ v ∈ vs, v.oneCell' = true) →
  ((A=none∧n=0∧cp=0)∨∃ (b:Nat) (arr:Array Value) (e:TypeId),A=some ⟨b,0,none⟩∧vb≠b∧w.heap[b]? = some (.cells arr e (0,0))∧arr.size=cp*sz∧∀ (j:Nat) (v:Value),cs[j]? = some v→arr[j]? = some v) →
  (∀ (j:Nat) (v:Value),vs[j]? = some v→w.cell? ⟨vb,voff+j,none⟩=some v) →
  Calls P f #[.slice A n cp,.int .i64 i,.slice (some ⟨vb,voff,none⟩) m vc] w fun e w'=>∃ B cap,e = .returned (.slice (some ⟨B,0,none⟩) (n+m) cap)∧n+m≤cap∧cap≤maxLen∧((∃ a,A=some a∧a.block=B)∨w.heap.size≤B)∧B<w'.heap.size∧Only w w' (A.map (·.block)) ∧
    ∀ (j:Nat) (v:Value),(cs.take (i*sz)++vs++cs.drop (i*sz))[j]? = some v→w'.cell? ⟨B,j,none⟩=some v
def b7x (sz : Nat) (C : b0k) : List AV → List AObj → Option (AV × List AObj)
  | [.own true k n, .p (.int .i64 i), .p (.list vs)], g => match g[k]? with
    | some (.pcells s xs)=>if s=sz∧xs.length=n∧(vs.all fun v=>v.length==sz)=true∧0<vs.length∧0≤i∧i≤n∧(n+vs.length)*4096≤140737488355328 then some (.p (.list (xs.take i.toNat++vs++xs.drop i.toNat)),g.set k .dead) else none
    | _=>none
  | _,_=>none
theorem d3d {g:List AObj} (h:gOk g) (k:Nat):gOk (g.set k .dead):=by
 intro ob hob
 rcases List.mem_or_eq_of_mem_set hob with h1 | h1
 ·exact h ob h1
 ·subst h1;rfl
theorem d0k {sz : Nat} (hcal : b4q P f = true) (h0 : 0 < sz) (hI : c9g P f sz) : b5n P Γ f (b7x sz) := by
  intro C hC args g r g' hp hno hgo
  unfold b7x at hp
  split at hp
  rotate_left
  · cases hp
  rename_i k n i vs
  split at hp
  rotate_left
  · cases hp
  rename_i s2 xs hg1
  split at hp
  rotate_left
  · cases hp
  rename_i hcond
  obtain ⟨rfl,rfl,hall,hm,hi0,hin,hbig⟩:=hcond
  simp only [Option.some.injEq,Prod.mk.injEq] at hp
  obtain ⟨rfl,rfl⟩:=hp
  refine ⟨hcal,d3d hgo k,rfl,fun c us hl hgc hH hlen hrel => ?_⟩
  match us,hlen with
  | [u1,u2,u3],_=>
  subst hgc
  have r1:=hrel 0 (by simp) (by simp)
  have e2:=b2h (hrel 1 (by simp) (by simp))
  have r3:=hrel 2 (by simp) (by simp)
  simp only [List.getElem_cons_zero,List.getElem_cons_succ] at r1 e2 r3
  subst e2
  have ho1:c.obj true k=some (.pcells s2 xs):=hg1
  obtain ⟨A,cap,rfl,hrow⟩:=b9u r1 ho1 rfl
  have hl2:(lift vs).length=vs.length:=by simp [lift]
  have hall':∀ i (h:i<(lift vs).length),((lift vs)[i]).length=s2:=fun i h=>by
    have:=c5h hall i (by simpa [lift] using h)
    simpa [lift] using this
  obtain ⟨b2,off2,cap2,f2,rfl,hN2,h6,h7,h8⟩:∃ (b2 off2 cap2:Nat) (f2:Nat→Nat→Value),u3 = .slice (some ⟨b2,off2,none⟩) vs.length cap2∧c.N b2∧(∀ i j,i<vs.length→j<s2→c.w.cell? ⟨b2,off2+(i*s2+j),none⟩=some (f2 i j))∧(∀ i j,(f2 i j).oneCell'=true) ∧
      (∀ i j (hi:i<(lift vs).length) (hj:j<((lift vs)[i]).length),RelV c ((lift vs)[i][j]) (f2 i j)):=by
    obtain ⟨A3,cap3,rfl,_,_,q3⟩:=b5e (b2s r3)
    obtain ⟨b,off,sz',f,rfl,h1,h2,h5,h6,h7,h8⟩:=q3 hm
    have e1:sz'=s2:=by rw [← h5 0 (by omega)];have:=hall' 0 (by omega);simpa [lift] using this
    subst e1
    refine ⟨b,off,cap3,f,rfl,h1,h6,h7,fun i j hi hj => ?_⟩
    simp only [lift,List.getElem_map] at hj ⊢
    exact .p _ _ (h8 i j (by simpa [lift] using hi) (by simpa using hj))
  have hV2:(laid vs.length s2 f2).length=vs.length*s2:=by simp [laid]
  have hRv:b1b c s2 (lift vs) (laid vs.length s2 f2):=⟨hall',by rw [hl2,hV2];exact Nat.le_refl _,fun i j hi hj=>⟨f2 i j,c3n (by omega) (by rw [hall' i hi] at hj;exact hj),h7 i j,h8 i j hi hj⟩⟩
  have one2:∀ v ∈ laid vs.length s2 f2,v.oneCell'=true:=fun v hv=>by
    simp only [laid,List.mem_map] at hv
    obtain ⟨q,_,rfl⟩:=hv
    exact h7 _ _
  have hV:∀ (j:Nat) (v:Value),(laid vs.length s2 f2)[j]? = some v→c.w.cell? ⟨b2,off2+j,none⟩=some v:=fun j v hj=>by
    have hlt:j<vs.length*s2:=by rw [← hV2];exact (List.getElem?_eq_some_iff.1 hj).1
    simp only [laid,List.getElem?_map] at hj
    rw [List.getElem?_range hlt] at hj
    simp only [Option.map_some,Option.some.injEq] at hj
    subst hj
    have:=h6 (j / s2) (j % s2) (by rw [Nat.div_lt_iff_lt_mul h0];exact hlt) (Nat.mod_lt _ h0)
    rw [Nat.mul_comm,Nat.div_add_mod] at this
    exact this
  have fin:∀ (A:Option Addr) (cs:List Value),cs.length=xs.length*s2→b1b c s2 (lift xs) cs→A.map (·.block)=c.μ true k→Calls P f #[.slice A xs.length cap,.int .i64 (i.toNat:Nat),.slice (some ⟨b2,off2,none⟩) vs.length cap2] c.w (fun e w'=>∃ B cap,e = .returned (.slice (some ⟨B,0,none⟩) (xs.length+vs.length) cap)∧xs.length+vs.length≤cap∧cap≤maxLen∧((∃ a,A=some a∧a.block=B)∨c.w.heap.size≤B)∧B<w'.heap.size∧Only c.w w' (A.map (·.block)) ∧
    ∀ j v,(cs.take (i.toNat*s2)++laid vs.length s2 f2++cs.drop (i.toNat*s2))[j]? = some v→w'.cell? ⟨B,j,none⟩=some v) →
    Calls P f #[.slice A xs.length cap,.int .i64 i,.slice (some ⟨b2,off2,none⟩) vs.length cap2] c.w (fun e w'=>∃ v,e = .returned v∧Ans Γ c [] (c.g.set k .dead) (.p (.list (xs.take i.toNat++vs++xs.drop i.toNat))) v w'):=by
    intro A cs hcl hR hA hc
    have hii:((i.toNat:Nat):Int)=i:=by omega
    rw [hii] at hc
    refine Calls.mono hc (fun e w' he => ?_)
    obtain ⟨B,cap',rfl,q1,q2,q3,q4,q5,q6⟩:=he
    have hlen:(xs.take i.toNat++vs++xs.drop i.toNat).length=xs.length+vs.length:=by
      simp only [List.length_append,List.length_take,List.length_drop]
      omega
    have hmul:i.toNat*s2≤xs.length*s2:=Nat.mul_le_mul_right _ (by omega)
    have hall:b1b c s2 (lift (xs.take i.toNat++vs++xs.drop i.toNat)) (cs.take (i.toNat*s2)++laid vs.length s2 f2++cs.drop (i.toNat*s2)):=by
      rw [c8h,c8h,d5e,g7m]
      have a1:(cs.take (i.toNat*s2)).length=((lift xs).take i.toNat).length*s2:=by
        rw [List.length_take,List.length_take,d8j,hcl,Nat.min_eq_left hmul,Nat.min_eq_left (by omega)]
      refine b1b.append (b1b.append (hR.head _) a1 hRv) ?_ (hR.tail _)
      rw [List.length_append,List.length_append,Nat.add_mul,a1,hV2,hl2]
    have hb:c.μ true k=some B∨c.w.heap.size≤B:=by
      rcases q3 with ⟨a,e,rfl⟩ | h
      · rw [← hA,e];exact .inl rfl
      · exact .inr h
    obtain ⟨t1,t2,t3⟩:=d5j hH ho1 (by rw [← hA];exact q5) hb q4 (by rw [hlen];exact q1) q2 hall q6
    rw [hlen] at t3
    exact ⟨_,rfl,c.set true k .dead none w',by simpa [Cx.set] using hl,by simp [Cx.set],rfl,t1,t2,t3⟩
  rcases hrow with ⟨q0,h0',rfl,rfl⟩ | ⟨b,arr,e,q1,rfl,q3,q4,q5,q6⟩
  · have hx:xs=[]:=List.eq_nil_of_length_eq_zero h0'
    subst hx
    refine fin none [] (by simp) ⟨by simp [lift],by simp [lift],fun i j hi=>by simp [lift] at hi⟩ (by rw [q0];rfl) ?_
    exact hI none 0 0 i.toNat b2 off2 vs.length cap2 [] _ c.w (by simp at hin;omega) hm (Nat.le_refl _) (by simp [maxLen]) hbig (by simp) hV2 (by simp) one2 (.inl ⟨rfl,rfl,rfl⟩) hV
  · have hR1:b3q c (c.μ true k) s2 (lift xs):=hH.objs true k _ ho1
    rw [q1] at hR1
    obtain ⟨arr',e',hh,hrows⟩:=b7j hR1
    rw [q5] at hh
    cases hh
    have hlx:(lift xs).length=xs.length:=by simp [lift]
    have hCl:(arr.toList.take (xs.length*s2)).length=xs.length*s2:=by
      have:=hrows.2.1
      rw [hlx] at this
      rw [List.length_take]
      omega
    have hRx:=hrows.take
    rw [hlx] at hRx
    have one1:=hrows.ones h0
    rw [hlx] at one1
    refine fin (some ⟨b,0,none⟩) (arr.toList.take (xs.length*s2)) hCl hRx (by rw [q1];rfl) ?_
    exact hI _ xs.length cap i.toNat b2 off2 vs.length cap2 _ _ c.w (by omega) hm q3 q4 hbig hCl hV2 one1 one2 (.inr ⟨b,arr,_,rfl,fun e=>by
      subst e
      exact hN2.2 ⟨true,k,q1⟩,q5,by simpa [AObj.sz] using q6,fun j v hj=>by
      rw [List.getElem?_take] at hj
      split at hj
      · simpa using hj
      · cases hj⟩) hV
def thaw : AV → List AObj → Option (AV × List AObj)
  | .nils,g=>some (.p (.list []),g)
  | .own true k n, g => match g[k]? with
    | some (.pcells _ xs)=>if xs.length=n then some (.p (.list xs),g.set k .dead) else none
    | _=>none
  | v,g=>some (v,g)
def b6k (sz:Nat) (C:b0k):List AV→List AObj→Option (AV × List AObj)
 | [a],g=>bk (thaw a g) fun x=>c5m sz C [x.1] x.2
 | _,_=>none
theorem d0m {sz:Nat} (h:b5n P Γ f (c5m sz)):b5n P Γ f (b6k sz):=by
 intro C hC args g r g' hp hno hgo
 unfold b6k at hp
 split at hp
 rotate_left
 ·cases hp
 rename_i a
 obtain ⟨⟨a',g1⟩,h1,h2⟩:=b0o hp
 unfold thaw at h1
 split at h1
 ·simp only [Option.some.injEq,Prod.mk.injEq] at h1
  obtain ⟨rfl,rfl⟩:=h1
  obtain ⟨q1,q2,q3,q4⟩:=h C hC _ _ r g' h2 rfl hgo
  refine ⟨q1,q2,q3,fun c vs hl hg hH hlen hrel=>q4 c vs hl hg hH hlen (fun j hj h' => ?_)⟩
  have hj0:j=0:=by simp at hj;omega
  subst hj0
  have hr:=hrel 0 (by simp) h'
  simp only [List.getElem_cons_zero] at hr ⊢
  generalize vs[0]=v at hr
  cases hr
  exact .p _ _ (.none none 0 (by simp [maxLen]))
 ·rename_i k n
  split at h1
  rotate_left
  ·cases h1
  rename_i s xs hob
  split at h1
  rotate_left
  ·cases h1
  rename_i hn
  simp only [Option.some.injEq,Prod.mk.injEq] at h1
  obtain ⟨rfl,rfl⟩:=h1
  subst hn
  obtain ⟨q1,q2,q3,q4⟩:=h C hC _ _ r g' h2 rfl (d3d hgo k)
  refine ⟨q1,q2,q3,fun c vs hl hg hH hlen hrel => ?_⟩
  subst hg
  have hob1:c.obj true k=some (.pcells s xs):=hob
  have h0:0<vs.length:=by rw [← hlen];simp
  have hr:=hrel 0 (by simp) h0
  simp only [List.getElem_cons_zero] at hr
  obtain ⟨t1,t2,t3⟩:=c1g hH hob1 hr
  refine Calls.mono (q4 (c.set true k .dead none c.w) vs (by simpa [Cx.set] using hl) (by simp [Cx.set]) t2 hlen (fun j hj h' => ?_)) (fun e w' he => ?_)
  ·have hj0:j=0:=by simp at hj;omega
   subst hj0
   exact .p _ _ t3
  ·obtain ⟨v,rfl,c',e1,e2,e3,hE,hH',hv⟩:=he
   exact ⟨v,rfl,c',e1,e2,e3,t1.trans hE,hH',hv⟩
 ·simp only [Option.some.injEq,Prod.mk.injEq] at h1
  obtain ⟨rfl,rfl⟩:=h1
  exact h C hC _ _ r g' h2 hno hgo
end
end Go.TA


end
section
/- slices.DeleteFunc on a row of one's own, told at once: its text up to the last two lines as lowered code, the rest by hand. -/
namespace Go.TA
def b6e : b1g :=
  (.seq (.region [
    { dst:=some 16,op:=.move (.t 6),ix:=0 },
    { dst:=some 17,op:=.move (.t 0),ix:=1 },
    { dst:=some 18,op:=.len 1 (.t 17),ix:=2 },
    { dst:=some 19,op:=.bin .lss (.t 16) (.t 18),ix:=3 }] false [0,1,5,6,19] []) (.seq (.cond (.t 19) (.keep [0,1,5,6] [] .skip) (.keep [0,5] [] (.exit 0))) (.keep [0,1,5,6] [] (.seq (.block 1 (.seq (.region [
    { dst:=some 22,op:=.move (.t 0),ix:=0 },
    { dst:=some 23,op:=.move (.t 6),ix:=1 },
    { dst:=some 24,op:=.indexAddr 1 (.t 22) (.t 23),ix:=2 },
    { dst:=some 25,op:=.load 1 false (.t 24),ix:=3 },
    { dst:=some 7,op:=.move (.t 25),ix:=4 }] false [0,1,5,6,7] []) (.seq (.region [
    { dst:=some 26,op:=.move (.t 1),ix:=0 },
    { dst:=some 27,op:=.move (.t 7),ix:=1 },
    { dst:=some 28,op:=.callv (.t 26) [(.t 27,.as)],ix:=2 },
    { dst:=some 29,op:=.un .not (.t 28),ix:=3 }] false [0,1,5,6,7,29] []) (.seq (.cond (.t 29) (.seq (.region [
    { dst:=some 30,op:=.move (.t 0),ix:=0 },
    { dst:=some 31,op:=.move (.t 5),ix:=1 },
    { dst:=some 32,op:=.move (.t 7),ix:=2 },
    { dst:=some 33,op:=.indexAddr 1 (.t 30) (.t 31),ix:=3 },
    { dst:=none,op:=.store 1 false (.t 33) (.t 32),ix:=4 }] false [0,1,5,6] []) (.seq (.region [
    { dst:=some 34,op:=.move (.t 5),ix:=0 },
    { dst:=some 35,op:=.bin .add (.t 34) (.c (.int .i64 1)),ix:=1 },
    { dst:=some 5,op:=.move (.t 35),ix:=2 }] false [0,1,5,6] []) (.keep [0,1,5,6] [] .skip))) (.keep [0,1,5,6] [] .skip)) (.keep [0,1,5,6] [] .skip))))) (.keep [0,1,5,6] [] (.seq (.region [
    { dst:=some 20,op:=.move (.t 6),ix:=0 },
    { dst:=some 21,op:=.bin .add (.t 20) (.c (.int .i64 1)),ix:=1 },
    { dst:=some 6,op:=.move (.t 21),ix:=2 }] false [0,1,5,6] []) (.keep [0,1,5,6] [] .skip)))))))
def b6d : b1g :=
  (.seq (.region [
    { dst:=some 16,op:=.move (.t 6),ix:=0 },
    { dst:=some 17,op:=.move (.t 0),ix:=1 },
    { dst:=some 18,op:=.len 1 (.t 17),ix:=2 },
    { dst:=some 19,op:=.bin .lss (.t 16) (.t 18),ix:=3 }] false [0,1,5,6,19] []) (.seq (.cond (.t 19) (.keep [0,1,5,6] [] .skip) (.keep [0,5] [] (.exit 0))) (.keep [0,1,5,6] [] (.seq (.block 1 (.seq (.region [
    { dst:=some 22,op:=.move (.t 0),ix:=0 },
    { dst:=some 23,op:=.move (.t 6),ix:=1 },
    { dst:=some 24,op:=.indexAddr 2 (.t 22) (.t 23),ix:=2 },
    { dst:=some 25,op:=.load 2 true (.t 24),ix:=3 },
    { dst:=some 7,op:=.alloc false 7 [.p (.str []),.p (.str [])] [],ix:=4 },
    { dst:=none,op:=.store 2 true (.t 7) (.t 25),ix:=5 }] false [0,1,5,6,7] [7]) (.seq (.region [
    { dst:=some 26,op:=.move (.t 1),ix:=0 },
    { dst:=some 27,op:=.load 2 true (.t 7),ix:=1 },
    { dst:=some 28,op:=.callv (.t 26) [(.t 27,.as)],ix:=2 },
    { dst:=some 29,op:=.un .not (.t 28),ix:=3 }] false [0,1,5,6,7,29] [7]) (.seq (.cond (.t 29) (.seq (.region [
    { dst:=some 30,op:=.move (.t 0),ix:=0 },
    { dst:=some 31,op:=.move (.t 5),ix:=1 },
    { dst:=some 32,op:=.load 2 true (.t 7),ix:=2 },
    { dst:=some 33,op:=.indexAddr 2 (.t 30) (.t 31),ix:=3 },
    { dst:=none,op:=.store 2 true (.t 33) (.t 32),ix:=4 }] false [0,1,5,6] []) (.seq (.region [
    { dst:=some 34,op:=.move (.t 5),ix:=0 },
    { dst:=some 35,op:=.bin .add (.t 34) (.c (.int .i64 1)),ix:=1 },
    { dst:=some 5,op:=.move (.t 35),ix:=2 }] false [0,1,5,6] []) (.keep [0,1,5,6] [] .skip))) (.keep [0,1,5,6] [] .skip)) (.keep [0,1,5,6] [] .skip))))) (.keep [0,1,5,6] [] (.seq (.region [
    { dst:=some 20,op:=.move (.t 6),ix:=0 },
    { dst:=some 21,op:=.bin .add (.t 20) (.c (.int .i64 1)),ix:=1 },
    { dst:=some 6,op:=.move (.t 21),ix:=2 }] false [0,1,5,6] []) (.keep [0,1,5,6] [] .skip)))))))
def b8a (fi : Nat) (L : b1g) : b1g :=
  (.seq (.region [
    { dst:=some 4,op:=.move (.c (.list [])),ix:=0 }] false [0,1] []) (.seq (.region [
    { dst:=some 8,op:=.move (.t 0),ix:=0 },
    { dst:=some 9,op:=.move (.t 1),ix:=1 },
    { dst:=some 10,op:=.call fi [(.t 8,.as),(.t 9,.as)],ix:=2 },
    { dst:=some 5,op:=.move (.t 10),ix:=3 }] false [0,1,5] []) (.seq (.region [
    { dst:=some 11,op:=.move (.t 5),ix:=0 },
    { dst:=some 12,op:=.eq .i false (.t 11) (.c (.int .i64 (-1))),ix:=1 }] false [0,1,5,12] []) (.seq (.cond (.t 12) (.seq (.region [
    { dst:=some 13,op:=.move (.t 0),ix:=0 },
    { dst:=some 4,op:=.move (.t 13),ix:=1 }] false [4] []) (.keep [4] [] .ret)) (.keep [0,1,5] [] .skip)) (.keep [0,1,5] [] (.seq (.region [
    { dst:=some 14,op:=.move (.t 5),ix:=0 },
    { dst:=some 15,op:=.bin .add (.t 14) (.c (.int .i64 1)),ix:=1 },
    { dst:=some 6,op:=.move (.t 15),ix:=2 }] false [0,1,5,6] []) (.seq (.block 0 (.seq (.keep [0,1,5,6] [] (.loop L)) (.keep [0,5] [] .skip))) (.keep [0,5] [] .skip))))))))
def c5w (sz : Nat) : Ex × St → Option (AV × List AObj)
  | (.ret, ⟨fr, [], g⟩) => match (⟨fr, [], g⟩ : St).get 4 with
    | .own true k n => match g[k]? with
      | some (.pcells s xs)=>if s=sz∧xs.length=n then some (.p (.list xs),g.set k .dead) else none
      | _=>none
    | _=>none
  | (.normal, ⟨fr, [], g⟩) => match (⟨fr, [], g⟩ : St).get 0, (⟨fr, [], g⟩ : St).get 5 with
    | .own true k n, .p (.int .i64 i) => match g[k]? with
      | some (.pcells s xs)=>if s=sz∧xs.length=n∧0≤i∧i<n then some (.p (.list (xs.take i.toNat)),g.set k .dead) else none
      | _=>none
    | _,_=>none
  | _=>none
def b7y (fi:Nat) (L:b1g) (sz:Nat) (C:b0k):List AV→List AObj→Option (AV × List AObj)
 | [.own true k n,fv],g=>(b0r C (n+2) (b8a fi L) (b3w [.own true k n,fv] g)).bind (c5w sz)
 | _,_=>none
def isMv (o:Oper) (d n:Nat):Bool:=o.guard.isNone && o.dst==some d && match o.op with
 | .move (.tmp m)=>m==n
 | .assign (.tmp m)=>m==n
 | _=>false
def h6i (P:Program) (sz:Nat) (o:Oper) (d x i:Nat):Bool:=o.guard.isNone && o.dst==some d && match o.op with
 | .slice t (.tmp y) (some (.tmp j)) none none=>y==x && j==i && (match P.underlying t with | some (.slice e)=>b4z P e==some sz | _=>false)
 | _=>false
def h6g (P:Program) (sz:Nat) (o:Oper) (d x i:Nat):Bool:=o.guard.isNone && o.dst==some d && match o.op with
 | .slice t (.tmp y) none (some (.tmp j)) none=>y==x && j==i && (match P.underlying t with | some (.slice e)=>b4z P e==some sz | _=>false)
 | _=>false
def d8o (P : Program) (sz : Nat) (o : Oper) (x : Nat) : Bool := o.guard.isNone && o.dst == none && match o.op with
  | .call { callee := .builtin .clear, args, argTypes } => (match args.toList, argTypes.toList with
    | [.tmp y], [t] => y == x && (match P.underlying t with
      | some (.slice e) => (match (P.info? e).bind (·.zero) with
        | some z=>z.cells.size==sz && z.cells.toList.all (·.oneCell')
        | none=>false)
      | _=>false)
    | _,_=>false)
  | _=>false
def g8x (P : Program) (sz : Nat) : List Code → Bool
  | [.region _ o4 false, .region _ o5 false, .ret] => (match o4.toList with
    | [a,b,c,d]=>isMv a 36 0 && isMv b 37 5 && h6i P sz c 38 36 37 && d8o P sz d 38
    | _=>false) && (match o5.toList with
    | [a,b,c,d]=>isMv a 39 0 && isMv b 40 5 && h6g P sz c 41 39 40 && isMv d 4 41
    | _=>false)
  | _=>false
def g1f (P:Program) (fi:Nat) (L:b1g) (sz:Nat) (l:List Code):Bool:=b2p P 42 (b8a fi L) (l.take 6) && g8x P sz (l.drop 6)
def delB (P : Program) (f fi : Nat) (L : b1g) (sz : Nat) : Bool := b4q P f && sz != 0 && match P.funcs[f]? with
  | some fn => (match fn.body with
    | some b=>fn.ntmps==42 && b9q P [.tmp 4] fn.results.toList && g1f P fi L sz (items b)
    | none=>false)
  | none=>false
section
variable {P:Program} {Γ : b1c} {f:Nat}
theorem d9q {Q:Exit→Act→World→Prop}:∀ {l r:List Code} {a:Act} {w:World},wpL P (Exit.then (wpL P Q r) Q) l a w→wpL P Q (l++r) a w
  | [],r,a,w,h=>h
  | c :: l, r, a, w, h => by
    simp only [List.cons_append,wpL] at h ⊢
    refine wp_mono h (fun e a' w' he => ?_)
    cases e <;> simp only [Exit.then] at he ⊢ <;> first | exact d9q he | exact he
theorem b3y {ops:Array Oper} {rest:List Oper} {o:Oper} {a:Act} {w w':World} {v:Value} {Q:Exit→Act→World→Prop} (hg:o.guard.isNone=true) (hr:(execOp a.eval o).run P w = .ok (.value v) w') (h:wpList P ops Q rest (a.put o.dst v) w'):wpList P ops Q (o::rest) a w:=by
 have hw:Region.wanted o (yielded ops a.tmps)=true:=by
  have:o.guard=none:=by simpa using hg
  simp [Region.wanted,this]
 unfold wpList
 rw [if_pos hw]
 exact .inl (Does.wp (Does.value (R:=fun v' w''=>v'=v∧w''=w') hr ⟨rfl,rfl⟩) (fun v' w'' hR=>by
  obtain ⟨rfl,rfl⟩:=hR
  exact h))
theorem d4f {o:Oper} {d n:Nat} (h:isMv o d n=true) (a:Act) (w:World):o.guard.isNone=true∧o.dst=some d∧(execOp a.eval o).run P w = .ok (.value (a.eval (.tmp n))) w:=by
 simp only [isMv,Bool.and_eq_true,beq_iff_eq] at h
 obtain ⟨⟨h1,h2⟩,h3⟩:=h
 refine ⟨h1,h2, ?_⟩
 split at h3 <;> rename_i ho <;> first | (cases h3;done) | skip
 all_goals
  simp only [beq_iff_eq] at h3
  subst h3
  simp only [execOp,ho]
  rfl
theorem h5f {sz:Nat} {o:Oper} {d x i:Nat} (h:h6i P sz o d x i=true) (a:Act) (w:World) {b n cp m:Nat} (hx:a.eval (.tmp x) = .slice (some ⟨b,0,none⟩) n cp) (hi:a.eval (.tmp i) = .int .i64 m) (hm:m<n) (hn:n≤cp) :
  o.guard.isNone=true∧o.dst=some d∧(execOp a.eval o).run P w = .ok (.value (.slice (some ⟨b,m*sz,none⟩) (n - m) (cp - m))) w:=by
 simp only [h6i,Bool.and_eq_true,beq_iff_eq] at h
 obtain ⟨⟨h1,h2⟩,h3⟩:=h
 refine ⟨h1,h2, ?_⟩
 split at h3
 rotate_left
 ·cases h3
 rename_i t y j ho
 simp only [Bool.and_eq_true,beq_iff_eq] at h3
 obtain ⟨⟨rfl,rfl⟩,h3⟩:=h3
 split at h3
 rotate_left
 ·cases h3
 rename_i e he
 simp only [beq_iff_eq] at h3
 have hne:¬ (cp=m):=by omega
 have hsz:∀ w,(sizeOf e).run P w = .ok sz w:=fun w=>by
  cases hq:P.info? e with
  | none=>simp [b4z,hq] at h3
  | some q=>simp [b4z,hq] at h3;simp [sizeOf,typeInfo,hq,h3]
 have hle:(m:Int)≤(n:Int):=by omega
 simp [execOp,ho,hx,hi,Instr.sliceAt,Instr.slice,run_underlying he,Instr.sliceBounds,Instr.sliceBound,asIntOf,hle,hsz,hne,Addr.add_lit]
 first | done | (intro h;omega)
theorem h5e {sz:Nat} {o:Oper} {d x i:Nat} (h:h6g P sz o d x i=true) (a:Act) (w:World) {b n cp m:Nat} (hx:a.eval (.tmp x) = .slice (some ⟨b,0,none⟩) n cp) (hi:a.eval (.tmp i) = .int .i64 m) (hm:m<n) (hn:n≤cp) :
  o.guard.isNone=true∧o.dst=some d∧(execOp a.eval o).run P w = .ok (.value (.slice (some ⟨b,0,none⟩) m cp)) w:=by
 simp only [h6g,Bool.and_eq_true,beq_iff_eq] at h
 obtain ⟨⟨h1,h2⟩,h3⟩:=h
 refine ⟨h1,h2, ?_⟩
 split at h3
 rotate_left
 ·cases h3
 rename_i t y j ho
 simp only [Bool.and_eq_true,beq_iff_eq] at h3
 obtain ⟨⟨rfl,rfl⟩,h3⟩:=h3
 split at h3
 rotate_left
 ·cases h3
 rename_i e he
 simp only [beq_iff_eq] at h3
 have hne:¬ (cp=0):=by omega
 have hsz:∀ w,(sizeOf e).run P w = .ok sz w:=fun w=>by
  cases hq:P.info? e with
  | none=>simp [b4z,hq] at h3
  | some q=>simp [b4z,hq] at h3;simp [sizeOf,typeInfo,hq,h3]
 have hle:(m:Int)≤(cp:Int):=by omega
 simp [execOp,ho,hx,hi,Instr.sliceAt,Instr.slice,run_underlying he,Instr.sliceBounds,Instr.sliceBound,asIntOf,hle,hsz,hne,Addr.add_lit]
 first | done | (intro h;omega)
theorem d7l (w:World) (t e ty:TypeId) (z:Value) (ht:P.underlying t=some (.slice e)) (hv:∀ w,(zeroValue e).run P w = .ok z w) (h1:∀ v ∈ z.cells.toList,v.oneCell'=true) (b o n c:Nat) (hn:0<n)
  (hc:∀ j,j<n*z.cells.size→(w.cell? ⟨b,o+j,none⟩).isSome=true) (hf:∀ j,j<n*z.cells.size→w.frozen? ⟨b,o+j,none⟩=false) :
  (Builtin.clear_ #[t] ty #[.slice (some ⟨b,o,none⟩) n c]).run P w = .ok (.tuple #[]) (w.setCells b o (Builtin.zeroCells z.cells n).toList):=by
 have hl:(Builtin.zeroCells z.cells n).toList.length=n*z.cells.size:=by rw [Array.length_toList,size_zeroCells]
 have hst:=run_storeCells_cells (P:=P) b o (Builtin.zeroCells z.cells n).toList 0 w (by rw [hl];simpa using hc) (by rw [hl];simpa using hf) (by
  intro v hv'
  refine h1 v ?_
  simp only [Builtin.zeroCells,Array.toList_map,List.mem_map,Array.toList_range,List.mem_range] at hv'
  obtain ⟨i,hi,rfl⟩:=hv'
  have h0:0<z.cells.size:=Nat.pos_of_ne_zero (fun e=>by rw [e] at hi;omega)
  rw [getElem!_pos z.cells _ (Nat.mod_lt _ h0)]
  exact Array.getElem_mem_toList _)
 simp only [Nat.add_zero] at hst
 obtain ⟨m,rfl⟩:∃ m,n=m+1:=⟨n - 1,by omega⟩
 simp [Builtin.clear_,run_underlying ht,hv,hst]
theorem d7m {sz:Nat} {o:Oper} {x:Nat} (h:d8o P sz o x=true) (a:Act) (w:World) {b off n cp:Nat} (hx:a.eval (.tmp x) = .slice (some ⟨b,off,none⟩) n cp) (hn:0<n)
  (hc:∀ j,j<n*sz→(w.cell? ⟨b,off+j,none⟩).isSome=true) (hf:∀ j,w.frozen? ⟨b,j,none⟩=false) :
  o.guard.isNone=true∧o.dst=none∧∃ zs:List Value,zs.length=n*sz∧(execOp a.eval o).run P w = .ok (.value (.tuple #[])) (w.setCells b off zs):=by
 simp only [d8o,Bool.and_eq_true,beq_iff_eq] at h
 obtain ⟨⟨h1,h2⟩,h3⟩:=h
 refine ⟨h1,h2, ?_⟩
 split at h3
 rotate_left
 ·cases h3
 rename_i args ats ho
 split at h3
 rotate_left
 ·cases h3
 rename_i y t hargs hats
 simp only [Bool.and_eq_true,beq_iff_eq] at h3
 obtain ⟨rfl,h3⟩:=h3
 split at h3
 rotate_left
 ·cases h3
 rename_i e he
 split at h3
 rotate_left
 ·cases h3
 rename_i z hz
 simp only [Bool.and_eq_true,beq_iff_eq,List.all_eq_true] at h3
 obtain ⟨rfl,h1c⟩:=h3
 have hv:∀ w,(zeroValue e).run P w = .ok z w:=fun w=>by
  obtain ⟨q,hq,hqz⟩:=Option.bind_eq_some_iff.1 hz
  simp [zeroValue,typeInfo,hq,hqz]
 have hrun:=d7l w t e o.type z he hv h1c b off n cp hn hc (fun j _=>hf _)
 refine ⟨_,by rw [Array.length_toList,size_zeroCells], ?_⟩
 have ha:args = #[.tmp y]:=by rw [← Array.toArray_toList (xs:=args),hargs]
 have ht:ats = #[t]:=by rw [← Array.toArray_toList (xs:=ats),hats]
 subst ha
 subst ht
 simp [execOp,ho,resolve,invoke,builtin,hx,hrun,Result.andThen]
theorem b5t (a:Act) (d:Option Nat) (v:Value):(a.put d v).tmps.size=a.tmps.size:=by cases d <;> simp [Act.put]
theorem b4a {a:Act} {d n:Nat} {v:Value} (h:d<a.tmps.size):(a.put (some d) v).eval (.tmp n)=if n=d then v else a.eval (.tmp n):=by
 by_cases e:n=d
 ·subst e
  simp [Act.put,Act.eval,h]
 ·have e':¬ d=n:=fun h=>e h.symm
  simp [Act.put,Act.eval,e,e',Array.getElem?_setIfInBounds]
theorem d4n (a:Act) (d:Option Nat) (v:Value):(a.put d v).defers=a.defers:=by cases d <;> rfl
theorem d0l (hm : P.follows .mixedOrders = true) {fi : Nat} {L : b1g} {sz : Nat} (hB : delB P f fi L sz = true) : b5n P Γ f (b7y fi L sz) := by
  intro C hC args g r g' hp hno hgo
  unfold b7y at hp
  split at hp
  rotate_left
  · cases hp
  rename_i k n fv
  obtain ⟨⟨ex,s1⟩,hex,hout⟩:=Option.bind_eq_some_iff.1 hp
  simp only [delB,Bool.and_eq_true,bne_iff_ne,ne_eq] at hB
  obtain ⟨⟨hcal,hsz0⟩,hB⟩:=hB
  split at hB
  rotate_left
  · cases hB
  rename_i fn hfn
  split at hB
  rotate_left
  · cases hB
  rename_i body hbody
  simp only [Bool.and_eq_true,beq_iff_eq,g1f] at hB
  obtain ⟨⟨hnt,hres⟩,hhead,htail⟩:=hB
  have hitems:items body=(items body).take 6++(items body).drop 6:=(List.take_append_drop 6 _).symm
  generalize (items body).take 6=is1 at *
  generalize (items body).drop 6=is2 at *
  have hCg:∀ f args g r g',C f args g=some (r,g')→b0n args=true→gOk g→gOk g':=fun f args g r g' h1 h2 h3=>(hC f args g r g' h1 h2 h3).2.1
  have hgo1:gOk s1.g:=b5k hCg _ hhead (s:=b3w [.own true k n,fv] g) hgo hex
  obtain ⟨fr,l1,g1⟩:=s1
  have hr:l1=[]∧∃ xs k',r = .p (.list xs)∧g'=g1.set k' .dead:=by
    unfold c5w at hout
    split at hout <;> (try (cases hout;done)) <;> (rename_i heq;simp only [Prod.mk.injEq,St.mk.injEq] at heq;obtain ⟨_,rfl,rfl,rfl⟩:=heq) <;> (split at hout <;> (try (cases hout;done))) <;> (split at hout <;> (try (cases hout;done))) <;> (split at hout <;> (try (cases hout;done))) <;> (simp only [Option.some.injEq,Prod.mk.injEq] at hout;exact ⟨rfl,_,_,hout.1.symm,hout.2.symm⟩)
  obtain ⟨rfl,ys,k',rfl,rfl⟩:=hr
  refine ⟨hcal,d3d hgo1 k',rfl,fun c vs hl hgc hH hlen hrel => ?_⟩
  subst hgc
  refine calls_of_wp hfn hbody ?_
  have hg0:=c4f (c:=c) (args:=[.own true k n,fv]) (vs:=vs) (np:=2) (nt:=fn.ntmps) hlen hrel hH hl hgo rfl
  rw [hnt] at hg0 ⊢
  have hmax:max 2 42=42:=rfl
  rw [hmax] at hg0
  refine b3s ?_
  rw [hitems]
  refine d9q (b3l (C:=C) (N:=n+2) hm hC _ hhead hg0 hex (fun c1 a1 hg1 hE1 => ?_))
  have fin:∀ (a2:Act) (c2:Cx),a2.defers=[]→c2.l=[]→c2.g=g1.set k' .dead→Evo c c2→RelH Γ c2→(∃ u,a2.tmps.getD 4 undef=u∧RelV c2 (.p (.list ys)) u)→bodyPost P fn (fun e w'=>∃ v,e = .returned v∧Ans Γ c [] (g1.set k' .dead) (.p (.list ys)) v w') .ret a2 c2.w:=by
    intro a2 c2 hd hl2 hg2 hE hH2 ⟨u,hu,hv⟩
    refine ⟨hd,u, ?_,u,rfl,c2,hl2,hg2,rfl,hE.evolve hl,hH2,hv⟩
    have e:results fn a2.tmps=(do let vs ← fn.results.mapM (rvOf a2.tmps);pure (if h:vs.size=1 then vs[0] else .tuple vs)):=rfl
    have hrs:fn.results.toList=[.tmp 4]:=by
      cases h:fn.results.toList with
      | nil=>rw [h] at hres;simp [b9q] at hres
      | cons x l =>
        rw [h] at hres
        cases x with
        | tmp t =>
          simp only [b9q,Bool.and_eq_true,beq_iff_eq] at hres
          cases l with
          | nil=>rw [← hres.1]
          | cons y l=>simp [b9q] at hres
        | cell a b=>simp [b9q] at hres
    rw [e,Array.mapM_eq_mapM_toList,hrs]
    simp only [List.mapM_cons,List.mapM_nil,rvOf,hu]
    rfl
  cases ex with
  | exit id=>cases hout
  | ret =>
    simp only [c5w] at hout
    split at hout
    rotate_left
    · cases hout
    rename_i k2 n2 hav
    split at hout
    rotate_left
    · cases hout
    rename_i s xs hob
    split at hout
    rotate_left
    · cases hout
    rename_i hc
    obtain ⟨rfl,rfl⟩:=hc
    simp only [Option.some.injEq,Prod.mk.injEq,AV.p.injEq,PV.list.injEq] at hout
    obtain ⟨rfl,hset⟩:=hout
    have hob1:c1.obj true k2=some (.pcells s xs):=by
      have:c1.g=g1:=hg1.g.symm
      simp [Cx.obj,this,hob]
    have h4:=hg1.F 4
    rw [hav] at h4
    obtain ⟨t1,t2,t3⟩:=c1g hg1.H hob1 h4
    refine fin a1 (c1.set true k2 .dead none c1.w) hg1.D ?_ ?_ (hE1.trans t1.evo) t2 ⟨_,rfl,.p _ _ t3⟩
    · have:c1.l=[]:=hg1.l.symm
      simpa [Cx.set] using this
    · have:c1.g=g1:=hg1.g.symm
      simp [Cx.set,this,hset]
  | normal =>
    simp only [c5w] at hout
    split at hout
    rotate_left
    · cases hout
    rename_i k2 n2 i hav0 hav5
    split at hout
    rotate_left
    · cases hout
    rename_i s xs hob
    split at hout
    rotate_left
    · cases hout
    rename_i hc
    obtain ⟨rfl,rfl,hi0,hin⟩:=hc
    simp only [Option.some.injEq,Prod.mk.injEq,AV.p.injEq,PV.list.injEq] at hout
    obtain ⟨rfl,hset⟩:=hout
    have hg1g:c1.g=g1:=hg1.g.symm
    have hob1:c1.obj true k2=some (.pcells s xs):=by simp [Cx.obj,hg1g,hob]
    have h0:=hg1.F 0
    rw [hav0] at h0
    have h5:=hg1.F 5
    rw [hav5] at h5
    have h5:=b2h h5
    obtain ⟨A,cap,hv0,hrow⟩:=b9u h0 hob1 rfl
    rcases hrow with ⟨_,hn0,_⟩ | ⟨b,arr,e,q1,rfl,q3,q4,q5,q6⟩
    · omega
    simp only [AObj.sz] at q6
    have hR1:b3q c1 (c1.μ true k2) s (lift xs):=hg1.H.objs true k2 _ hob1
    rw [q1] at hR1
    obtain ⟨arr',e',hh,hrows⟩:=b7j hR1
    rw [q5] at hh
    cases hh
    obtain ⟨m,rfl⟩:∃ m:Nat,i=m:=⟨i.toNat,by omega⟩
    have hmn:m<xs.length:=by omega
    simp only [Int.toNat_natCast] at *
    unfold g8x at htail
    split at htail
    rotate_left
    · cases htail
    rename_i i4 o4 i5 o5
    simp only [Bool.and_eq_true] at htail
    obtain ⟨ht4,ht5⟩:=htail
    split at ht4
    rotate_left
    · cases ht4
    rename_i x0 x1 x2 x3 ho4
    split at ht5
    rotate_left
    · cases ht5
    rename_i y0 y1 y2 y3 ho5
    simp only [Bool.and_eq_true] at ht4 ht5
    obtain ⟨⟨⟨hx0,hx1⟩,hx2⟩,hx3⟩:=ht4
    obtain ⟨⟨⟨hy0,hy1⟩,hy2⟩,hy3⟩:=ht5
    simp only [c7b,Exit.then]
    have hN:=hg1.N
    have E0:a1.eval (.tmp 0) = .slice (some ⟨b,0,none⟩) xs.length cap:=hv0
    have E5:a1.eval (.tmp 5) = .int .i64 m:=h5
    have hfz:∀ j,c1.w.frozen? ⟨b,j,none⟩=false:=fun j=>by simp [World.frozen?,q5]
    have hmul:(xs.length - m)*s+m*s=xs.length*s:=by rw [← Nat.add_mul];congr 1;omega
    have hcap:xs.length*s≤arr.size:=by rw [q6];exact Nat.mul_le_mul_right _ q3
    show (Code.region i4 o4 false).wp P _ a1 c1.w
    refine wp_region_list ?_
    rw [ho4]
    obtain ⟨gd,dd,rr⟩:=d4f (P:=P) hx0 a1 c1.w
    refine b3y gd rr ?_
    rw [dd,E0]
    obtain ⟨gd,dd,rr⟩:=d4f (P:=P) hx1 (a1.put (some 36) (.slice (some ⟨b,0,none⟩) xs.length cap)) c1.w
    refine b3y gd rr ?_
    rw [dd,b4a (by omega),if_neg (by decide),E5]
    obtain ⟨gd,dd,rr⟩:=h5f hx2 ((a1.put (some 36) (.slice (some ⟨b,0,none⟩) xs.length cap)).put (some 37) (.int .i64 m)) c1.w (b:=b) (n:=xs.length) (cp:=cap) (m:=m) (by rw [b4a (by rw [b5t];omega),if_neg (by decide),b4a (by omega),if_pos rfl]) (by rw [b4a (by rw [b5t];omega),if_pos rfl]) hmn q3
    refine b3y gd rr ?_
    rw [dd]
    obtain ⟨gd,dd,zs,hzl,rr⟩:=d7m hx3 (((a1.put (some 36) (.slice (some ⟨b,0,none⟩) xs.length cap)).put (some 37) (.int .i64 m)).put (some 38) (.slice (some ⟨b,m*s,none⟩) (xs.length - m) (cap - m))) c1.w (b:=b) (off:=m*s) (n:=xs.length - m) (cp:=cap - m) (by rw [b4a (by rw [b5t,b5t];omega),if_pos rfl]) (by omega) (fun j hj=>by
      rw [cell_of_row c1.w b _ arr _ (0,0) q5,Array.getElem?_eq_getElem (by omega)];rfl) hfz
    refine b3y gd rr ?_
    rw [dd]
    simp only [wpList,Exit.then]
    have hw1:∃ w1,w1=c1.w.setCells b (m*s) zs:=⟨_,rfl⟩
    obtain ⟨w1,hw1⟩:=hw1
    rw [← hw1]
    have hA:∃ a5:Act,a5=((((a1.put (some 36) (.slice (some ⟨b,0,none⟩) xs.length cap)).put (some 37) (.int .i64 m)).put (some 38) (.slice (some ⟨b,m*s,none⟩) (xs.length - m) (cap - m))).put none (.tuple #[])):=⟨_,rfl⟩
    obtain ⟨a5,hA⟩:=hA
    rw [← hA]
    have F0:a5.eval (.tmp 0) = .slice (some ⟨b,0,none⟩) xs.length cap:=by
      rw [hA]
      show (Act.put _ (some 38) _).eval _=_
      rw [b4a (by simp only [b5t];omega),if_neg (by decide),b4a (by simp only [b5t];omega),if_neg (by decide),b4a (by omega),if_neg (by decide),E0]
    have F5:a5.eval (.tmp 5) = .int .i64 m:=by
      rw [hA]
      show (Act.put _ (some 38) _).eval _=_
      rw [b4a (by simp only [b5t];omega),if_neg (by decide),b4a (by simp only [b5t];omega),if_neg (by decide),b4a (by omega),if_neg (by decide),E5]
    have FN:a5.tmps.size=42:=by rw [hA];simp only [b5t];omega
    have FD:a5.defers=[]:=by rw [hA];simp only [d4n];exact hg1.D
    show (Code.region i5 o5 false).wp P _ a5 w1
    refine wp_region_list ?_
    rw [ho5]
    obtain ⟨gd,dd,rr⟩:=d4f (P:=P) hy0 a5 w1
    refine b3y gd rr ?_
    rw [dd,F0]
    obtain ⟨gd,dd,rr⟩:=d4f (P:=P) hy1 (a5.put (some 39) (.slice (some ⟨b,0,none⟩) xs.length cap)) w1
    refine b3y gd rr ?_
    rw [dd,b4a (by omega),if_neg (by decide),F5]
    obtain ⟨gd,dd,rr⟩:=h5e hy2 ((a5.put (some 39) (.slice (some ⟨b,0,none⟩) xs.length cap)).put (some 40) (.int .i64 m)) w1 (b:=b) (n:=xs.length) (cp:=cap) (m:=m) (by rw [b4a (by rw [b5t];omega),if_neg (by decide),b4a (by omega),if_pos rfl]) (by rw [b4a (by rw [b5t];omega),if_pos rfl]) hmn q3
    refine b3y gd rr ?_
    rw [dd]
    obtain ⟨gd,dd,rr⟩:=d4f (P:=P) hy3 (((a5.put (some 39) (.slice (some ⟨b,0,none⟩) xs.length cap)).put (some 40) (.int .i64 m)).put (some 41) (.slice (some ⟨b,0,none⟩) m cap)) w1
    refine b3y gd rr ?_
    rw [dd,b4a (by simp only [b5t];omega),if_pos rfl]
    simp only [wpList,Exit.then]
    refine wp_ret ?_
    have hml:(xs.take m).length=m:=by rw [List.length_take];omega
    have hbw:b<c1.w.heap.size:=(Array.getElem?_eq_some_iff.1 q5).1
    obtain ⟨t1,t2,t3⟩:=d5j hg1.H hob1 (w':=w1) (by rw [hw1,q1];exact Only.cells (.inl rfl) _ _ (Only.refl _ _)) (b:=b) (cap:=cap) (.inl q1) (by rw [hw1,b1j];exact hbw) (xs:=xs.take m) (by omega) q4 (by rw [d5e];exact hrows.head m) (fun j v hj=>by
      have hj':j<m*s:=by
        have:=(List.getElem?_eq_some_iff.1 hj).1
        rw [List.length_take] at this
        omega
      rw [hw1,World.cell?_setCells_out b _ _ _ _ (fun _ _=>by show j<m*s∨_;omega),cell_of_row c1.w b _ arr _ (0,0) q5]
      rw [List.getElem?_take,if_pos hj'] at hj
      simpa using hj)
    rw [hml] at t3
    refine fin _ (c1.set true k2 .dead none w1) (by simp only [d4n];exact FD) ?_ ?_ (hE1.trans t1.evo) t2 ⟨_,rfl, ?_⟩
    · have:c1.l=[]:=hg1.l.symm
      simpa [Cx.set] using this
    · simp [Cx.set,hg1g,hset]
    · have e4:(Act.put (((a5.put (some 39) (.slice (some ⟨b,0,none⟩) xs.length cap)).put (some 40) (.int .i64 m)).put (some 41) (.slice (some ⟨b,0,none⟩) m cap)) (some 4) (.slice (some ⟨b,0,none⟩) m cap)).eval (.tmp 4) = .slice (some ⟨b,0,none⟩) m cap:=by rw [b4a (by simp only [b5t];omega),if_pos rfl]
      have e5:∀ a:Act,a.eval (.tmp 4)=a.tmps.getD 4 undef:=fun _=>rfl
      rw [← e5,e4]
      exact t3
end
end Go.TA


end
section
/- strconv.Itoa, told at once. -/
namespace Go.TA
open Go.RowKit Go.Sort
def ΓW (P : Program) (W : World) : b1c where
  B:=W.heap.size
  holds w:=W.heap.size≤w.heap.size∧∃ g,P.globalNamed "internal/strconv.uint64pow10" = some g∧g<W.heap.size∧Lib.TabIs P w "internal/strconv.uint64pow10" .u64 Lib.pow10Tab
  lt w h:=h.1
  keep w w' h hb hs:=by
    obtain ⟨h1,g,hg,hlt,ht⟩:=h
    refine ⟨Nat.le_trans h1 hs,g,hg,hlt, ?_⟩
    unfold Lib.TabIs World.var? at *
    rw [hg] at *
    simp only [Option.bind_some] at *
    rw [hb g hlt]
    exact ht
theorem h5a {P:Program} {W:World} (w:World) (h:(ΓW P W).holds w):Lib.TabIs P w "internal/strconv.uint64pow10" .u64 Lib.pow10Tab:=by
 obtain ⟨_,_,_,_,h⟩:=h
 exact h
theorem g4s {P:Program} {W:World} (h:Lib.TabIs P W "internal/strconv.uint64pow10" .u64 Lib.pow10Tab):(ΓW P W).holds W:=by
 refine ⟨Nat.le_refl _, ?_⟩
 have h':=h
 unfold Lib.TabIs World.var? at h'
 obtain ⟨g,hg,h2⟩:=Option.bind_eq_some_iff.1 h'
 refine ⟨g,hg, ?_,h⟩
 rcases Nat.lt_or_ge g W.heap.size with hlt | hge
 ·exact hlt
 ·rw [Array.getElem?_eq_none hge] at h2
  cases h2
def g2n (C:b0k):List AV→List AObj→Option (AV × List AObj)
 | [.p (.int .i64 n)],g=>if -9223372036854775808≤n∧n≤9223372036854775807 then some (.p (.str (Lib.itoa n)),g) else none
 | _,_=>none
section
variable {P:Program} {Γ : b1c} {f:Nat}
theorem h1h (hcal:b4q P f=true) (hΓ : ∀ w, Γ.holds w→Lib.TabIs P w "internal/strconv.uint64pow10" .u64 Lib.pow10Tab)
  (h:∀ (n:Int) (w:World), -9223372036854775808≤n→n≤9223372036854775807→Lib.TabIs P w "internal/strconv.uint64pow10" .u64 Lib.pow10Tab→Calls P f #[.int .i64 n] w fun e w'=>e = .returned (.string ⟨(Lib.itoa n).toArray⟩)∧∃ k os,w'=grow (w.drewN k) os):b5n P Γ f g2n:=by
 intro C hC args g r g' hp hno hgo
 unfold g2n at hp
 split at hp
 ·rename_i n
  split at hp
  ·rename_i hn
   simp only [Option.some.injEq,Prod.mk.injEq] at hp
   obtain ⟨rfl,rfl⟩:=hp
   refine ⟨hcal,hgo,rfl,fun c vs hl hgc hH hlen hrel => ?_⟩
   match vs,hlen with
   | [v],_=>
   have e1:=b2h (hrel 0 (by simp) (by simp))
   simp only [List.getElem_cons_zero] at e1
   subst e1
   refine Calls.mono (h n c.w hn.1 hn.2 (hΓ _ hH.ground)) (fun e w' he => ?_)
   obtain ⟨rfl,k,os,rfl⟩:=he
   have hbel:Go.RowKit.Below c.w.heap.size c.w (grow (c.w.drewN k) os):=Lib.below_grow _ _ (Nat.le_refl _) k os
   exact ⟨_,rfl,{ c with w:=grow (c.w.drewN k) os },hl,hgc,rfl,b4d hbel hH.lt,hH.below hbel,.p _ _ (.str _)⟩
  ·cases hp
 ·cases hp
end
end Go.TA


end
section
/- slices.Insert at int: its roads, and what it is. -/
namespace Go.TA.Tryz
open Go.Shelf Go.RowKit Go.Lib Go.Proofs
def c1v:Value:=.int .i64 0
set_option maxHeartbeats 4000000 in
set_option maxRecDepth 100000 in
theorem g2v (b n c i vb voff m vc : Nat) (cs vs : List Value) (w : World) (hi : i < n) (hm : 0 < m) (hroom : n + m ≤ c) (hc63 : c ≤ 9223372036854775807) (hvb : vb ≠ b)
    (hcl:cs.length=n) (hvl:vs.length=m)
    (hcs:∀ j v,cs[j]? = some v→w.cell? ⟨b,j,none⟩=some v) (hsp:∀ j,j<(n+m)→(w.cell? ⟨b,j,none⟩).isSome=true) (hfz:∀ j,j<(n+m)→w.frozen? ⟨b,j,none⟩=false)
    (hvs:∀ j v,vs[j]? = some v→w.cell? ⟨vb,voff+j,none⟩=some v) (h1c:∀ v ∈ cs,v.oneCell'=true) (h1v:∀ v ∈ vs,v.oneCell'=true)
    (tA tB:TypeId) (kA kB:Nat) (hsa:w.shape? vb=some (tA,kA)) (hsb:w.shape? b=some (tB,kB)) (hkA:kA≠0) (hfb:∀ j,w.frozen? ⟨b,j,none⟩=false) :
    Calls Go.Proofs.Tryz.prog 169 #[.slice (some ⟨b,0,none⟩) n c,.int .i64 i,.slice (some ⟨vb,voff,none⟩) m vc] w fun e w'=>
      e = .returned (.slice (some ⟨b,0,none⟩) (n+m) c)∧w'=(w.drew.setCells b ((i+m)) (cs.drop (i))).setCells b (i) vs:=by
  have c1m:Go.Proofs.Tryz.prog.follows .mixedOrders=true:=by kernel_rfl
  have hz1:¬ ((m:Int)=0):=by omega
  have hz2:¬ ((i:Int)=(n:Int)):=by omega
  have hov:∀ lb cb,(callFunc 199 #[.slice (some ⟨vb,voff,none⟩) m vc,.slice (some ⟨b,(i+m),none⟩) lb cb]).run Go.Proofs.Tryz.prog w = .ok (.value (.bool false)) w:=fun lb cb=>by
    rw [run_callFunc_extern Tryz.func199 (by kernel_rfl) (by kernel_rfl) (by kernel_rfl) (e:=Extern.SlicesOverlaps.overlaps #[47,47] #[4]) (by kernel_rfl),
      b9o w 47 4 3 Tryz.underlying47 1 (fun w=>by kernel_rfl) ⟨vb,voff,none⟩ ⟨b,(i+m),none⟩ m vc lb cb hvb tA tB kA kB hsa hsb hkA (hfb _) (hfb _)]
    rfl
  have hsz:(Go.Proofs.Tryz.prog.info? 3).map (·.size)=some 1:=by kernel_rfl
  have hw1:IntKind.i64.wrap ((i:Int)+(m:Int))=(i:Int)+(m:Int):=by rw [IntKind.wrap_i64];omega
  have hb1:(0:Int)≤(i:Int)+(m:Int):=by omega
  have hin:i≤n:=by omega
  have htn:((i:Int)+(m:Int)).toNat=i+m:=by omega
  have hb2:¬ (c=i+m):=by omega
  have hb3:(i:Int)≤(n:Int)+(m:Int):=by omega
  have hb4:¬ (c=i):=by omega
  have hdl:(cs.drop (i)).length=(n - i):=by rw [List.length_drop];omega
  have hcp1:∀ ty dc sc,(Builtin.copy_ #[47,47] ty #[.slice (some ⟨b,(i+m),none⟩) (n+m - (i+m)) dc,.slice (some ⟨b,i,none⟩) (n+m - i) sc]).run Go.Proofs.Tryz.prog w.drew = .ok (goInt (Nat.min (n+m - i) (n+m - (i+m)))) (w.drew.setCells b ((i+m)) (cs.drop (i))):=fun ty dc sc=>
    b4v w.drew _ _ ty 3 1 b ((i+m)) (n+m - (i+m)) dc ⟨b,i,none⟩ (n+m - i) sc (cs.drop (i)) Tryz.underlying47 hsz (by rw [hdl];simp only [Nat.min_def];split <;> omega)
      (fun j v hj=>by rw [Addr.add_lit];exact hcs (i+j) v (by rwa [List.getElem?_drop] at hj))
      (fun j hj=>hsp _ (by omega)) (fun j hj=>hfz _ (by omega)) (fun v hv=>h1c v (List.mem_of_mem_drop hv))
  obtain ⟨W1,hW1⟩:∃ W1,W1=w.drew.setCells b ((i+m)) (cs.drop (i)):=⟨_,rfl⟩
  have hsp1:∀ k,k<(n+m)→(W1.cell? ⟨b,k,none⟩).isSome=true:=fun k hk=>by
    rw [hW1]
    exact isSome_setCells b (cs.drop (i)) ((i+m)) w.drew (fun j hj=>hsp ((i+m)+j) (by rw [hdl] at hj;omega)) k (hsp k hk)
  have hcp2:∀ (W:World),(∀ x,W.cell? x=W1.cell? x)→(∀ x,W.frozen? x=W1.frozen? x)→∀ ty dc,(Builtin.copy_ #[47,47] ty #[.slice (some ⟨b,i,none⟩) (n+m - i) dc,.slice (some ⟨vb,voff,none⟩) m vc]).run Go.Proofs.Tryz.prog W = .ok (goInt (Nat.min m (n+m - i))) (W.setCells b (i) vs):=fun W hWc hWf ty dc=>
    b4v W _ _ ty 3 1 b (i) (n+m - i) dc ⟨vb,voff,none⟩ m vc vs Tryz.underlying47 hsz (by rw [hvl];simp only [Nat.min_def];split <;> omega)
      (fun j v hj=>by
        rw [Addr.add_lit,hWc,hW1,World.cell?_setCells_out b _ _ _ _ (fun h _=>absurd h hvb)]
        exact hvs j v hj)
      (fun j hj=>by rw [hWc];exact hsp1 _ (by omega)) (fun j hj=>by rw [hWf,hW1,World.frozen?_setCells];exact hfz _ (by omega)) h1v
  rw [← hW1] at hcp1
  go_enter Tryz.func169,Tryz.ntmps169
  go_wp2_with (simp only [hov])
  go_region_law_o (refine step_copy_runI rfl _ _ 47 47 rfl _ _ (by simp [Act.eval,Act.put]) (by simp [Act.eval,Act.put]) (hcp1 _ _ _) ?_)
  go_wp2_with (at_builtin;refine wpList_copy_runI _ rfl _ _ 47 47 rfl _ _ rfl rfl (hcp2 _ (fun _=>rfl) (fun _=>rfl) _ _) ?_)
  go_ret
  first | exact ⟨rfl,rfl⟩ | exact ⟨rfl,by rw [hW1]⟩
set_option maxHeartbeats 4000000 in
set_option maxRecDepth 100000 in
theorem d2v (b n c vb voff m vc:Nat) (vs:List Value) (w:World) (hm:0<m) (hroom:n+m≤c) (hc63:c≤9223372036854775807) (hvl:vs.length=m)
  (hsp:∀ j,j<m→(w.cell? ⟨b,n+j,none⟩).isSome=true) (hfz:∀ j,j<m→w.frozen? ⟨b,n+j,none⟩=false)
  (hvs:∀ j v,vs[j]? = some v→w.cell? ⟨vb,voff+j,none⟩=some v) (h1v:∀ v ∈ vs,v.oneCell'=true) :
  Calls Go.Proofs.Tryz.prog 169 #[.slice (some ⟨b,0,none⟩) n c,.int .i64 n,.slice (some ⟨vb,voff,none⟩) m vc] w fun e w'=>
   e = .returned (.slice (some ⟨b,0,none⟩) (n+m) c)∧w'=w.setCells b (n) vs:=by
 have c1m:Go.Proofs.Tryz.prog.follows .mixedOrders=true:=by kernel_rfl
 have hz1:¬ ((m:Int)=0):=by omega
 obtain ⟨i0,hi0,hs0⟩:∃ i,Go.Proofs.Tryz.prog.info? 3=some i∧i.size=1:=⟨_,rfl,rfl⟩
 have hsrc:Src Go.Proofs.Tryz.prog i0.size 47 (.slice (some ⟨vb,voff,none⟩) m vc) m vs w:=Src.ofSlice w Tryz.underlying47 ⟨vb,voff,none⟩ m vc vs (by rw [hs0];omega) (fun j u hj=>by rw [Addr.add_lit];exact hvs j u hj) h1v
 go_enter Tryz.func169,Tryz.ntmps169
 go_wp2_with (at_builtin;refine wpList_append_room_src _ rfl _ _ 47 47 rfl 3 i0 Tryz.underlying47 hi0 b 0 n c rfl _ rfl m vs hsrc hroom (by rw [hs0,Nat.zero_add,hvl];first | exact hsp | simpa using hsp) (by rw [hs0,Nat.zero_add,hvl];first | exact hfz | simpa using hfz) ?_)
 go_ret
 first | exact ⟨rfl,rfl⟩ | exact ⟨rfl,by rw [hs0,Nat.zero_add]⟩ | exact ⟨rfl,by rw [hs0,Nat.zero_add,Nat.mul_one]⟩
set_option maxHeartbeats 4000000 in
set_option maxRecDepth 100000 in
theorem d2x (base:Option Addr) (n c vb voff m vc:Nat) (cs vs:List Value) (w:World) (hm:0<m) (hnc:n≤c) (hroom:c<n+m) (hbig:(n+m)*8≤140737488355328)
    (hcl:cs.length=n) (hvl:vs.length=m) (hnil:base=none→n=0)
    (hcs:∀ a,base=some a→∀ j v,cs[j]? = some v→w.cell? (a.add j)=some v)
    (hvs:∀ j v,vs[j]? = some v→w.cell? ⟨vb,voff+j,none⟩=some v) (h1v:∀ v ∈ vs,v.oneCell'=true) :
    Calls Go.Proofs.Tryz.prog 169 #[.slice base n c,.int .i64 n,.slice (some ⟨vb,voff,none⟩) m vc] w fun e w'=>
      e = .returned (.slice (some ⟨w.heap.size,0,none⟩) (n+m) (grownCap w (n+m) c 3)) ∧
      w'=w.drew.alloc (.cells ((cs++vs).toArray++Builtin.zeroCells c1v.cells (grownCap w (n+m) c 3 - (n+m))) 3):=by
  have c1m:Go.Proofs.Tryz.prog.follows .mixedOrders=true:=by kernel_rfl
  have hz1:¬ ((m:Int)=0):=by omega
  obtain ⟨i0,hi0,hs0,hz0,hb0⟩:∃ i,Go.Proofs.Tryz.prog.info? 3=some i∧i.size=1∧i.zero=some c1v∧i.bytes=8:=⟨_,rfl,rfl,rfl,rfl⟩
  have hsrc:Src Go.Proofs.Tryz.prog i0.size 47 (.slice (some ⟨vb,voff,none⟩) m vc) m vs w:=Src.ofSlice w Tryz.underlying47 ⟨vb,voff,none⟩ m vc vs (by rw [hs0];omega) (fun j u hj=>by rw [Addr.add_lit];exact hvs j u hj) h1v
  have hold:(Builtin.firstCells i0.size n (.slice base n c)).run Go.Proofs.Tryz.prog w.drew = .ok cs.toArray w.drew:=by
    rw [hs0]
    cases base with
    | none =>
      have h0:=hnil rfl
      subst h0
      have hc0:cs=[]:=List.length_eq_zero_iff.1 (by simpa using hcl)
      rw [hc0]
      exact run_firstCells_none w.drew 1 0 0 c
    | some a=>exact run_firstCells_some w.drew 1 n a n c cs (by omega) (fun j v hj=>hcs a rfl j v hj)
  have hrun:∀ ty,(Builtin.append_ #[47,47] ty #[.slice base n c,.slice (some ⟨vb,voff,none⟩) m vc]).run Go.Proofs.Tryz.prog w=_:=fun ty=>
    run_append_grow_src w 47 47 ty 3 i0 c1v Tryz.underlying47 hi0 hz0 base n c cs hold _ m vs hsrc hroom (by omega) (by rw [hb0];exact growslice_fits hroom hbig)
  go_enter Tryz.func169,Tryz.ntmps169
  cases base with
  | none =>
    have h0:=hnil rfl
    subst h0
    go_wp2_with (at_builtin;refine Lib.wpList_append_run _ rfl _ _ _ _ rfl _ _ rfl rfl _ _ (hrun _) ?_)
    go_ret
    exact ⟨rfl,rfl⟩
  | some a =>
    obtain ⟨ab,ao,asp⟩:=a
    go_wp2_with (at_builtin;refine Lib.wpList_append_run _ rfl _ _ _ _ rfl _ _ rfl rfl _ _ (hrun _) ?_)
    all_goals (go_ret;exact ⟨rfl,rfl⟩)
set_option maxHeartbeats 4000000 in
set_option maxRecDepth 100000 in
theorem g7v (b n c i vb voff m vc : Nat) (cs vs : List Value) (w : World) (hi : i < n) (hm : 0 < m) (hnc : n ≤ c) (hroom : c < n + m) (hbig : (n + m) * 8 ≤ 140737488355328)
    (hcl:cs.length=n) (hvl:vs.length=m)
    (hcs:∀ j v,cs[j]? = some v→w.cell? ⟨b,j,none⟩=some v)
    (hvs:∀ j v,vs[j]? = some v→w.cell? ⟨vb,voff+j,none⟩=some v) (h1c:∀ v ∈ cs,v.oneCell'=true) (h1v:∀ v ∈ vs,v.oneCell'=true) :
    Calls Go.Proofs.Tryz.prog 169 #[.slice (some ⟨b,0,none⟩) n c,.int .i64 i,.slice (some ⟨vb,voff,none⟩) m vc] w fun e w'=>
      e = .returned (.slice (some ⟨w.heap.size,0,none⟩) (n+m) (grownCap w (n+m) c 3)) ∧
      w'=(((w.alloc (.cells ((cs.take (i)).toArray++Builtin.zeroCells c1v.cells (n+m - i)++Builtin.zeroCells c1v.cells (grownCap w (n+m) c 3 - (n+m))) 3)).drew.setCells w.heap.size (i) vs).drew).setCells w.heap.size ((i+m)) (cs.drop (i)):=by
  have c1m:Go.Proofs.Tryz.prog.follows .mixedOrders=true:=by kernel_rfl
  obtain ⟨i0,hi0,hzs,hz0,hzb⟩:∃ i,Go.Proofs.Tryz.prog.info? 3=some i∧i.size=1∧i.zero=some c1v∧i.bytes=8:=⟨_,rfl,rfl,rfl,rfl⟩
  have hz1:¬ ((m:Int)=0):=by omega
  have hz2:¬ ((i:Int)=(n:Int)):=by omega
  have hz3:(c:Int)<(n:Int)+(m:Int):=by omega
  have hsz:(Go.Proofs.Tryz.prog.info? 3).map (·.size)=some 1:=by kernel_rfl
  have hbw:b<w.heap.size:=block_lt_of_cell (hcs 0 _ (List.getElem?_eq_getElem (by omega)))
  have hvw:vb<w.heap.size:=block_lt_of_cell (hvs 0 _ (List.getElem?_eq_getElem (by omega)))
  have hkk:(n:Int)+(m:Int) - (i:Int)=((n+m - i:Nat):Int):=by omega
  have hik:i+(n+m - i)=n+m:=by omega
  have hold:(Builtin.firstCells i0.size i (.slice (some ⟨b,0,none⟩) i c)).run Go.Proofs.Tryz.prog w.drew = .ok (cs.take (i)).toArray w.drew:=by
    rw [hzs]
    exact run_firstCells_some w.drew 1 i ⟨b,0,none⟩ i c (cs.take (i)) (by rw [List.length_take];omega) (fun j v hj=>by
      rw [Addr.add_lit,Nat.zero_add]
      rw [List.getElem?_take] at hj
      split at hj
      · exact hcs j v hj
      · cases hj)
  have hrz:∀ ty,(Builtin.append_ #[47,3] ty #[.slice (some ⟨b,0,none⟩) i c,.int .i64 ((n:Int)+(m:Int) - (i:Int))]).run Go.Proofs.Tryz.prog w =
      .ok (.slice (some ⟨w.heap.size,0,none⟩) (n+m) (grownCap w (n+m) c 3)) (w.drew.alloc (.cells ((cs.take (i)).toArray++Builtin.zeroCells c1v.cells (n+m - i)++Builtin.zeroCells c1v.cells (grownCap w (n+m) c 3 - (n+m))) 3)):=fun ty=>by
    have h:=Lib.run_append_grow_zeros w 47 3 ty 3 i0 c1v .i64 .i64 Tryz.underlying47 Tryz.underlying3 hi0 hz0 (some ⟨b,0,none⟩) i c (cs.take (i)) hold (n+m - i) (by omega) (by omega) (by omega) (by omega) (by rw [hzb];omega) (by rw [hzb,hik];exact growslice_fits hroom hbig)
    rw [hik] at h
    rw [hkk]
    exact h
  obtain ⟨G,hG⟩:∃ G,G=grownCap w (n+m) c 3:=⟨_,rfl⟩
  obtain ⟨ROW,hROW⟩:∃ ROW:Array Value,ROW=(cs.take (i)).toArray++Builtin.zeroCells c1v.cells (n+m - i)++Builtin.zeroCells c1v.cells (G - (n+m)):=⟨_,rfl⟩
  rw [← hG] at hrz ⊢
  rw [← hROW] at hrz ⊢
  have hRl:(n+m)≤ROW.size:=by
    rw [hROW]
    simp [Builtin.zeroCells,Value.cells,c1v]
    omega
  obtain ⟨W1,hW1⟩:∃ W1,W1=w.drew.alloc (.cells ROW 3):=⟨_,rfl⟩
  rw [← hW1] at hrz
  have hN:∀ j,j<(n+m)→(W1.cell? ⟨w.heap.size,j,none⟩).isSome=true:=fun j hj=>by
    rw [hW1,World.cell?_alloc_at (w:=w.drew) ROW _ w.heap.size j rfl,Array.getElem?_eq_getElem (by omega)];rfl
  have hNf:∀ j,W1.frozen? ⟨w.heap.size,j,none⟩=false:=fun j=>by rw [hW1];exact World.frozen?_alloc_at (w:=w.drew) ROW _ w.heap.size j rfl
  have hOb:∀ j v,w.cell? ⟨b,j,none⟩=some v→W1.cell? ⟨b,j,none⟩=some v:=fun j v h=>by rw [hW1,World.cell?_alloc_past (w:=w.drew) _ b j hbw];exact h
  have hOv:∀ j v,w.cell? ⟨vb,voff+j,none⟩=some v→W1.cell? ⟨vb,voff+j,none⟩=some v:=fun j v h=>by rw [hW1,World.cell?_alloc_past (w:=w.drew) _ vb (voff+j) hvw];exact h
  have hcpA:∀ (W:World),(∀ x,W.cell? x=W1.cell? x)→(∀ x,W.frozen? x=W1.frozen? x)→∀ ty dc,(Builtin.copy_ #[47,47] ty #[.slice (some ⟨w.heap.size,i,none⟩) (n+m - i) dc,.slice (some ⟨vb,voff,none⟩) m vc]).run Go.Proofs.Tryz.prog W = .ok (goInt (Nat.min m (n+m - i))) (W.setCells w.heap.size (i) vs):=fun W hWc hWf ty dc=>
    b4v W _ _ ty 3 1 w.heap.size (i) (n+m - i) dc ⟨vb,voff,none⟩ m vc vs Tryz.underlying47 hsz (by rw [hvl];simp only [Nat.min_def];split <;> omega)
      (fun j v hj=>by rw [Addr.add_lit,hWc];exact hOv _ v (hvs j v hj))
      (fun j hj=>by rw [hWc];exact hN _ (by omega)) (fun j hj=>by rw [hWf];exact hNf _) h1v
  have hGn:n+m≤G:=by rw [hG];exact grownCap_ge w _ _ _
  have hG63:G≤9223372036854775807:=by
    have:=grownCap_le_maxLen w (n+m) c 3 (by unfold maxLen;omega)
    rw [← hG] at this
    unfold maxLen at this
    omega
  have hGi:¬ (G=i):=by omega
  have hGim:¬ (G=i+m):=by omega
  have hci:¬ (c=i):=by omega
  have hbN:b≠w.heap.size:=by omega
  have hdl:(cs.drop (i)).length=(n - i):=by rw [List.length_drop];omega
  have hcpB:∀ (W:World),(∀ x,W.cell? x=(W1.setCells w.heap.size (i) vs).cell? x)→(∀ x,W.frozen? x=(W1.setCells w.heap.size (i) vs).frozen? x)→∀ ty dc sc,(Builtin.copy_ #[47,47] ty #[.slice (some ⟨w.heap.size,(i+m),none⟩) (n+m - (i+m)) dc,.slice (some ⟨b,i,none⟩) (n - i) sc]).run Go.Proofs.Tryz.prog W = .ok (goInt (Nat.min (n - i) (n+m - (i+m)))) (W.setCells w.heap.size ((i+m)) (cs.drop (i))):=fun W hWc hWf ty dc sc=>
    b4v W _ _ ty 3 1 w.heap.size ((i+m)) (n+m - (i+m)) dc ⟨b,i,none⟩ (n - i) sc (cs.drop (i)) Tryz.underlying47 hsz (by rw [hdl];simp only [Nat.min_def];split <;> omega)
      (fun j v hj=>by
        rw [Addr.add_lit,hWc,World.cell?_setCells_out _ _ _ _ _ (fun h _=>absurd h hbN)]
        exact hOb _ v (hcs (i+j) v (by rwa [List.getElem?_drop] at hj)))
      (fun j hj=>by rw [hWc];exact isSome_setCells _ vs (i) W1 (fun t ht=>hN _ (by omega)) _ (hN _ (by omega)))
      (fun j hj=>by rw [hWf,World.frozen?_setCells];exact hNf _) (fun v hv=>h1c v (List.mem_of_mem_drop hv))
  subst hW1
  have hE1:∀ x,((w.alloc (.cells ROW 3)).drew).cell? x=(w.drew.alloc (.cells ROW 3)).cell? x:=fun x=>rfl
  have hE2:∀ x,((w.alloc (.cells ROW 3)).drew).frozen? x=(w.drew.alloc (.cells ROW 3)).frozen? x:=fun x=>rfl
  have hF1:∀ x,(((w.alloc (.cells ROW 3)).drew.setCells w.heap.size (i) vs).drew).cell? x=((w.drew.alloc (.cells ROW 3)).setCells w.heap.size (i) vs).cell? x:=fun x=>rfl
  have hF2:∀ x,(((w.alloc (.cells ROW 3)).drew.setCells w.heap.size (i) vs).drew).frozen? x=((w.drew.alloc (.cells ROW 3)).setCells w.heap.size (i) vs).frozen? x:=fun x=>rfl
  have hw1:IntKind.i64.wrap ((i:Int)+(m:Int))=(i:Int)+(m:Int):=by rw [IntKind.wrap_i64];omega
  have hb1:(0:Int)≤(i:Int)+(m:Int):=by omega
  have hin:i≤n:=by omega
  have htn:((i:Int)+(m:Int)).toNat=i+m:=by omega
  have hb3:(i:Int)≤(n:Int):=by omega
  clear hkk hik hold hROW hG hRl
  go_enter Tryz.func169,Tryz.ntmps169
  go_wp2_with (first
    | (at_builtin;refine Lib.wpList_append_run _ rfl _ _ _ _ rfl _ _ rfl rfl _ _ (hrz _) ?_)
    | (at_builtin;refine wpList_copy_runI _ rfl _ _ 47 47 rfl _ _ rfl rfl (hcpA _ hE1 hE2 _ _) ?_)
    | (at_builtin;refine wpList_copy_runI _ rfl _ _ 47 47 rfl _ _ rfl rfl (hcpB _ (fun _=>rfl) (fun _=>rfl) _ _ _) ?_))
  go_region_law_o (refine step_copy_runI rfl _ _ 47 47 rfl (.slice (some ⟨w.heap.size,(i+m),none⟩) (n+m - (i+m)) (G - (i+m))) (.slice (some ⟨b,i,none⟩) (n - i) (c - i)) (by simp [Act.eval,Act.put]) (by simp [Act.eval,Act.put]) (hcpB _ hF1 hF2 3 (G - (i+m)) (c - i)) ?_)
  go_wp2
  go_ret
  exact ⟨rfl,rfl⟩
theorem g7t : c9g Go.Proofs.Tryz.prog 169 1 := by
  unfold c9g
  simp only [Nat.mul_one]
  intro A n cp i vb voff m vc cs vs w hi hm hnc hcm hbig hcl hvl h1c h1v hA hV
  have hvs:∀ j v,vs[j]? = some v→w.cell? ⟨vb,voff+j,none⟩=some v:=hV
  obtain ⟨tA,kA,hsa,hkA⟩:=c2w (hvs 0 _ (List.getElem?_eq_getElem (by omega)))
  have hmax:maxLen=9223372036854775807:=by decide
  by_cases hroom:n+m≤cp
  · rcases hA with ⟨h1,h2,h3⟩ | ⟨b,arr,e,rfl,hvb,hh,hsz,hcc⟩
    · omega
    have hcs:∀ j v,cs[j]? = some v→w.cell? ⟨b,j,none⟩=some v:=fun j v h=>(cell_of_row w b j arr e (0,0) hh).trans (hcc j v h)
    have hbw:b<w.heap.size:=(Array.getElem?_eq_some_iff.1 hh).1
    have hsp:∀ j,j<(n+m)→(w.cell? ⟨b,j,none⟩).isSome=true:=fun j hj=>by rw [cell_of_row w b j arr e (0,0) hh,Array.getElem?_eq_getElem (by omega)];rfl
    have hfz:∀ j,w.frozen? ⟨b,j,none⟩=false:=fun j=>by simp [World.frozen?,hh]
    by_cases hin:i<n
    · refine Calls.mono (g2v b n cp i vb voff m vc cs vs w hin hm hroom (by omega) hvb hcl hvl hcs hsp (fun j _=>hfz j) hvs h1c h1v tA e kA arr.size hsa (by simp [World.shape?,hh]) hkA hfz) (fun e' w' he => ?_)
      obtain ⟨rfl,rfl⟩:=he
      refine ⟨b,cp,rfl,hroom,hcm,.inl ⟨_,rfl,rfl⟩,by rw [b1j,b1j];exact hbw,Only.cells (.inl rfl) _ _ (Only.cells (.inl rfl) _ _ (Only.refl w _).drew),fun j v hj => ?_⟩
      have:=c2a (a:=i) (w:=w.drew) (b:=b) (by omega) hcs (fun j hj=>hsp j (by omega)) j v hj
      rw [hvl,show i+m=(i+m) by omega] at this
      exact this
    · have hin:i=n:=by omega
      subst hin
      refine Calls.mono (d2v b i cp vb voff m vc vs w hm hroom (by omega) hvl (fun j hj=>hsp _ (by omega)) (fun j _=>hfz _) hvs h1v) (fun e' w' he => ?_)
      obtain ⟨rfl,rfl⟩:=he
      refine ⟨b,cp,rfl,hroom,hcm,.inl ⟨_,rfl,rfl⟩,by rw [b1j];exact hbw,Only.cells (.inl rfl) _ _ (Only.refl w _),fun j v hj => ?_⟩
      rw [← hcl] at hj ⊢
      exact d5y hcs (fun j hj=>hsp j (by omega)) j v hj
  · have hge:=grownCap_ge w (n+m) cp 3
    have hcm2:=grownCap_le_maxLen w (n+m) cp 3 (by omega)
    by_cases hin:i<n
    · rcases hA with ⟨h1,h2,h3⟩ | ⟨b,arr,e,rfl,hvb,hh,hsz,hcc⟩
      · omega
      have hcs:∀ j v,cs[j]? = some v→w.cell? ⟨b,j,none⟩=some v:=fun j v h=>(cell_of_row w b j arr e (0,0) hh).trans (hcc j v h)
      refine Calls.mono (g7v b n cp i vb voff m vc cs vs w hin hm hnc (by omega) (by omega) hcl hvl hcs hvs h1c h1v) (fun e' w' he => ?_)
      obtain ⟨rfl,rfl⟩:=he
      generalize grownCap w (n+m) cp 3=G at *
      obtain ⟨ROW,hROW⟩:∃ ROW:Array Value,ROW=(cs.take (i)).toArray++Builtin.zeroCells c1v.cells (n+m - i)++Builtin.zeroCells c1v.cells (G - (n+m)):=⟨_,rfl⟩
      have hRl:(n+m)≤ROW.size:=by
        rw [hROW]
        simp [Builtin.zeroCells,Value.cells,c1v]
        omega
      have hRt:∀ j v,(cs.take (i))[j]? = some v→ROW[j]? = some v:=fun j v hj=>by
        have hlt:=(List.getElem?_eq_some_iff.1 hj).1
        rw [hROW,Array.getElem?_append_left (by simp at hlt ⊢;omega),Array.getElem?_append_left (by simpa using hlt)]
        simpa using hj
      rw [← hROW]
      have hN:∀ j,(w.alloc (.cells ROW 3)).drew.cell? ⟨w.heap.size,j,none⟩=ROW[j]? := fun j=>World.cell?_alloc_at (w:=w) ROW _ w.heap.size j rfl
      refine ⟨w.heap.size,G,rfl,hge,hcm2,.inr (Nat.le_refl _),by rw [b1j];show w.heap.size<(World.setCells _ _ _ _).heap.size;rw [b1j];show w.heap.size<(w.alloc _).heap.size;simp,Only.cells (.inr (Nat.le_refl _)) _ _ (Only.cells (.inr (Nat.le_refl _)) _ _ ((Only.refl w _).alloc _).drew).drew,fun j v hj => ?_⟩
      have:=d0u (a:=i) (vs:=vs) (w:=(w.alloc (.cells ROW 3)).drew) (w':=((w.alloc (.cells ROW 3)).drew.setCells w.heap.size (i) vs).drew) (b:=w.heap.size) (by omega) (fun j v hj=>(hN j).trans (hRt j v hj)) (fun j hj=>by rw [hN,Array.getElem?_eq_getElem (by omega)];rfl) (fun _=>rfl) j v hj
      rw [hvl,show i+m=(i+m) by omega] at this
      exact this
    · have hin:i=n:=by omega
      subst hin
      have hnil:A=none→i=0:=fun h=>by
        rcases hA with ⟨_,h2,_⟩ | ⟨b,arr,e,h2,_⟩
        · exact h2
        · rw [h2] at h;cases h
      have hcsA:∀ a,A=some a→∀ j v,cs[j]? = some v→w.cell? (a.add j)=some v:=by
        intro a ha j v hj
        rcases hA with ⟨h,_⟩ | ⟨b,arr,e,h,hvb,hh,hsz,hcc⟩
        · rw [h] at ha;cases ha
        · rw [h] at ha;cases ha
          rw [Addr.add_lit,Nat.zero_add]
          exact (cell_of_row w b j arr e (0,0) hh).trans (hcc j v hj)
      refine Calls.mono (d2x A i cp vb voff m vc cs vs w hm hnc (by omega) (by omega) hcl hvl hnil hcsA hvs h1v) (fun e' w' he => ?_)
      obtain ⟨rfl,rfl⟩:=he
      generalize grownCap w (i+m) cp 3=G at *
      refine ⟨w.heap.size,G,rfl,hge,hcm2,.inr (Nat.le_refl _),by show w.heap.size<(w.drew.alloc _).heap.size;simp,((Only.refl w _).drew).alloc _,fun j v hj => ?_⟩
      rw [← hcl,List.take_length,List.drop_length,List.append_nil] at hj
      have hlt:=(List.getElem?_eq_some_iff.1 hj).1
      rw [World.cell?_alloc_at (w:=w.drew) _ _ w.heap.size j rfl,Array.getElem?_append_left (by simpa using hlt)]
      simpa using hj
end Go.TA.Tryz


end
