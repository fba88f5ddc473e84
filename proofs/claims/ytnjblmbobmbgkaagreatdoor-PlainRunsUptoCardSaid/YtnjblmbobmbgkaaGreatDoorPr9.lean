/- Part 9 of 15 of a proof; joined from PrsLow1. Functions of the program, lowered: each is held against the program's own text by the kernel. -/
import Derived.Test.YtnjblmbobmbgkaaGreatDoorPr6
import Derived.Test.YtnjblmbobmbgkaaGreatDoorProg
set_option linter.unusedSimpArgs false
set_option linter.unusedVariables false
section
/- Functions of the program, lowered: each is held against the program's own text by the kernel. -/
set_option maxRecDepth 100000
namespace Go.TA.Tryz
def F72:LFunc:={ nparams:=2,results:=[.tmp 4],pure:=false,body :=
 (.seq (.region [
⟨some 4,.move (.c (.bool false)),none,0,[]⟩] false [0,1] []) (.seq (.region [
⟨some 5,.move (.t 1),none,0,[]⟩,
⟨some 6,.bin .geq (.t 5) (.c (.int .i64 0)),none,1,[]⟩,
⟨some 7,.move (.t 6),none,2,[]⟩,
⟨some 8,.move (.t 1),some (7,true),3,[]⟩,
⟨some 9,.move (.t 0),some (7,true),4,[]⟩,
⟨some 10,.nilCheck (.t 9),some (7,true),5,[]⟩,
⟨some 11,.fieldAddr 0 (.t 10),some (7,true),6,[]⟩,
⟨some 12,.load 1 false (.t 11),some (7,true),7,[]⟩,
⟨some 13,.len 1 (.t 12),some (7,true),8,[]⟩,
⟨some 14,.bin .lss (.t 8) (.t 13),some (7,true),9,[]⟩,
⟨some 15,.pick (.t 7) (.t 14) (.c (.bool false)),none,10,[]⟩,
⟨some 16,.move (.t 15),none,11,[]⟩,
⟨some 17,.move (.t 0),some (16,true),12,[]⟩,
⟨some 18,.nilCheck (.t 17),some (16,true),13,[]⟩,
⟨some 19,.fieldAddr 0 (.t 18),some (16,true),14,[]⟩,
⟨some 20,.load 1 false (.t 19),some (16,true),15,[]⟩,
⟨some 21,.move (.t 1),some (16,true),16,[]⟩,
⟨some 22,.indexAddr 7 (.t 20) (.t 21),some (16,true),17,[]⟩,
⟨some 23,.fieldAddr 0 (.t 22),some (16,true),18,[]⟩,
⟨some 24,.load 1 false (.t 23),some (16,true),19,[]⟩,
⟨some 25,.pick (.t 16) (.t 24) (.c (.bool false)),none,20,[]⟩,
⟨some 4,.move (.t 25),none,21,[]⟩] false [4] []) (.keep [4] [] .ret))) }
theorem ok72:fnSoundB Go.Proofs.Tryz.prog 72 F72=true:=by decide +kernel
def B73x0:LCode :=
 (.seq (.region [
⟨some 7,.move (.t 1),none,0,[]⟩,
⟨some 8,.bin .geq (.t 7) (.c (.int .i64 0)),none,1,[]⟩] false [0,1,2,8] []) (.seq (.cond (.t 8) (.keep [0,1,2] [] .skip) (.keep [] [] (.exit 0))) (.keep [0,1,2] [] (.seq (.block 1 (.seq (.region [
⟨some 17,.move (.t 1),none,0,[]⟩,
⟨some 18,.move (.t 2),none,1,[]⟩,
⟨some 19,.eq .i false (.t 17) (.t 18),none,2,[]⟩] false [0,1,2,19] []) (.seq (.cond (.t 19) (.seq (.region [
⟨some 6,.move (.c (.bool true)),none,0,[]⟩] false [6] []) (.keep [6] [] .ret)) (.keep [0,1,2] [] .skip)) (.keep [0,1,2] [] .skip)))) (.keep [0,1,2] [] (.seq (.region [
⟨some 9,.move (.t 0),none,0,[]⟩,
⟨some 10,.nilCheck (.t 9),none,1,[]⟩,
⟨some 11,.fieldAddr 0 (.t 10),none,2,[]⟩,
⟨some 12,.load 1 false (.t 11),none,3,[]⟩,
⟨some 13,.move (.t 1),none,4,[]⟩,
⟨some 14,.indexAddr 7 (.t 12) (.t 13),none,5,[]⟩,
⟨some 15,.fieldAddr 1 (.t 14),none,6,[]⟩,
⟨some 16,.load 1 false (.t 15),none,7,[]⟩,
⟨some 1,.move (.t 16),none,8,[]⟩] false [0,1,2] []) (.keep [0,1,2] [] .skip)))))))
def F73:LFunc:={ nparams:=3,results:=[.tmp 6],pure:=false,body :=
 (.seq (.region [
⟨some 6,.move (.c (.bool false)),none,0,[]⟩] false [0,1,2] []) (.seq (.block 0 (.seq (.keep [0,1,2] [] (.loop B73x0)) (.keep [] [] .skip))) (.keep [] [] (.seq (.region [
⟨some 6,.move (.c (.bool false)),none,0,[]⟩] false [6] []) (.keep [6] [] .ret))))) }
theorem ok73:fnSoundB Go.Proofs.Tryz.prog 73 F73=true:=by decide +kernel
def F74:LFunc:={ nparams:=4,results:=[],pure:=false,body :=
 (.seq (.region [
⟨some 10,.move (.t 0),none,0,[]⟩,
⟨some 11,.nilCheck (.t 10),none,1,[]⟩,
⟨some 12,.fieldAddr 0 (.t 11),none,2,[]⟩,
⟨some 13,.load 1 false (.t 12),none,3,[]⟩,
⟨some 14,.move (.t 2),none,4,[]⟩,
⟨some 15,.indexAddr 7 (.t 13) (.t 14),none,5,[]⟩,
⟨some 16,.fieldAddr 2 (.t 15),none,6,[]⟩,
⟨some 17,.load 1 false (.t 16),none,7,[]⟩,
⟨some 8,.move (.t 17),none,8,[]⟩] false [0,1,2,3,8] []) (.seq (.region [
⟨some 18,.move (.t 8),none,0,[]⟩,
⟨some 19,.len 1 (.t 18),none,1,[]⟩,
⟨some 9,.move (.t 19),none,2,[]⟩] false [0,1,2,3,8,9] []) (.seq (.region [
⟨some 20,.move (.t 3),none,0,[]⟩,
⟨some 21,.eq .i true (.t 20) (.c (.int .i64 0)),none,1,[]⟩] false [0,1,2,3,8,9,21] []) (.seq (.cond (.t 21) (.seq (.region [
⟨some 22,.move (.t 8),none,0,[]⟩,
⟨some 23,.move (.t 3),none,1,[]⟩,
⟨some 24,.pcall 105 [(.t 22,.look),(.t 23,.as)],none,2,[]⟩,
⟨some 9,.move (.t 24),none,3,[]⟩] false [0,1,2,8,9] []) (.keep [0,1,2,8,9] [] .skip)) (.keep [0,1,2,8,9] [] .skip)) (.keep [0,1,2,8,9] [] (.seq (.draw [
⟨some 25,.move (.t 0),none,0,[]⟩,
⟨some 26,.nilCheck (.t 25),none,1,[]⟩,
⟨some 27,.fieldAddr 0 (.t 26),none,2,[]⟩,
⟨some 28,.load 1 false (.t 27),none,3,[]⟩,
⟨some 29,.move (.t 2),none,4,[]⟩,
⟨some 30,.move (.t 8),none,5,[]⟩,
⟨some 32,.move (.t 9),none,7,[]⟩,
⟨some 33,.move (.t 1),none,8,[]⟩,
⟨some 34,.row 1 [.t 33],none,9,[]⟩,
⟨some 31,.call 76 [(.t 30,.as)],none,6,[3]⟩,
⟨some 35,.call 106 [(.t 31,.as),(.t 32,.as),(.t 34,.freeze)],none,10,[3]⟩,
⟨some 36,.indexAddr 7 (.t 28) (.t 29),none,11,[]⟩,
⟨some 37,.fieldAddr 2 (.t 36),none,12,[]⟩,
⟨none,.store 1 false (.t 37) (.t 35),none,13,[]⟩] [0,1,2] []) (.seq (.region [
⟨some 38,.move (.t 0),none,0,[]⟩,
⟨some 39,.nilCheck (.t 38),none,1,[]⟩,
⟨some 40,.fieldAddr 0 (.t 39),none,2,[]⟩,
⟨some 41,.load 1 false (.t 40),none,3,[]⟩,
⟨some 42,.move (.t 1),none,4,[]⟩,
⟨some 43,.move (.t 2),none,5,[]⟩,
⟨some 44,.indexAddr 7 (.t 41) (.t 42),none,6,[]⟩,
⟨some 45,.fieldAddr 1 (.t 44),none,7,[]⟩,
⟨none,.store 1 false (.t 45) (.t 43),none,8,[]⟩] false [] []) (.keep [] [] .skip)))))))) }
theorem ok74:fnSoundB Go.Proofs.Tryz.prog 74 F74=true:=by decide +kernel
def F77:LFunc:={ nparams:=2,results:=[.tmp 3],pure:=false,body :=
 (.seq (.region [
⟨some 3,.move (.c (.bool false)),none,0,[]⟩] false [0,1] []) (.seq (.region [
⟨some 4,.move (.t 0),none,0,[]⟩,
⟨some 5,.load 1 false (.t 1),none,1,[]⟩,
⟨some 6,.eq .i false (.t 4) (.t 5),none,2,[]⟩,
⟨some 3,.move (.t 6),none,3,[]⟩] false [3] []) (.keep [3] [] .ret))) }
theorem ok77:fnSoundB Go.Proofs.Tryz.prog 77 F77=true:=by decide +kernel
def F78:LFunc:={ nparams:=3,results:=[.tmp 6],pure:=true,body :=
 (.seq (.region [
⟨some 6,.move (.c (.list [])),none,0,[]⟩] false [0,1,2] []) (.seq (.region [
⟨some 11,.move (.t 0),none,0,[]⟩,
⟨some 12,.move (.t 1),none,1,[]⟩,
⟨some 13,.pcall 108 [(.t 11,.as),(.t 12,.as)],none,2,[]⟩,
⟨some 10,.move (.t 13),none,3,[]⟩,
⟨some 14,.extract (.t 10) 0,none,4,[]⟩,
⟨some 15,.extract (.t 10) 1,none,5,[]⟩,
⟨some 7,.move (.t 14),none,6,[]⟩,
⟨some 8,.move (.t 15),none,7,[]⟩] false [0,1,2,7,8] []) (.seq (.region [
⟨some 16,.move (.t 0),none,0,[]⟩,
⟨some 17,.call 37 [(.t 16,.as)],none,1,[]⟩,
⟨some 9,.move (.t 17),none,2,[]⟩] false [1,2,7,8,9] []) (.seq (.region [
⟨some 18,.move (.t 8),none,0,[]⟩] false [1,2,7,9,18] []) (.seq (.cond (.t 18) (.seq (.region [
⟨some 19,.move (.t 9),none,0,[]⟩,
⟨some 20,.move (.t 7),none,1,[]⟩,
⟨some 21,.move (.t 2),none,2,[]⟩,
⟨some 22,.indexAddr 2 (.t 19) (.t 20),none,3,[]⟩,
⟨some 23,.fieldAddr 1 (.t 22),none,4,[]⟩,
⟨none,.store 1 false (.t 23) (.t 21),none,5,[]⟩] false [9] []) (.seq (.region [
⟨some 24,.move (.t 9),none,0,[]⟩,
⟨some 6,.move (.t 24),none,1,[]⟩] false [6] []) (.keep [6] [] .ret))) (.keep [1,2,7,9] [] .skip)) (.keep [1,2,7,9] [] (.seq (.region [
⟨some 25,.move (.t 9),none,0,[]⟩,
⟨some 26,.move (.t 7),none,1,[]⟩,
⟨some 27,.move (.t 1),none,2,[]⟩,
⟨some 28,.move (.t 2),none,3,[]⟩,
⟨some 29,.build [.p (.str []),.p (.str [])] [(0,1,.t 27),(1,1,.t 28)],none,4,[]⟩,
⟨some 30,.row 2 [.t 29],none,5,[]⟩,
⟨some 31,.call 109 [(.t 25,.as),(.t 26,.as),(.t 30,.freeze)],none,6,[]⟩,
⟨some 6,.move (.t 31),none,7,[]⟩] false [6] []) (.keep [6] [] .ret)))))))) }
theorem ok78:fnSoundB Go.Proofs.Tryz.prog 78 F78=true:=by decide +kernel
def F79:LFunc:={ nparams:=2,results:=[.tmp 4,.tmp 5],pure:=true,body :=
 (.seq (.region [
⟨some 3,.box true 3 (.t 1),none,0,[]⟩,
⟨some 4,.move (.c (.list [])),none,1,[]⟩,
⟨some 5,.move (.c (.bool false)),none,2,[]⟩] false [0,3] []) (.seq (.region [
⟨some 7,.move (.t 0),none,0,[]⟩,
⟨some 8,.call 37 [(.t 7,.as)],none,1,[]⟩,
⟨some 9,.makeFunc 111 [.t 3],none,2,[]⟩,
⟨some 10,.call 110 [(.t 8,.as),(.t 9,.as)],none,3,[]⟩,
⟨some 6,.move (.t 10),none,4,[]⟩] false [0,6] []) (.seq (.region [
⟨some 11,.move (.t 6),none,0,[]⟩,
⟨some 12,.move (.t 6),none,1,[]⟩,
⟨some 13,.len 1 (.t 12),none,2,[]⟩,
⟨some 14,.move (.t 0),none,3,[]⟩,
⟨some 15,.len 1 (.t 14),none,4,[]⟩,
⟨some 16,.bin .lss (.t 13) (.t 15),none,5,[]⟩,
⟨some 4,.move (.t 11),none,6,[]⟩,
⟨some 5,.move (.t 16),none,7,[]⟩] false [4,5] []) (.keep [4,5] [] .ret)))) }
theorem ok79:fnSoundB Go.Proofs.Tryz.prog 79 F79=true:=by decide +kernel
def B80x0:LCode :=
 (.seq (.region [
⟨some 12,.bin .lss (.t 11) (.t 10),none,0,[]⟩] false [0,1,10,11,12] []) (.seq (.cond (.t 12) (.keep [0,1,10,11] [] .skip) (.keep [] [] (.exit 0))) (.keep [0,1,10,11] [] (.seq (.block 1 (.seq (.region [
⟨some 13,.move (.t 11),none,0,[]⟩,
⟨some 5,.move (.t 13),none,1,[]⟩] false [0,1,5,10,11] []) (.seq (.region [
⟨some 14,.move (.t 0),none,0,[]⟩,
⟨some 15,.nilCheck (.t 14),none,1,[]⟩,
⟨some 16,.fieldAddr 0 (.t 15),none,2,[]⟩,
⟨some 17,.load 1 false (.t 16),none,3,[]⟩,
⟨some 18,.move (.t 5),none,4,[]⟩,
⟨some 19,.indexAddr 7 (.t 17) (.t 18),none,5,[]⟩,
⟨some 20,.fieldAddr 0 (.t 19),none,6,[]⟩,
⟨some 21,.load 1 false (.t 20),none,7,[]⟩,
⟨some 22,.move (.t 1),none,8,[]⟩,
⟨some 23,.eq .i false (.t 21) (.t 22),none,9,[]⟩] false [0,1,5,10,11,23] []) (.seq (.cond (.t 23) (.seq (.region [
⟨some 24,.move (.t 5),none,0,[]⟩,
⟨some 4,.move (.t 24),none,1,[]⟩] false [4] []) (.keep [4] [] .ret)) (.keep [0,1,10,11] [] .skip)) (.keep [0,1,10,11] [] .skip))))) (.keep [0,1,10,11] [] (.seq (.region [
⟨some 25,.bin .add (.t 11) (.c (.int .i64 1)),none,0,[]⟩,
⟨some 11,.move (.t 25),none,1,[]⟩] false [0,1,10,11] []) (.keep [0,1,10,11] [] .skip)))))))
def F80:LFunc:={ nparams:=2,results:=[.tmp 4],pure:=false,body :=
 (.seq (.region [
⟨some 4,.move (.c (.int .i64 0)),none,0,[]⟩] false [0,1] []) (.seq (.region [
⟨some 6,.move (.t 0),none,0,[]⟩,
⟨some 7,.nilCheck (.t 6),none,1,[]⟩,
⟨some 8,.fieldAddr 0 (.t 7),none,2,[]⟩,
⟨some 9,.load 1 false (.t 8),none,3,[]⟩,
⟨some 10,.len 1 (.t 9),none,4,[]⟩,
⟨some 11,.move (.c (.int .i64 0)),none,5,[]⟩] false [0,1,10,11] []) (.seq (.block 0 (.seq (.keep [0,1,10,11] [] (.loop B80x0)) (.keep [] [] .skip))) (.keep [] [] (.seq (.region [
⟨some 4,.move (.c (.int .i64 (-1))),none,0,[]⟩] false [4] []) (.keep [4] [] .ret)))))) }
theorem ok80:fnSoundB Go.Proofs.Tryz.prog 80 F80=true:=by decide +kernel
def F81:LFunc:={ nparams:=1,results:=[.tmp 2],pure:=true,body :=
 (.seq (.region [
⟨some 2,.move (.c (.bool false)),none,0,[]⟩] false [0] []) (.seq (.region [
⟨some 3,.move (.t 0),none,0,[]⟩,
⟨some 4,.bin .lss (.t 3) (.c (.int .i64 0)),none,1,[]⟩,
⟨some 5,.move (.t 4),none,2,[]⟩,
⟨some 6,.move (.t 0),some (5,false),3,[]⟩,
⟨some 7,.bin .gtr (.t 6) (.c (.int .i64 4294967295)),some (5,false),4,[]⟩,
⟨some 8,.pick (.t 5) (.c (.bool true)) (.t 7),none,5,[]⟩,
⟨some 2,.move (.t 8),none,6,[]⟩] false [2] []) (.keep [2] [] .ret))) }
theorem ok81:fnSoundB Go.Proofs.Tryz.prog 81 F81=true:=by decide +kernel
def F82:LFunc:={ nparams:=1,results:=[.tmp 2],pure:=true,body :=
 (.seq (.region [
⟨some 1,.box false 1 (.t 0),none,0,[]⟩,
⟨some 2,.move (.c (.bool false)),none,1,[]⟩] false [1] [1]) (.seq (.region [
⟨some 4,.fieldAddr 0 (.t 1),none,0,[]⟩,
⟨some 5,.load 1 false (.t 4),none,1,[]⟩,
⟨some 3,.move (.t 5),none,2,[]⟩] false [1,3] [1]) (.seq (.region [
⟨some 6,.move (.t 3),none,0,[]⟩,
⟨some 7,.eq .i true (.t 6) (.c (.int .i64 1)),none,1,[]⟩,
⟨some 8,.move (.t 7),none,2,[]⟩,
⟨some 9,.fieldAddr 4 (.t 1),some (8,true),3,[]⟩,
⟨some 10,.load 1 false (.t 9),some (8,true),4,[]⟩,
⟨some 11,.eq .s true (.t 10) (.c (.str [])),some (8,true),5,[]⟩,
⟨some 12,.move (.t 11),some (8,true),6,[]⟩,
⟨some 13,.fieldAddr 5 (.t 1),some (12,false),7,[]⟩,
⟨some 14,.load 1 false (.t 13),some (12,false),8,[]⟩,
⟨some 15,.eq .s true (.t 14) (.c (.str [])),some (12,false),9,[]⟩,
⟨some 16,.pick (.t 12) (.c (.bool true)) (.t 15),some (8,true),10,[]⟩,
⟨some 17,.move (.t 16),some (8,true),11,[]⟩,
⟨some 18,.fieldAddr 8 (.t 1),some (17,false),12,[]⟩,
⟨some 19,.load 1 false (.t 18),some (17,false),13,[]⟩,
⟨some 20,.len 1 (.t 19),some (17,false),14,[]⟩,
⟨some 21,.bin .gtr (.t 20) (.c (.int .i64 0)),some (17,false),15,[]⟩,
⟨some 22,.pick (.t 17) (.c (.bool true)) (.t 21),some (8,true),16,[]⟩,
⟨some 23,.pick (.t 8) (.t 22) (.c (.bool false)),none,17,[]⟩] false [1,3,23] [1]) (.seq (.cond (.t 23) (.seq (.region [
⟨some 2,.move (.c (.bool true)),none,0,[]⟩] false [2] []) (.keep [2] [] .ret)) (.keep [1,3] [1] .skip)) (.keep [1,3] [1] (.seq (.region [
⟨some 24,.move (.t 3),none,0,[]⟩,
⟨some 25,.eq .i false (.t 24) (.c (.int .i64 1)),none,1,[]⟩,
⟨some 26,.move (.t 25),none,2,[]⟩,
⟨some 27,.fieldAddr 1 (.t 1),some (26,true),3,[]⟩,
⟨some 28,.load 1 false (.t 27),some (26,true),4,[]⟩,
⟨some 29,.eq .i true (.t 28) (.c (.int .i64 0)),some (26,true),5,[]⟩,
⟨some 30,.pick (.t 26) (.t 29) (.c (.bool false)),none,6,[]⟩,
⟨some 31,.move (.t 30),none,7,[]⟩,
⟨some 32,.move (.t 3),some (31,false),8,[]⟩,
⟨some 33,.eq .i true (.t 32) (.c (.int .i64 2)),some (31,false),9,[]⟩,
⟨some 34,.move (.t 33),some (31,false),10,[]⟩,
⟨some 35,.fieldAddr 2 (.t 1),some (34,true),11,[]⟩,
⟨some 36,.load 1 false (.t 35),some (34,true),12,[]⟩,
⟨some 37,.eq .i true (.t 36) (.c (.int .i64 0)),some (34,true),13,[]⟩,
⟨some 38,.pick (.t 34) (.t 37) (.c (.bool false)),some (31,false),14,[]⟩,
⟨some 39,.pick (.t 31) (.c (.bool true)) (.t 38),none,15,[]⟩,
⟨some 40,.move (.t 39),none,16,[]⟩,
⟨some 41,.move (.t 3),some (40,false),17,[]⟩,
⟨some 42,.eq .i true (.t 41) (.c (.int .i64 2)),some (40,false),18,[]⟩,
⟨some 43,.move (.t 42),some (40,false),19,[]⟩,
⟨some 44,.move (.t 3),some (43,true),20,[]⟩,
⟨some 45,.eq .i true (.t 44) (.c (.int .i64 3)),some (43,true),21,[]⟩,
⟨some 46,.pick (.t 43) (.t 45) (.c (.bool false)),some (40,false),22,[]⟩,
⟨some 47,.move (.t 46),some (40,false),23,[]⟩,
⟨some 48,.fieldAddr 3 (.t 1),some (47,true),24,[]⟩,
⟨some 49,.load 1 false (.t 48),some (47,true),25,[]⟩,
⟨some 50,.eq .i true (.t 49) (.c (.int .i64 0)),some (47,true),26,[]⟩,
⟨some 51,.pick (.t 47) (.t 50) (.c (.bool false)),some (40,false),27,[]⟩,
⟨some 52,.pick (.t 40) (.c (.bool true)) (.t 51),none,28,[]⟩] false [1,3,52] [1]) (.seq (.cond (.t 52) (.seq (.region [
⟨some 2,.move (.c (.bool true)),none,0,[]⟩] false [2] []) (.keep [2] [] .ret)) (.keep [1,3] [1] .skip)) (.keep [1,3] [1] (.seq (.region [
⟨some 53,.move (.t 3),none,0,[]⟩,
⟨some 54,.eq .i true (.t 53) (.c (.int .i64 5)),none,1,[]⟩,
⟨some 55,.move (.t 54),none,2,[]⟩,
⟨some 56,.move (.t 3),some (55,true),3,[]⟩,
⟨some 57,.eq .i true (.t 56) (.c (.int .i64 6)),some (55,true),4,[]⟩,
⟨some 58,.pick (.t 55) (.t 57) (.c (.bool false)),none,5,[]⟩,
⟨some 59,.move (.t 58),none,6,[]⟩,
⟨some 60,.fieldAddr 6 (.t 1),some (59,true),7,[]⟩,
⟨some 61,.load 1 false (.t 60),some (59,true),8,[]⟩,
⟨some 62,.eq .s true (.t 61) (.c (.str [])),some (59,true),9,[]⟩,
⟨some 63,.pick (.t 59) (.t 62) (.c (.bool false)),none,10,[]⟩,
⟨some 64,.move (.t 63),none,11,[]⟩,
⟨some 65,.move (.t 3),some (64,false),12,[]⟩,
⟨some 66,.eq .i true (.t 65) (.c (.int .i64 1)),some (64,false),13,[]⟩,
⟨some 67,.move (.t 66),some (64,false),14,[]⟩,
⟨some 68,.move (.t 3),some (67,true),15,[]⟩,
⟨some 69,.eq .i true (.t 68) (.c (.int .i64 5)),some (67,true),16,[]⟩,
⟨some 70,.pick (.t 67) (.t 69) (.c (.bool false)),some (64,false),17,[]⟩,
⟨some 71,.move (.t 70),some (64,false),18,[]⟩,
⟨some 72,.move (.t 3),some (71,true),19,[]⟩,
⟨some 73,.eq .i true (.t 72) (.c (.int .i64 7)),some (71,true),20,[]⟩,
⟨some 74,.pick (.t 71) (.t 73) (.c (.bool false)),some (64,false),21,[]⟩,
⟨some 75,.move (.t 74),some (64,false),22,[]⟩,
⟨some 76,.fieldAddr 7 (.t 1),some (75,true),23,[]⟩,
⟨some 77,.load 1 false (.t 76),some (75,true),24,[]⟩,
⟨some 78,.eq .s true (.t 77) (.c (.str [])),some (75,true),25,[]⟩,
⟨some 79,.pick (.t 75) (.t 78) (.c (.bool false)),some (64,false),26,[]⟩,
⟨some 80,.pick (.t 64) (.c (.bool true)) (.t 79),none,27,[]⟩,
⟨some 2,.move (.t 80),none,28,[]⟩] false [2] []) (.keep [2] [] .ret)))))))))) }
theorem ok82:fnSoundB Go.Proofs.Tryz.prog 82 F82=true:=by decide +kernel
def F83:LFunc:={ nparams:=5,results:=[.tmp 10,.tmp 11],pure:=false,body :=
 (.seq (.region [
⟨some 10,.move (.c (.int .i64 0)),none,0,[]⟩,
⟨some 11,.move (.c (.int .i64 0)),none,1,[]⟩] false [0,1,2,3,4] []) (.seq (.region [
⟨some 14,.move (.t 1),none,0,[]⟩,
⟨some 15,.pcall 63 [(.t 14,.as),(.c (.bool false),.as)],none,1,[]⟩,
⟨some 16,.un .not (.t 15),none,2,[]⟩] false [0,1,2,3,4,16] []) (.seq (.cond (.t 16) (.seq (.region [
⟨some 10,.move (.c (.int .i64 0)),none,0,[]⟩,
⟨some 11,.move (.c (.int .i64 7)),none,1,[]⟩] false [10,11] []) (.keep [10,11] [] .ret)) (.keep [0,1,2,3,4] [] .skip)) (.keep [0,1,2,3,4] [] (.seq (.region [
⟨some 17,.move (.t 2),none,0,[]⟩,
⟨some 18,.len 0 (.t 17),none,1,[]⟩,
⟨some 19,.bin .gtr (.t 18) (.c (.int .i64 65536)),none,2,[]⟩,
⟨some 20,.move (.t 19),none,3,[]⟩,
⟨some 21,.move (.t 3),some (20,false),4,[]⟩,
⟨some 22,.len 0 (.t 21),some (20,false),5,[]⟩,
⟨some 23,.bin .gtr (.t 22) (.c (.int .i64 65536)),some (20,false),6,[]⟩,
⟨some 24,.pick (.t 20) (.c (.bool true)) (.t 23),none,7,[]⟩] false [0,1,2,3,4,24] []) (.seq (.cond (.t 24) (.seq (.region [
⟨some 10,.move (.c (.int .i64 0)),none,0,[]⟩,
⟨some 11,.move (.c (.int .i64 3)),none,1,[]⟩] false [10,11] []) (.keep [10,11] [] .ret)) (.keep [0,1,2,3,4] [] .skip)) (.keep [0,1,2,3,4] [] (.seq (.region [
⟨some 26,.move (.t 4),none,0,[]⟩,
⟨some 27,.pcall 64 [(.t 26,.as)],none,1,[]⟩,
⟨some 25,.move (.t 27),none,2,[]⟩,
⟨some 28,.extract (.t 25) 0,none,3,[]⟩,
⟨some 29,.extract (.t 25) 1,none,4,[]⟩,
⟨some 12,.move (.t 28),none,5,[]⟩,
⟨some 13,.move (.t 29),none,6,[]⟩] false [0,1,2,3,4,13] []) (.seq (.region [
⟨some 30,.move (.t 13),none,0,[]⟩,
⟨some 31,.eq .i true (.t 30) (.c (.int .i64 0)),none,1,[]⟩] false [0,1,2,3,4,13,31] []) (.seq (.cond (.t 31) (.seq (.region [
⟨some 32,.move (.t 13),none,0,[]⟩,
⟨some 10,.move (.c (.int .i64 0)),none,1,[]⟩,
⟨some 11,.move (.t 32),none,2,[]⟩] false [10,11] []) (.keep [10,11] [] .ret)) (.keep [0,1,2,3,4] [] .skip)) (.keep [0,1,2,3,4] [] (.seq (.region [
⟨some 33,.move (.t 0),none,0,[]⟩,
⟨some 34,.nilCheck (.t 33),none,1,[]⟩,
⟨some 35,.fieldAddr 1 (.t 34),none,2,[]⟩,
⟨some 36,.load 1 false (.t 35),none,3,[]⟩,
⟨some 37,.bin .gtr (.t 36) (.c (.int .i64 4294967295)),none,4,[]⟩] false [0,1,2,3,4,37] []) (.seq (.cond (.t 37) (.seq (.region [
⟨some 10,.move (.c (.int .i64 0)),none,0,[]⟩,
⟨some 11,.move (.c (.int .i64 21)),none,1,[]⟩] false [10,11] []) (.keep [10,11] [] .ret)) (.keep [0,1,2,3,4] [] .skip)) (.keep [0,1,2,3,4] [] (.seq (.draw [
⟨some 38,.move (.t 0),none,0,[]⟩,
⟨some 39,.move (.t 0),none,1,[]⟩,
⟨some 40,.nilCheck (.t 39),none,2,[]⟩,
⟨some 41,.fieldAddr 0 (.t 40),none,3,[]⟩,
⟨some 42,.load 1 false (.t 41),none,4,[]⟩,
⟨some 43,.move (.t 0),none,5,[]⟩,
⟨some 44,.nilCheck (.t 43),none,6,[]⟩,
⟨some 45,.fieldAddr 1 (.t 44),none,7,[]⟩,
⟨some 46,.load 1 false (.t 45),none,8,[]⟩,
⟨some 47,.move (.t 1),none,9,[]⟩,
⟨some 48,.move (.t 2),none,10,[]⟩,
⟨some 49,.move (.t 3),none,11,[]⟩,
⟨some 50,.move (.t 4),none,12,[]⟩,
⟨some 51,.build [.p (.int .i64 0),.p (.int .i64 0),.nils,.p (.str []),.p (.str []),.p (.str []),.p (.list [])] [(0,1,.t 46),(1,1,.c (.int .i64 (-1))),(3,1,.t 47),(4,1,.t 48),(5,1,.t 49),(6,1,.t 50)],none,13,[]⟩,
⟨some 52,.row 7 [.t 51],none,14,[]⟩,
⟨some 53,.append true 1000 7 112 (.t 42) (.t 52),none,15,[]⟩,
⟨some 54,.nilCheck (.t 38),none,16,[]⟩,
⟨some 55,.fieldAddr 0 (.t 54),none,17,[]⟩,
⟨none,.store 1 false (.t 55) (.t 53),none,18,[]⟩] [0] []) (.seq (.region [
⟨some 56,.move (.t 0),none,0,[]⟩,
⟨some 57,.nilCheck (.t 56),none,1,[]⟩,
⟨some 58,.fieldAddr 1 (.t 57),none,2,[]⟩,
⟨some 59,.load 1 false (.t 58),none,3,[]⟩,
⟨some 60,.bin .add (.t 59) (.c (.int .i64 1)),none,4,[]⟩,
⟨some 61,.nilCheck (.t 56),none,5,[]⟩,
⟨some 62,.fieldAddr 1 (.t 61),none,6,[]⟩,
⟨none,.store 1 false (.t 62) (.t 60),none,7,[]⟩] false [0] []) (.seq (.region [
⟨some 63,.move (.t 0),none,0,[]⟩,
⟨some 64,.nilCheck (.t 63),none,1,[]⟩,
⟨some 65,.fieldAddr 1 (.t 64),none,2,[]⟩,
⟨some 66,.load 1 false (.t 65),none,3,[]⟩,
⟨some 67,.bin .sub (.t 66) (.c (.int .i64 1)),none,4,[]⟩,
⟨some 10,.move (.t 67),none,5,[]⟩,
⟨some 11,.move (.c (.int .i64 0)),none,6,[]⟩] false [10,11] []) (.keep [10,11] [] .ret)))))))))))))))))) }
theorem ok83:fnSoundB Go.Proofs.Tryz.prog 83 F83=true:=by decide +kernel
def F84:LFunc:={ nparams:=4,results:=[.tmp 8],pure:=false,body :=
 (.seq (.region [
⟨some 8,.move (.c (.int .i64 0)),none,0,[]⟩] false [0,1,2,3] []) (.seq (.region [
⟨some 10,.move (.t 0),none,0,[]⟩,
⟨some 11,.move (.t 1),none,1,[]⟩,
⟨some 12,.call 112 [(.t 10,.as),(.t 11,.as)],none,2,[]⟩,
⟨some 9,.move (.t 12),none,3,[]⟩] false [0,1,2,3,9] []) (.seq (.region [
⟨some 13,.move (.t 9),none,0,[]⟩,
⟨some 14,.eq .i true (.t 13) (.c (.int .i64 0)),none,1,[]⟩] false [0,1,2,3,9,14] []) (.seq (.cond (.t 14) (.seq (.region [
⟨some 15,.move (.t 9),none,0,[]⟩,
⟨some 8,.move (.t 15),none,1,[]⟩] false [8] []) (.keep [8] [] .ret)) (.keep [0,1,2,3] [] .skip)) (.keep [0,1,2,3] [] (.seq (.region [
⟨some 16,.move (.t 0),none,0,[]⟩,
⟨some 17,.move (.t 2),none,1,[]⟩,
⟨some 18,.call 80 [(.t 16,.as),(.t 17,.as)],none,2,[]⟩,
⟨some 19,.bin .lss (.t 18) (.c (.int .i64 0)),none,3,[]⟩,
⟨some 20,.move (.t 19),none,4,[]⟩,
⟨some 21,.move (.t 0),some (20,false),5,[]⟩,
⟨some 22,.move (.t 3),some (20,false),6,[]⟩,
⟨some 23,.call 80 [(.t 21,.as),(.t 22,.as)],some (20,false),7,[]⟩,
⟨some 24,.bin .lss (.t 23) (.c (.int .i64 0)),some (20,false),8,[]⟩,
⟨some 25,.pick (.t 20) (.c (.bool true)) (.t 24),none,9,[]⟩] false [0,1,2,3,25] []) (.seq (.cond (.t 25) (.seq (.region [
⟨some 8,.move (.c (.int .i64 13)),none,0,[]⟩] false [8] []) (.keep [8] [] .ret)) (.keep [0,1,2,3] [] .skip)) (.keep [0,1,2,3] [] (.seq (.draw [
⟨some 26,.move (.t 0),none,0,[]⟩,
⟨some 27,.nilCheck (.t 26),none,1,[]⟩,
⟨some 28,.fieldAddr 0 (.t 27),none,2,[]⟩,
⟨some 29,.load 1 false (.t 28),none,3,[]⟩,
⟨some 30,.move (.t 0),none,4,[]⟩,
⟨some 31,.move (.t 1),none,5,[]⟩,
⟨some 32,.call 80 [(.t 30,.as),(.t 31,.as)],none,6,[3]⟩,
⟨some 33,.indexAddr 7 (.t 29) (.t 32),none,7,[]⟩,
⟨some 34,.fieldAddr 1 (.t 33),none,8,[]⟩,
⟨some 35,.load 1 false (.t 34),none,9,[]⟩,
⟨some 36,.bin .geq (.t 35) (.c (.int .i64 0)),none,10,[]⟩] [0,1,2,3,36] []) (.seq (.cond (.t 36) (.seq (.region [
⟨some 8,.move (.c (.int .i64 15)),none,0,[]⟩] false [8] []) (.keep [8] [] .ret)) (.keep [0,1,2,3] [] .skip)) (.keep [0,1,2,3] [] (.seq (.region [
⟨some 37,.move (.t 0),none,0,[]⟩,
⟨some 38,.move (.t 2),none,1,[]⟩,
⟨some 39,.move (.t 1),none,2,[]⟩,
⟨some 40,.call 113 [(.t 37,.as),(.t 38,.as),(.t 39,.as)],none,3,[]⟩] false [0,1,2,3,40] []) (.seq (.cond (.t 40) (.seq (.region [
⟨some 8,.move (.c (.int .i64 17)),none,0,[]⟩] false [8] []) (.keep [8] [] .ret)) (.keep [0,1,2,3] [] .skip)) (.keep [0,1,2,3] [] (.seq (.draw [
⟨some 41,.move (.t 3),none,0,[]⟩,
⟨some 42,.eq .i true (.t 41) (.c (.int .i64 0)),none,1,[]⟩,
⟨some 43,.move (.t 42),none,2,[]⟩,
⟨some 44,.move (.t 0),some (43,true),3,[]⟩,
⟨some 45,.nilCheck (.t 44),some (43,true),4,[]⟩,
⟨some 46,.fieldAddr 0 (.t 45),some (43,true),5,[]⟩,
⟨some 47,.load 1 false (.t 46),some (43,true),6,[]⟩,
⟨some 48,.move (.t 0),some (43,true),7,[]⟩,
⟨some 49,.move (.t 3),some (43,true),8,[]⟩,
⟨some 54,.move (.t 2),some (43,true),13,[]⟩,
⟨some 50,.call 80 [(.t 48,.as),(.t 49,.as)],some (43,true),9,[6]⟩,
⟨some 51,.indexAddr 7 (.t 47) (.t 50),some (43,true),10,[]⟩,
⟨some 52,.fieldAddr 1 (.t 51),some (43,true),11,[]⟩,
⟨some 53,.load 1 false (.t 52),some (43,true),12,[]⟩,
⟨some 55,.eq .i true (.t 53) (.t 54),some (43,true),14,[]⟩,
⟨some 56,.pick (.t 43) (.t 55) (.c (.bool false)),none,15,[]⟩] [0,1,2,3,56] []) (.seq (.cond (.t 56) (.seq (.region [
⟨some 8,.move (.c (.int .i64 18)),none,0,[]⟩] false [8] []) (.keep [8] [] .ret)) (.keep [0,1,2,3] [] .skip)) (.keep [0,1,2,3] [] (.seq (.draw [
⟨some 57,.move (.t 0),none,0,[]⟩,
⟨some 58,.move (.t 2),none,1,[]⟩,
⟨some 59,.move (.t 0),none,2,[]⟩,
⟨some 60,.nilCheck (.t 59),none,3,[]⟩,
⟨some 61,.fieldAddr 0 (.t 60),none,4,[]⟩,
⟨some 62,.load 1 false (.t 61),none,5,[]⟩,
⟨some 63,.move (.t 0),none,6,[]⟩,
⟨some 64,.move (.t 2),none,7,[]⟩,
⟨some 69,.move (.t 1),none,12,[]⟩,
⟨some 70,.move (.t 3),none,13,[]⟩,
⟨some 65,.call 80 [(.t 63,.as),(.t 64,.as)],none,8,[5]⟩,
⟨some 66,.indexAddr 7 (.t 62) (.t 65),none,9,[]⟩,
⟨some 67,.fieldAddr 2 (.t 66),none,10,[]⟩,
⟨some 68,.load 1 false (.t 67),none,11,[]⟩,
⟨some 71,.pcall 115 [(.t 68,.freeze),(.t 69,.as),(.t 70,.as)],none,14,[]⟩,
⟨some 72,.call 114 [(.t 57,.as),(.t 58,.as),(.t 71,.as)],none,15,[]⟩] [0,1,2] []) (.seq (.draw [
⟨some 73,.move (.t 0),none,0,[]⟩,
⟨some 74,.nilCheck (.t 73),none,1,[]⟩,
⟨some 75,.fieldAddr 0 (.t 74),none,2,[]⟩,
⟨some 76,.load 1 false (.t 75),none,3,[]⟩,
⟨some 77,.move (.t 0),none,4,[]⟩,
⟨some 78,.move (.t 1),none,5,[]⟩,
⟨some 80,.move (.t 2),none,7,[]⟩,
⟨some 79,.call 80 [(.t 77,.as),(.t 78,.as)],none,6,[3]⟩,
⟨some 81,.indexAddr 7 (.t 76) (.t 79),none,8,[]⟩,
⟨some 82,.fieldAddr 1 (.t 81),none,9,[]⟩,
⟨none,.store 1 false (.t 82) (.t 80),none,10,[]⟩] [] []) (.seq (.region [
⟨some 8,.move (.c (.int .i64 0)),none,0,[]⟩] false [8] []) (.keep [8] [] .ret))))))))))))))))))))) }
theorem ok84:fnSoundB Go.Proofs.Tryz.prog 84 F84=true:=by decide +kernel
def F85:LFunc:={ nparams:=3,results:=[.tmp 6],pure:=false,body :=
 (.seq (.region [
⟨some 6,.move (.c (.int .i64 0)),none,0,[]⟩] false [0,1,2] []) (.seq (.region [
⟨some 9,.move (.t 0),none,0,[]⟩,
⟨some 10,.move (.t 1),none,1,[]⟩,
⟨some 11,.call 112 [(.t 9,.as),(.t 10,.as)],none,2,[]⟩,
⟨some 7,.move (.t 11),none,3,[]⟩] false [0,1,2,7] []) (.seq (.region [
⟨some 12,.move (.t 7),none,0,[]⟩,
⟨some 13,.eq .i true (.t 12) (.c (.int .i64 0)),none,1,[]⟩] false [0,1,2,7,13] []) (.seq (.cond (.t 13) (.seq (.region [
⟨some 14,.move (.t 7),none,0,[]⟩,
⟨some 6,.move (.t 14),none,1,[]⟩] false [6] []) (.keep [6] [] .ret)) (.keep [0,1,2] [] .skip)) (.keep [0,1,2] [] (.seq (.region [
⟨some 15,.move (.t 0),none,0,[]⟩,
⟨some 16,.move (.t 2),none,1,[]⟩,
⟨some 17,.call 80 [(.t 15,.as),(.t 16,.as)],none,2,[]⟩,
⟨some 18,.bin .lss (.t 17) (.c (.int .i64 0)),none,3,[]⟩] false [0,1,2,18] []) (.seq (.cond (.t 18) (.seq (.region [
⟨some 6,.move (.c (.int .i64 13)),none,0,[]⟩] false [6] []) (.keep [6] [] .ret)) (.keep [0,1,2] [] .skip)) (.keep [0,1,2] [] (.seq (.draw [
⟨some 19,.move (.t 0),none,0,[]⟩,
⟨some 20,.nilCheck (.t 19),none,1,[]⟩,
⟨some 21,.fieldAddr 0 (.t 20),none,2,[]⟩,
⟨some 22,.load 1 false (.t 21),none,3,[]⟩,
⟨some 23,.move (.t 0),none,4,[]⟩,
⟨some 24,.move (.t 1),none,5,[]⟩,
⟨some 25,.call 80 [(.t 23,.as),(.t 24,.as)],none,6,[3]⟩,
⟨some 26,.indexAddr 7 (.t 22) (.t 25),none,7,[]⟩,
⟨some 27,.fieldAddr 1 (.t 26),none,8,[]⟩,
⟨some 28,.load 1 false (.t 27),none,9,[]⟩,
⟨some 8,.move (.t 28),none,10,[]⟩] [0,1,2,8] []) (.seq (.region [
⟨some 29,.move (.t 8),none,0,[]⟩,
⟨some 30,.bin .lss (.t 29) (.c (.int .i64 0)),none,1,[]⟩] false [0,1,2,8,30] []) (.seq (.cond (.t 30) (.seq (.region [
⟨some 6,.move (.c (.int .i64 16)),none,0,[]⟩] false [6] []) (.keep [6] [] .ret)) (.keep [0,1,2,8] [] .skip)) (.keep [0,1,2,8] [] (.seq (.draw [
⟨some 31,.move (.t 2),none,0,[]⟩,
⟨some 32,.move (.t 1),none,1,[]⟩,
⟨some 33,.eq .i false (.t 31) (.t 32),none,2,[]⟩,
⟨some 34,.move (.t 33),none,3,[]⟩,
⟨some 35,.move (.t 2),some (34,false),4,[]⟩,
⟨some 36,.eq .i true (.t 35) (.c (.int .i64 0)),some (34,false),5,[]⟩,
⟨some 37,.move (.t 36),some (34,false),6,[]⟩,
⟨some 38,.move (.t 0),some (37,true),7,[]⟩,
⟨some 39,.nilCheck (.t 38),some (37,true),8,[]⟩,
⟨some 40,.fieldAddr 0 (.t 39),some (37,true),9,[]⟩,
⟨some 41,.load 1 false (.t 40),some (37,true),10,[]⟩,
⟨some 42,.move (.t 0),some (37,true),11,[]⟩,
⟨some 43,.move (.t 2),some (37,true),12,[]⟩,
⟨some 48,.move (.t 8),some (37,true),17,[]⟩,
⟨some 44,.call 80 [(.t 42,.as),(.t 43,.as)],some (37,true),13,[10]⟩,
⟨some 45,.indexAddr 7 (.t 41) (.t 44),some (37,true),14,[]⟩,
⟨some 46,.fieldAddr 1 (.t 45),some (37,true),15,[]⟩,
⟨some 47,.load 1 false (.t 46),some (37,true),16,[]⟩,
⟨some 49,.eq .i true (.t 47) (.t 48),some (37,true),18,[]⟩,
⟨some 50,.pick (.t 37) (.t 49) (.c (.bool false)),some (34,false),19,[]⟩,
⟨some 51,.pick (.t 34) (.c (.bool true)) (.t 50),none,20,[]⟩] [0,1,2,8,51] []) (.seq (.cond (.t 51) (.seq (.region [
⟨some 6,.move (.c (.int .i64 18)),none,0,[]⟩] false [6] []) (.keep [6] [] .ret)) (.keep [0,1,2,8] [] .skip)) (.keep [0,1,2,8] [] (.seq (.draw [
⟨some 52,.move (.t 0),none,0,[]⟩,
⟨some 53,.move (.t 8),none,1,[]⟩,
⟨some 54,.move (.t 0),none,2,[]⟩,
⟨some 55,.nilCheck (.t 54),none,3,[]⟩,
⟨some 56,.fieldAddr 0 (.t 55),none,4,[]⟩,
⟨some 57,.load 1 false (.t 56),none,5,[]⟩,
⟨some 58,.move (.t 0),none,6,[]⟩,
⟨some 59,.move (.t 8),none,7,[]⟩,
⟨some 64,.move (.t 1),none,12,[]⟩,
⟨some 66,.move (.t 1),none,14,[]⟩,
⟨some 67,.move (.t 2),none,15,[]⟩,
⟨some 60,.call 80 [(.t 58,.as),(.t 59,.as)],none,8,[5]⟩,
⟨some 61,.indexAddr 7 (.t 57) (.t 60),none,9,[]⟩,
⟨some 62,.fieldAddr 2 (.t 61),none,10,[]⟩,
⟨some 63,.load 1 false (.t 62),none,11,[]⟩,
⟨some 65,.pcall 116 [(.t 63,.freeze),(.t 64,.as)],none,13,[]⟩,
⟨some 68,.pcall 115 [(.t 65,.as),(.t 66,.as),(.t 67,.as)],none,16,[]⟩,
⟨some 69,.call 114 [(.t 52,.as),(.t 53,.as),(.t 68,.as)],none,17,[]⟩] [] []) (.seq (.region [
⟨some 6,.move (.c (.int .i64 0)),none,0,[]⟩] false [6] []) (.keep [6] [] .ret)))))))))))))))))) }
theorem ok85:fnSoundB Go.Proofs.Tryz.prog 85 F85=true:=by decide +kernel
def B86x0:LCode :=
 (.seq (.region [
⟨some 48,.bin .lss (.t 47) (.t 46),none,0,[]⟩] false [0,1,7,46,47,48] []) (.seq (.cond (.t 48) (.keep [0,1,7,46,47] [] .skip) (.keep [0,7] [] (.exit 0))) (.keep [0,1,7,46,47] [] (.seq (.block 1 (.seq (.region [
⟨some 49,.move (.t 47),none,0,[]⟩,
⟨some 8,.move (.t 49),none,1,[]⟩] false [0,1,7,8,46,47] []) (.seq (.region [
⟨some 50,.move (.t 0),none,0,[]⟩,
⟨some 51,.move (.t 0),none,1,[]⟩,
⟨some 52,.nilCheck (.t 51),none,2,[]⟩,
⟨some 53,.fieldAddr 0 (.t 52),none,3,[]⟩,
⟨some 54,.load 1 false (.t 53),none,4,[]⟩,
⟨some 55,.move (.t 8),none,5,[]⟩,
⟨some 56,.indexAddr 7 (.t 54) (.t 55),none,6,[]⟩,
⟨some 57,.fieldAddr 0 (.t 56),none,7,[]⟩,
⟨some 58,.load 1 false (.t 57),none,8,[]⟩,
⟨some 59,.move (.t 1),none,9,[]⟩,
⟨some 60,.call 113 [(.t 50,.as),(.t 58,.as),(.t 59,.as)],none,10,[]⟩,
⟨some 61,.un .not (.t 60),none,11,[]⟩] false [0,1,7,8,46,47,61] []) (.seq (.cond (.t 61) (.seq (.region [
⟨some 62,.move (.t 7),none,0,[]⟩,
⟨some 63,.move (.t 0),none,1,[]⟩,
⟨some 64,.nilCheck (.t 63),none,2,[]⟩,
⟨some 65,.fieldAddr 0 (.t 64),none,3,[]⟩,
⟨some 66,.load 1 false (.t 65),none,4,[]⟩,
⟨some 67,.move (.t 8),none,5,[]⟩,
⟨some 68,.indexAddr 7 (.t 66) (.t 67),none,6,[]⟩,
⟨some 69,.load 7 true (.t 68),none,7,[]⟩,
⟨some 70,.row 7 [.t 69],none,8,[]⟩,
⟨some 71,.append true 1001 7 112 (.t 62) (.t 70),none,9,[]⟩,
⟨some 7,.move (.t 71),none,10,[]⟩] false [0,1,7,46,47] []) (.keep [0,1,7,46,47] [] .skip)) (.keep [0,1,7,46,47] [] .skip)) (.keep [0,1,7,46,47] [] .skip))))) (.keep [0,1,7,46,47] [] (.seq (.region [
⟨some 72,.bin .add (.t 47) (.c (.int .i64 1)),none,0,[]⟩,
⟨some 47,.move (.t 72),none,1,[]⟩] false [0,1,7,46,47] []) (.keep [0,1,7,46,47] [] .skip)))))))
def F86:LFunc:={ nparams:=2,results:=[.tmp 4],pure:=false,body :=
 (.seq (.region [
⟨some 4,.move (.c (.int .i64 0)),none,0,[]⟩] false [0,1] []) (.seq (.region [
⟨some 9,.move (.t 0),none,0,[]⟩,
⟨some 10,.move (.t 1),none,1,[]⟩,
⟨some 11,.call 112 [(.t 9,.as),(.t 10,.as)],none,2,[]⟩,
⟨some 5,.move (.t 11),none,3,[]⟩] false [0,1,5] []) (.seq (.region [
⟨some 12,.move (.t 5),none,0,[]⟩,
⟨some 13,.eq .i true (.t 12) (.c (.int .i64 0)),none,1,[]⟩] false [0,1,5,13] []) (.seq (.cond (.t 13) (.seq (.region [
⟨some 14,.move (.t 5),none,0,[]⟩,
⟨some 4,.move (.t 14),none,1,[]⟩] false [4] []) (.keep [4] [] .ret)) (.keep [0,1] [] .skip)) (.keep [0,1] [] (.seq (.draw [
⟨some 15,.move (.t 0),none,0,[]⟩,
⟨some 16,.nilCheck (.t 15),none,1,[]⟩,
⟨some 17,.fieldAddr 0 (.t 16),none,2,[]⟩,
⟨some 18,.load 1 false (.t 17),none,3,[]⟩,
⟨some 19,.move (.t 0),none,4,[]⟩,
⟨some 20,.move (.t 1),none,5,[]⟩,
⟨some 21,.call 80 [(.t 19,.as),(.t 20,.as)],none,6,[3]⟩,
⟨some 22,.indexAddr 7 (.t 18) (.t 21),none,7,[]⟩,
⟨some 23,.fieldAddr 1 (.t 22),none,8,[]⟩,
⟨some 24,.load 1 false (.t 23),none,9,[]⟩,
⟨some 6,.move (.t 24),none,10,[]⟩] [0,1,6] []) (.seq (.region [
⟨some 25,.move (.t 6),none,0,[]⟩,
⟨some 26,.bin .geq (.t 25) (.c (.int .i64 0)),none,1,[]⟩] false [0,1,6,26] []) (.seq (.cond (.t 26) (.seq (.draw [
⟨some 27,.move (.t 0),none,0,[]⟩,
⟨some 28,.move (.t 6),none,1,[]⟩,
⟨some 29,.move (.t 0),none,2,[]⟩,
⟨some 30,.nilCheck (.t 29),none,3,[]⟩,
⟨some 31,.fieldAddr 0 (.t 30),none,4,[]⟩,
⟨some 32,.load 1 false (.t 31),none,5,[]⟩,
⟨some 33,.move (.t 0),none,6,[]⟩,
⟨some 34,.move (.t 6),none,7,[]⟩,
⟨some 39,.move (.t 1),none,12,[]⟩,
⟨some 35,.call 80 [(.t 33,.as),(.t 34,.as)],none,8,[5]⟩,
⟨some 36,.indexAddr 7 (.t 32) (.t 35),none,9,[]⟩,
⟨some 37,.fieldAddr 2 (.t 36),none,10,[]⟩,
⟨some 38,.load 1 false (.t 37),none,11,[]⟩,
⟨some 40,.pcall 116 [(.t 38,.freeze),(.t 39,.as)],none,13,[]⟩,
⟨some 41,.call 114 [(.t 27,.as),(.t 28,.as),(.t 40,.as)],none,14,[]⟩] [0,1] []) (.keep [0,1] [] .skip)) (.keep [0,1] [] .skip)) (.keep [0,1] [] (.seq (.region [
⟨some 7,.nilown true 1000 7,none,0,[]⟩] false [0,1,7] []) (.seq (.region [
⟨some 42,.move (.t 0),none,0,[]⟩,
⟨some 43,.nilCheck (.t 42),none,1,[]⟩,
⟨some 44,.fieldAddr 0 (.t 43),none,2,[]⟩,
⟨some 45,.load 1 false (.t 44),none,3,[]⟩,
⟨some 46,.len 1 (.t 45),none,4,[]⟩,
⟨some 47,.move (.c (.int .i64 0)),none,5,[]⟩] false [0,1,7,46,47] []) (.seq (.block 0 (.seq (.keep [0,1,7,46,47] [] (.loop B86x0)) (.keep [0,7] [] .skip))) (.keep [0,7] [] (.seq (.region [
⟨some 73,.move (.t 0),none,0,[]⟩,
⟨some 74,.move (.t 7),none,1,[]⟩,
⟨some 75,.nilCheck (.t 73),none,2,[]⟩,
⟨some 76,.fieldAddr 0 (.t 75),none,3,[]⟩,
⟨none,.store 1 false (.t 76) (.t 74),none,4,[]⟩] false [] []) (.seq (.region [
⟨some 4,.move (.c (.int .i64 0)),none,0,[]⟩] false [4] []) (.keep [4] [] .ret)))))))))))))))) }
theorem ok86:fnSoundB Go.Proofs.Tryz.prog 86 F86=true:=by decide +kernel
def F87:LFunc:={ nparams:=4,results:=[.tmp 8],pure:=false,body :=
 (.seq (.region [
⟨some 8,.move (.c (.int .i64 0)),none,0,[]⟩] false [0,1,2,3] []) (.seq (.region [
⟨some 11,.move (.t 0),none,0,[]⟩,
⟨some 12,.move (.t 1),none,1,[]⟩,
⟨some 13,.call 112 [(.t 11,.as),(.t 12,.as)],none,2,[]⟩,
⟨some 9,.move (.t 13),none,3,[]⟩] false [0,1,2,3,9] []) (.seq (.region [
⟨some 14,.move (.t 9),none,0,[]⟩,
⟨some 15,.eq .i true (.t 14) (.c (.int .i64 0)),none,1,[]⟩] false [0,1,2,3,9,15] []) (.seq (.cond (.t 15) (.seq (.region [
⟨some 16,.move (.t 9),none,0,[]⟩,
⟨some 8,.move (.t 16),none,1,[]⟩] false [8] []) (.keep [8] [] .ret)) (.keep [0,1,2,3] [] .skip)) (.keep [0,1,2,3] [] (.seq (.region [
⟨some 17,.move (.t 2),none,0,[]⟩,
⟨some 18,.pcall 63 [(.t 17,.as),(.c (.bool true),.as)],none,1,[]⟩,
⟨some 19,.un .not (.t 18),none,2,[]⟩] false [0,1,2,3,19] []) (.seq (.cond (.t 19) (.seq (.region [
⟨some 8,.move (.c (.int .i64 8)),none,0,[]⟩] false [8] []) (.keep [8] [] .ret)) (.keep [0,1,2,3] [] .skip)) (.keep [0,1,2,3] [] (.seq (.region [
⟨some 20,.move (.t 3),none,0,[]⟩,
⟨some 21,.len 0 (.t 20),none,1,[]⟩,
⟨some 22,.bin .gtr (.t 21) (.c (.int .i64 65536)),none,2,[]⟩] false [0,1,2,3,22] []) (.seq (.cond (.t 22) (.seq (.region [
⟨some 8,.move (.c (.int .i64 3)),none,0,[]⟩] false [8] []) (.keep [8] [] .ret)) (.keep [0,1,2,3] [] .skip)) (.keep [0,1,2,3] [] (.seq (.draw [
⟨some 23,.move (.t 0),none,0,[]⟩,
⟨some 24,.nilCheck (.t 23),none,1,[]⟩,
⟨some 25,.fieldAddr 0 (.t 24),none,2,[]⟩,
⟨some 26,.load 1 false (.t 25),none,3,[]⟩,
⟨some 27,.move (.t 0),none,4,[]⟩,
⟨some 28,.move (.t 1),none,5,[]⟩,
⟨some 33,.move (.t 2),none,10,[]⟩,
⟨some 34,.move (.t 3),none,11,[]⟩,
⟨some 29,.call 80 [(.t 27,.as),(.t 28,.as)],none,6,[3]⟩,
⟨some 30,.indexAddr 7 (.t 26) (.t 29),none,7,[]⟩,
⟨some 31,.fieldAddr 6 (.t 30),none,8,[]⟩,
⟨some 32,.load 1 false (.t 31),none,9,[]⟩,
⟨some 35,.pcall 117 [(.t 32,.as),(.t 33,.as),(.t 34,.as)],none,12,[]⟩,
⟨some 10,.move (.t 35),none,13,[]⟩] [0,1,10] []) (.seq (.region [
⟨some 36,.move (.t 10),none,0,[]⟩,
⟨some 37,.len 1 (.t 36),none,1,[]⟩,
⟨some 38,.bin .gtr (.t 37) (.c (.int .i64 64)),none,2,[]⟩] false [0,1,10,38] []) (.seq (.cond (.t 38) (.seq (.region [
⟨some 8,.move (.c (.int .i64 12)),none,0,[]⟩] false [8] []) (.keep [8] [] .ret)) (.keep [0,1,10] [] .skip)) (.keep [0,1,10] [] (.seq (.draw [
⟨some 39,.move (.t 0),none,0,[]⟩,
⟨some 40,.nilCheck (.t 39),none,1,[]⟩,
⟨some 41,.fieldAddr 0 (.t 40),none,2,[]⟩,
⟨some 42,.load 1 false (.t 41),none,3,[]⟩,
⟨some 43,.move (.t 0),none,4,[]⟩,
⟨some 44,.move (.t 1),none,5,[]⟩,
⟨some 46,.move (.t 10),none,7,[]⟩,
⟨some 45,.call 80 [(.t 43,.as),(.t 44,.as)],none,6,[3]⟩,
⟨some 47,.indexAddr 7 (.t 42) (.t 45),none,8,[]⟩,
⟨some 48,.fieldAddr 6 (.t 47),none,9,[]⟩,
⟨none,.store 1 false (.t 48) (.t 46),none,10,[]⟩] [] []) (.seq (.region [
⟨some 8,.move (.c (.int .i64 0)),none,0,[]⟩] false [8] []) (.keep [8] [] .ret)))))))))))))))))) }
theorem ok87:fnSoundB Go.Proofs.Tryz.prog 87 F87=true:=by decide +kernel
def F88:LFunc:={ nparams:=3,results:=[.tmp 6],pure:=false,body :=
 (.seq (.region [
⟨some 6,.move (.c (.int .i64 0)),none,0,[]⟩] false [0,1,2] []) (.seq (.region [
⟨some 10,.move (.t 0),none,0,[]⟩,
⟨some 11,.move (.t 1),none,1,[]⟩,
⟨some 12,.call 112 [(.t 10,.as),(.t 11,.as)],none,2,[]⟩,
⟨some 7,.move (.t 12),none,3,[]⟩] false [0,1,2,7] []) (.seq (.region [
⟨some 13,.move (.t 7),none,0,[]⟩,
⟨some 14,.eq .i true (.t 13) (.c (.int .i64 0)),none,1,[]⟩] false [0,1,2,7,14] []) (.seq (.cond (.t 14) (.seq (.region [
⟨some 15,.move (.t 7),none,0,[]⟩,
⟨some 6,.move (.t 15),none,1,[]⟩] false [6] []) (.keep [6] [] .ret)) (.keep [0,1,2] [] .skip)) (.keep [0,1,2] [] (.seq (.draw [
⟨some 17,.move (.t 0),none,0,[]⟩,
⟨some 18,.nilCheck (.t 17),none,1,[]⟩,
⟨some 19,.fieldAddr 0 (.t 18),none,2,[]⟩,
⟨some 20,.load 1 false (.t 19),none,3,[]⟩,
⟨some 21,.move (.t 0),none,4,[]⟩,
⟨some 22,.move (.t 1),none,5,[]⟩,
⟨some 27,.move (.t 2),none,10,[]⟩,
⟨some 23,.call 80 [(.t 21,.as),(.t 22,.as)],none,6,[3]⟩,
⟨some 24,.indexAddr 7 (.t 20) (.t 23),none,7,[]⟩,
⟨some 25,.fieldAddr 6 (.t 24),none,8,[]⟩,
⟨some 26,.load 1 false (.t 25),none,9,[]⟩,
⟨some 28,.pcall 118 [(.t 26,.as),(.t 27,.as)],none,11,[]⟩,
⟨some 16,.move (.t 28),none,12,[]⟩,
⟨some 29,.extract (.t 16) 0,none,13,[]⟩,
⟨some 30,.extract (.t 16) 1,none,14,[]⟩,
⟨some 8,.move (.t 29),none,15,[]⟩,
⟨some 9,.move (.t 30),none,16,[]⟩] [0,1,8,9] []) (.seq (.region [
⟨some 31,.move (.t 9),none,0,[]⟩,
⟨some 32,.un .not (.t 31),none,1,[]⟩] false [0,1,8,32] []) (.seq (.cond (.t 32) (.seq (.region [
⟨some 6,.move (.c (.int .i64 8)),none,0,[]⟩] false [6] []) (.keep [6] [] .ret)) (.keep [0,1,8] [] .skip)) (.keep [0,1,8] [] (.seq (.draw [
⟨some 33,.move (.t 0),none,0,[]⟩,
⟨some 34,.nilCheck (.t 33),none,1,[]⟩,
⟨some 35,.fieldAddr 0 (.t 34),none,2,[]⟩,
⟨some 36,.load 1 false (.t 35),none,3,[]⟩,
⟨some 37,.move (.t 0),none,4,[]⟩,
⟨some 38,.move (.t 1),none,5,[]⟩,
⟨some 40,.move (.t 8),none,7,[]⟩,
⟨some 39,.call 80 [(.t 37,.as),(.t 38,.as)],none,6,[3]⟩,
⟨some 41,.indexAddr 7 (.t 36) (.t 39),none,8,[]⟩,
⟨some 42,.fieldAddr 6 (.t 41),none,9,[]⟩,
⟨none,.store 1 false (.t 42) (.t 40),none,10,[]⟩] [] []) (.seq (.region [
⟨some 6,.move (.c (.int .i64 0)),none,0,[]⟩] false [6] []) (.keep [6] [] .ret)))))))))))) }
theorem ok88:fnSoundB Go.Proofs.Tryz.prog 88 F88=true:=by decide +kernel
def F89:LFunc:={ nparams:=3,results:=[.tmp 6],pure:=false,body :=
 (.seq (.region [
⟨some 6,.move (.c (.int .i64 0)),none,0,[]⟩] false [0,1,2] []) (.seq (.region [
⟨some 8,.move (.t 0),none,0,[]⟩,
⟨some 9,.move (.t 1),none,1,[]⟩,
⟨some 10,.call 112 [(.t 8,.as),(.t 9,.as)],none,2,[]⟩,
⟨some 7,.move (.t 10),none,3,[]⟩] false [0,1,2,7] []) (.seq (.region [
⟨some 11,.move (.t 7),none,0,[]⟩,
⟨some 12,.eq .i true (.t 11) (.c (.int .i64 0)),none,1,[]⟩] false [0,1,2,7,12] []) (.seq (.cond (.t 12) (.seq (.region [
⟨some 13,.move (.t 7),none,0,[]⟩,
⟨some 6,.move (.t 13),none,1,[]⟩] false [6] []) (.keep [6] [] .ret)) (.keep [0,1,2] [] .skip)) (.keep [0,1,2] [] (.seq (.region [
⟨some 14,.move (.t 2),none,0,[]⟩,
⟨some 15,.len 0 (.t 14),none,1,[]⟩,
⟨some 16,.bin .gtr (.t 15) (.c (.int .i64 65536)),none,2,[]⟩] false [0,1,2,16] []) (.seq (.cond (.t 16) (.seq (.region [
⟨some 6,.move (.c (.int .i64 3)),none,0,[]⟩] false [6] []) (.keep [6] [] .ret)) (.keep [0,1,2] [] .skip)) (.keep [0,1,2] [] (.seq (.draw [
⟨some 17,.move (.t 0),none,0,[]⟩,
⟨some 18,.nilCheck (.t 17),none,1,[]⟩,
⟨some 19,.fieldAddr 0 (.t 18),none,2,[]⟩,
⟨some 20,.load 1 false (.t 19),none,3,[]⟩,
⟨some 21,.move (.t 0),none,4,[]⟩,
⟨some 22,.move (.t 1),none,5,[]⟩,
⟨some 24,.move (.t 2),none,7,[]⟩,
⟨some 23,.call 80 [(.t 21,.as),(.t 22,.as)],none,6,[3]⟩,
⟨some 25,.indexAddr 7 (.t 20) (.t 23),none,8,[]⟩,
⟨some 26,.fieldAddr 5 (.t 25),none,9,[]⟩,
⟨none,.store 1 false (.t 26) (.t 24),none,10,[]⟩] [] []) (.seq (.region [
⟨some 6,.move (.c (.int .i64 0)),none,0,[]⟩] false [6] []) (.keep [6] [] .ret))))))))))) }
theorem ok89:fnSoundB Go.Proofs.Tryz.prog 89 F89=true:=by decide +kernel
def B94x1:LCode :=
 (.seq (.region [
⟨some 14,.move (.t 5),none,0,[]⟩,
⟨some 15,.eq .i true (.t 14) (.c (.int .i64 0)),none,1,[]⟩,
⟨some 16,.move (.t 15),none,2,[]⟩,
⟨some 17,.move (.t 5),some (16,true),3,[]⟩,
⟨some 18,.fieldAddr 1 (.t 4),some (16,true),4,[]⟩,
⟨some 19,.load 1 false (.t 18),some (16,true),5,[]⟩,
⟨some 20,.eq .i true (.t 17) (.t 19),some (16,true),6,[]⟩,
⟨some 21,.pick (.t 16) (.t 20) (.c (.bool false)),none,7,[]⟩] false [0,3,4,5,6,7,8,21] [4]) (.seq (.cond (.t 21) (.keep [0,3,4,5,6,7,8] [4] .skip) (.keep [0,3,4,5,6,7,8] [4] (.exit 2))) (.keep [0,3,4,5,6,7,8] [4] (.seq (.block 3 (.seq (.region [
⟨some 22,.move (.t 0),none,0,[]⟩,
⟨some 23,.move (.t 5),none,1,[]⟩,
⟨some 24,.bin .sub (.t 23) (.c (.int .i64 1)),none,2,[]⟩,
⟨some 25,.indexAddr 6 (.t 22) (.t 24),none,3,[]⟩,
⟨some 26,.fieldAddr 1 (.t 25),none,4,[]⟩,
⟨some 27,.load 1 false (.t 26),none,5,[]⟩,
⟨some 5,.move (.t 27),none,6,[]⟩] false [0,3,4,5,6,7,8] [4]) (.keep [0,3,4,5,6,7,8] [4] .skip))) (.keep [0,3,4,5,6,7,8] [4] .skip)))))
def B94x0:LCode :=
 (.seq (.region [
⟨some 9,.bin .lss (.t 8) (.t 7),none,0,[]⟩] false [0,6,7,8,9] []) (.seq (.cond (.t 9) (.keep [0,6,7,8] [] .skip) (.keep [] [] (.exit 0))) (.keep [0,6,7,8] [] (.seq (.block 1 (.seq (.region [
⟨some 10,.move (.t 8),none,0,[]⟩,
⟨some 11,.indexAddr 6 (.t 6) (.t 8),none,1,[]⟩,
⟨some 12,.load 6 true (.t 11),none,2,[]⟩,
⟨some 4,.alloc false 4 [.p (.int .i64 0),.p (.int .i64 0),.p (.str []),.p (.str []),.p (.str []),.p (.list [])] [],none,3,[]⟩,
⟨some 3,.move (.t 10),none,4,[]⟩,
⟨none,.store 6 true (.t 4) (.t 12),none,5,[]⟩] false [0,3,4,6,7,8] [4]) (.seq (.region [
⟨some 13,.move (.t 3),none,0,[]⟩,
⟨some 5,.move (.t 13),none,1,[]⟩] false [0,3,4,5,6,7,8] [4]) (.seq (.block 2 (.seq (.keep [0,3,4,5,6,7,8] [4] (.loop B94x1)) (.keep [0,3,4,5,6,7,8] [4] .skip))) (.keep [0,3,4,5,6,7,8] [4] (.seq (.region [
⟨some 28,.move (.t 5),none,0,[]⟩,
⟨some 29,.fieldAddr 1 (.t 4),none,1,[]⟩,
⟨some 30,.load 1 false (.t 29),none,2,[]⟩,
⟨some 31,.eq .i true (.t 28) (.t 30),none,3,[]⟩,
⟨some 32,.move (.t 31),none,4,[]⟩,
⟨some 33,.move (.t 5),some (32,false),5,[]⟩,
⟨some 34,.eq .i false (.t 33) (.c (.int .i64 0)),some (32,false),6,[]⟩,
⟨some 35,.move (.t 3),some (32,false),7,[]⟩,
⟨some 36,.eq .i false (.t 35) (.c (.int .i64 0)),some (32,false),8,[]⟩,
⟨some 37,.eq .b true (.t 34) (.t 36),some (32,false),9,[]⟩,
⟨some 38,.pick (.t 32) (.c (.bool true)) (.t 37),none,10,[]⟩] false [0,6,7,8,38] []) (.seq (.cond (.t 38) (.seq (.region [
⟨some 2,.move (.c (.bool false)),none,0,[]⟩] false [2] []) (.keep [2] [] .ret)) (.keep [0,6,7,8] [] .skip)) (.keep [0,6,7,8] [] .skip)))))))) (.keep [0,6,7,8] [] (.seq (.region [
⟨some 39,.bin .add (.t 8) (.c (.int .i64 1)),none,0,[]⟩,
⟨some 8,.move (.t 39),none,1,[]⟩] false [0,6,7,8] []) (.keep [0,6,7,8] [] .skip)))))))
def F94:LFunc:={ nparams:=1,results:=[.tmp 2],pure:=true,body :=
 (.seq (.region [
⟨some 2,.move (.c (.bool false)),none,0,[]⟩] false [0] []) (.seq (.region [
⟨some 6,.move (.t 0),none,0,[]⟩,
⟨some 7,.len 1 (.t 6),none,1,[]⟩,
⟨some 8,.move (.c (.int .i64 0)),none,2,[]⟩] false [0,6,7,8] []) (.seq (.block 0 (.seq (.keep [0,6,7,8] [] (.loop B94x0)) (.keep [] [] .skip))) (.keep [] [] (.seq (.region [
⟨some 2,.move (.c (.bool true)),none,0,[]⟩] false [2] []) (.keep [2] [] .ret)))))) }
theorem ok94:fnSoundB Go.Proofs.Tryz.prog 94 F94=true:=by decide +kernel
def B95x0:LCode :=
 (.seq (.region [
⟨some 13,.bin .lss (.t 12) (.t 11),none,0,[]⟩] false [0,3,10,11,12,13] [9]) (.seq (.cond (.t 13) (.keep [0,3,10,11,12] [9] .skip) (.keep [0] [] (.exit 0))) (.keep [0,3,10,11,12] [9] (.seq (.block 1 (.seq (.region [
⟨some 14,.move (.t 12),none,0,[]⟩,
⟨some 15,.indexAddr 6 (.t 10) (.t 12),none,1,[]⟩,
⟨some 16,.load 6 true (.t 15),none,2,[]⟩,
⟨some 5,.alloc false 5 [.p (.int .i64 0),.p (.int .i64 0),.p (.str []),.p (.str []),.p (.str []),.p (.list [])] [],none,3,[]⟩,
⟨some 4,.move (.t 14),none,4,[]⟩,
⟨none,.store 6 true (.t 5) (.t 16),none,5,[]⟩] false [0,3,4,5,10,11,12] [5,9]) (.seq (.region [
⟨some 17,.move (.t 3),none,0,[]⟩,
⟨some 18,.move (.t 4),none,1,[]⟩,
⟨some 19,.bin .add (.t 18) (.c (.int .i64 1)),none,2,[]⟩,
⟨some 20,.move (.t 3),none,3,[]⟩,
⟨some 21,.fieldAddr 1 (.t 5),none,4,[]⟩,
⟨some 22,.load 1 false (.t 21),none,5,[]⟩,
⟨some 23,.indexAddr 1 (.t 20) (.t 22),none,6,[]⟩,
⟨some 24,.load 1 false (.t 23),none,7,[]⟩,
⟨some 25,.bin .add (.t 24) (.c (.int .i64 1)),none,8,[]⟩,
⟨some 26,.indexAddr 1 (.t 17) (.t 19),none,9,[]⟩,
⟨none,.store 1 false (.t 26) (.t 25),none,10,[]⟩] false [0,3,4,10,11,12] [9]) (.seq (.region [
⟨some 27,.move (.t 3),none,0,[]⟩,
⟨some 28,.move (.t 4),none,1,[]⟩,
⟨some 29,.bin .add (.t 28) (.c (.int .i64 1)),none,2,[]⟩,
⟨some 30,.indexAddr 1 (.t 27) (.t 29),none,3,[]⟩,
⟨some 31,.load 1 false (.t 30),none,4,[]⟩,
⟨some 32,.bin .gtr (.t 31) (.c (.int .i64 64)),none,5,[]⟩] false [0,3,10,11,12,32] [9]) (.seq (.cond (.t 32) (.seq (.region [
⟨some 2,.move (.c (.bool true)),none,0,[]⟩] false [2] []) (.keep [2] [] .ret)) (.keep [0,3,10,11,12] [9] .skip)) (.keep [0,3,10,11,12] [9] .skip)))))) (.keep [0,3,10,11,12] [9] (.seq (.region [
⟨some 33,.bin .add (.t 12) (.c (.int .i64 1)),none,0,[]⟩,
⟨some 12,.move (.t 33),none,1,[]⟩] false [0,3,10,11,12] [9]) (.keep [0,3,10,11,12] [9] .skip)))))))
def F95:LFunc:={ nparams:=1,results:=[.tmp 2],pure:=true,body :=
 (.seq (.region [
⟨some 2,.move (.c (.bool false)),none,0,[]⟩] false [0] []) (.seq (.region [
⟨some 6,.move (.t 0),none,0,[]⟩,
⟨some 7,.len 1 (.t 6),none,1,[]⟩,
⟨some 8,.bin .add (.t 7) (.c (.int .i64 1)),none,2,[]⟩,
⟨some 9,.makeRow false 9 1 8 [.int .i64 0] (.t 8) (.t 8),none,3,[]⟩,
⟨some 3,.move (.t 9),none,4,[]⟩] false [0,3] [9]) (.seq (.region [
⟨some 10,.move (.t 0),none,0,[]⟩,
⟨some 11,.len 1 (.t 10),none,1,[]⟩,
⟨some 12,.move (.c (.int .i64 0)),none,2,[]⟩] false [0,3,10,11,12] [9]) (.seq (.block 0 (.seq (.keep [0,3,10,11,12] [9] (.loop B95x0)) (.keep [0] [] .skip))) (.keep [0] [] (.seq (.region [
⟨some 34,.move (.t 0),none,0,[]⟩,
⟨some 35,.len 1 (.t 34),none,1,[]⟩,
⟨some 36,.bin .gtr (.t 35) (.c (.int .i64 4096)),none,2,[]⟩,
⟨some 2,.move (.t 36),none,3,[]⟩] false [2] []) (.keep [2] [] .ret))))))) }
theorem ok95:fnSoundB Go.Proofs.Tryz.prog 95 F95=true:=by decide +kernel
def B96x0:LCode :=
 (.seq (.region [
⟨some 13,.bin .lss (.t 12) (.t 11),none,0,[]⟩] false [0,3,10,11,12,13] [9]) (.seq (.cond (.t 13) (.keep [0,3,10,11,12] [9] .skip) (.keep [0] [] (.exit 0))) (.keep [0,3,10,11,12] [9] (.seq (.block 1 (.seq (.region [
⟨some 14,.move (.t 12),none,0,[]⟩,
⟨some 15,.indexAddr 6 (.t 10) (.t 12),none,1,[]⟩,
⟨some 16,.load 6 true (.t 15),none,2,[]⟩,
⟨some 5,.alloc false 5 [.p (.int .i64 0),.p (.int .i64 0),.p (.str []),.p (.str []),.p (.str []),.p (.list [])] [],none,3,[]⟩,
⟨some 4,.move (.t 14),none,4,[]⟩,
⟨none,.store 6 true (.t 5) (.t 16),none,5,[]⟩] false [0,3,4,5,10,11,12] [5,9]) (.seq (.region [
⟨some 17,.move (.t 3),none,0,[]⟩,
⟨some 18,.move (.t 4),none,1,[]⟩,
⟨some 19,.bin .add (.t 18) (.c (.int .i64 1)),none,2,[]⟩,
⟨some 20,.move (.t 3),none,3,[]⟩,
⟨some 21,.fieldAddr 1 (.t 5),none,4,[]⟩,
⟨some 22,.load 1 false (.t 21),none,5,[]⟩,
⟨some 23,.indexAddr 1 (.t 20) (.t 22),none,6,[]⟩,
⟨some 24,.load 1 false (.t 23),none,7,[]⟩,
⟨some 25,.bin .add (.t 24) (.c (.int .i64 1)),none,8,[]⟩,
⟨some 26,.indexAddr 1 (.t 17) (.t 19),none,9,[]⟩,
⟨none,.store 1 false (.t 26) (.t 25),none,10,[]⟩] false [0,3,4,10,11,12] [9]) (.seq (.region [
⟨some 27,.move (.t 3),none,0,[]⟩,
⟨some 28,.move (.t 4),none,1,[]⟩,
⟨some 29,.bin .add (.t 28) (.c (.int .i64 1)),none,2,[]⟩,
⟨some 30,.indexAddr 1 (.t 27) (.t 29),none,3,[]⟩,
⟨some 31,.load 1 false (.t 30),none,4,[]⟩,
⟨some 32,.bin .gtr (.t 31) (.c (.int .i64 64)),none,5,[]⟩,
⟨some 33,.move (.t 32),none,6,[]⟩,
⟨some 34,.move (.t 4),some (33,false),7,[]⟩,
⟨some 35,.eq .i false (.t 34) (.c (.int .i64 4096)),some (33,false),8,[]⟩,
⟨some 36,.pick (.t 33) (.c (.bool true)) (.t 35),none,9,[]⟩] false [0,3,4,10,11,12,36] [9]) (.seq (.cond (.t 36) (.seq (.region [
⟨some 37,.move (.t 0),none,0,[]⟩,
⟨some 38,.move (.t 4),none,1,[]⟩,
⟨some 39,.bin .add (.t 38) (.c (.int .i64 1)),none,2,[]⟩,
⟨some 40,.slice false 6 (.t 37) none (some (.t 39)),none,3,[]⟩,
⟨some 2,.move (.t 40),none,4,[]⟩] false [2] []) (.keep [2] [] .ret)) (.keep [0,3,10,11,12] [9] .skip)) (.keep [0,3,10,11,12] [9] .skip)))))) (.keep [0,3,10,11,12] [9] (.seq (.region [
⟨some 41,.bin .add (.t 12) (.c (.int .i64 1)),none,0,[]⟩,
⟨some 12,.move (.t 41),none,1,[]⟩] false [0,3,10,11,12] [9]) (.keep [0,3,10,11,12] [9] .skip)))))))
def F96:LFunc:={ nparams:=1,results:=[.tmp 2],pure:=true,body :=
 (.seq (.region [
⟨some 2,.move (.c (.list [])),none,0,[]⟩] false [0] []) (.seq (.region [
⟨some 6,.move (.t 0),none,0,[]⟩,
⟨some 7,.len 1 (.t 6),none,1,[]⟩,
⟨some 8,.bin .add (.t 7) (.c (.int .i64 1)),none,2,[]⟩,
⟨some 9,.makeRow false 9 1 8 [.int .i64 0] (.t 8) (.t 8),none,3,[]⟩,
⟨some 3,.move (.t 9),none,4,[]⟩] false [0,3] [9]) (.seq (.region [
⟨some 10,.move (.t 0),none,0,[]⟩,
⟨some 11,.len 1 (.t 10),none,1,[]⟩,
⟨some 12,.move (.c (.int .i64 0)),none,2,[]⟩] false [0,3,10,11,12] [9]) (.seq (.block 0 (.seq (.keep [0,3,10,11,12] [9] (.loop B96x0)) (.keep [0] [] .skip))) (.keep [0] [] (.seq (.region [
⟨some 42,.move (.t 0),none,0,[]⟩,
⟨some 2,.move (.t 42),none,1,[]⟩] false [2] []) (.keep [2] [] .ret))))))) }
theorem ok96:fnSoundB Go.Proofs.Tryz.prog 96 F96=true:=by decide +kernel
def B97x0:LCode :=
 (.seq (.region [
⟨some 26,.move (.t 8),none,0,[]⟩,
⟨some 27,.move (.t 0),none,1,[]⟩,
⟨some 28,.len 1 (.t 27),none,2,[]⟩,
⟨some 29,.bin .lss (.t 26) (.t 28),none,3,[]⟩,
⟨some 30,.move (.t 29),none,4,[]⟩,
⟨some 31,.move (.t 0),some (30,true),5,[]⟩,
⟨some 32,.move (.t 8),some (30,true),6,[]⟩,
⟨some 33,.indexAddr 6 (.t 31) (.t 32),some (30,true),7,[]⟩,
⟨some 34,.fieldAddr 1 (.t 33),some (30,true),8,[]⟩,
⟨some 35,.load 1 false (.t 34),some (30,true),9,[]⟩,
⟨some 36,.move (.t 1),some (30,true),10,[]⟩,
⟨some 37,.bin .add (.t 36) (.c (.int .i64 1)),some (30,true),11,[]⟩,
⟨some 38,.eq .i false (.t 35) (.t 37),some (30,true),12,[]⟩,
⟨some 39,.pick (.t 30) (.t 38) (.c (.bool false)),none,13,[]⟩] false [0,1,4,7,8,39] [4,7,1000,1001]) (.seq (.cond (.t 39) (.keep [0,1,4,7,8] [4,7,1000,1001] .skip) (.keep [4,7,8] [4,7,1000,1001] (.exit 0))) (.keep [0,1,4,7,8] [4,7,1000,1001] (.seq (.block 1 (.seq (.region [
⟨some 9,.alloc false 9 [.p (.str []),.p (.str []),.p (.str []),.p (.list []),.p (.list [])] [],none,0,[]⟩] false [0,1,4,7,8,9] [4,7,9,1000,1001]) (.seq (.region [
⟨some 41,.move (.t 0),none,0,[]⟩,
⟨some 42,.move (.t 8),none,1,[]⟩,
⟨some 43,.pcall 97 [(.t 41,.as),(.t 42,.as)],none,2,[]⟩,
⟨some 40,.move (.t 43),none,3,[]⟩,
⟨some 44,.extract (.t 40) 0,none,4,[]⟩,
⟨some 45,.extract (.t 40) 1,none,5,[]⟩,
⟨none,.store 5 true (.t 9) (.t 44),none,6,[]⟩,
⟨some 8,.move (.t 45),none,7,[]⟩] false [0,1,4,7,8,9] [4,7,9,1000,1001]) (.seq (.region [
⟨some 46,.fieldAddr 4 (.t 7),none,0,[]⟩,
⟨some 47,.load 1 false (.t 46),none,1,[]⟩,
⟨some 48,.load 5 true (.t 9),none,2,[]⟩,
⟨some 49,.row 5 [.t 48],none,3,[]⟩,
⟨some 50,.append true 1002 5 96 (.t 47) (.t 49),none,4,[]⟩,
⟨some 51,.fieldAddr 4 (.t 7),none,5,[]⟩,
⟨none,.store 1 false (.t 51) (.t 50),none,6,[]⟩] false [0,1,4,7,8] [4,7,1000,1001]) (.keep [0,1,4,7,8] [4,7,1000,1001] .skip))))) (.keep [0,1,4,7,8] [4,7,1000,1001] .skip)))))
def F97:LFunc:={ nparams:=2,results:=[.cell 4 5 true,.tmp 5],pure:=true,body :=
 (.seq (.region [
⟨some 4,.alloc false 4 [.p (.str []),.p (.str []),.p (.str []),.p (.list []),.p (.list [])] [],none,0,[]⟩,
⟨some 5,.move (.c (.int .i64 0)),none,1,[]⟩] false [0,1,4] [4,1000,1001]) (.seq (.region [
⟨some 10,.move (.t 0),none,0,[]⟩,
⟨some 11,.move (.t 1),none,1,[]⟩,
⟨some 12,.indexAddr 6 (.t 10) (.t 11),none,2,[]⟩,
⟨some 13,.load 6 true (.t 12),none,3,[]⟩,
⟨some 6,.alloc false 6 [.p (.int .i64 0),.p (.int .i64 0),.p (.str []),.p (.str []),.p (.str []),.p (.list [])] [],none,4,[]⟩,
⟨none,.store 6 true (.t 6) (.t 13),none,5,[]⟩] false [0,1,4,6] [4,6,1000,1001]) (.seq (.draw [
⟨some 14,.fieldAddr 2 (.t 6),none,0,[]⟩,
⟨some 15,.load 1 false (.t 14),none,1,[]⟩,
⟨some 16,.fieldAddr 3 (.t 6),none,2,[]⟩,
⟨some 17,.load 1 false (.t 16),none,3,[]⟩,
⟨some 18,.fieldAddr 4 (.t 6),none,4,[]⟩,
⟨some 19,.load 1 false (.t 18),none,5,[]⟩,
⟨some 20,.fieldAddr 5 (.t 6),none,6,[]⟩,
⟨some 21,.load 1 false (.t 20),none,7,[]⟩,
⟨some 22,.pcall 37 [(.t 21,.as)],none,8,[]⟩,
⟨some 23,.build [.p (.str []),.p (.str []),.p (.str []),.p (.list []),.nils] [(0,1,.t 15),(1,1,.t 17),(2,1,.t 19),(3,1,.t 22)],none,9,[]⟩,
⟨some 7,.alloc false 7 [.p (.str []),.p (.str []),.p (.str []),.p (.list []),.p (.list [])] [(4,1000,5)],none,10,[1,3,5,7,8]⟩,
⟨none,.store 5 true (.t 7) (.t 23),none,11,[]⟩] [0,1,4,7] [4,7,1000,1001]) (.seq (.region [
⟨some 24,.move (.t 1),none,0,[]⟩,
⟨some 25,.bin .add (.t 24) (.c (.int .i64 1)),none,1,[]⟩,
⟨some 8,.move (.t 25),none,2,[]⟩] false [0,1,4,7,8] [4,7,1000,1001]) (.seq (.block 0 (.seq (.keep [0,1,4,7,8] [4,7,1000,1001] (.loop B97x0)) (.keep [4,7,8] [4,7,1000,1001] .skip))) (.keep [4,7,8] [4,7,1000,1001] (.seq (.region [
⟨some 52,.load 5 true (.t 7),none,0,[]⟩,
⟨some 53,.move (.t 8),none,1,[]⟩,
⟨none,.store 5 true (.t 4) (.t 52),none,2,[]⟩,
⟨some 5,.move (.t 53),none,3,[]⟩] false [4,5] [4,1000,1001]) (.keep [4,5] [4,1000,1001] .ret)))))))) }
theorem ok97:fnSoundB Go.Proofs.Tryz.prog 97 F97=true:=by decide +kernel
def F98:LFunc:={ nparams:=1,results:=[.tmp 2,.tmp 3],pure:=true,body :=
 (.seq (.region [
⟨some 1,.box false 1 (.t 0),none,0,[]⟩,
⟨some 2,.move (.c (.int .i64 0)),none,1,[]⟩,
⟨some 3,.move (.c (.int .i64 0)),none,2,[]⟩] false [1] [1]) (.seq (.region [
⟨some 5,.load 5 true (.t 1),none,0,[]⟩,
⟨some 6,.pcall 119 [(.t 5,.as)],none,1,[]⟩,
⟨some 4,.alloc false 4 [.p (.int .i64 0),.p (.int .i64 0),.p (.int .i64 0)] [],none,2,[]⟩,
⟨none,.store 3 true (.t 4) (.t 6),none,3,[]⟩] false [4] [4]) (.seq (.region [
⟨some 7,.fieldAddr 2 (.t 4),none,0,[]⟩,
⟨some 8,.load 1 false (.t 7),none,1,[]⟩,
⟨some 9,.eq .i false (.t 8) (.c (.int .i64 0)),none,2,[]⟩] false [4,9] [4]) (.seq (.cond (.t 9) (.seq (.region [
⟨some 2,.move (.c (.int .i64 0)),none,0,[]⟩,
⟨some 3,.move (.c (.int .i64 0)),none,1,[]⟩] false [2,3] []) (.keep [2,3] [] .ret)) (.keep [4] [4] .skip)) (.keep [4] [4] (.seq (.region [
⟨some 10,.fieldAddr 0 (.t 4),none,0,[]⟩,
⟨some 11,.load 1 false (.t 10),none,1,[]⟩,
⟨some 12,.fieldAddr 2 (.t 4),none,2,[]⟩,
⟨some 13,.load 1 false (.t 12),none,3,[]⟩,
⟨some 2,.move (.t 11),none,4,[]⟩,
⟨some 3,.move (.t 13),none,5,[]⟩] true [2,3] []) (.keep [2,3] [] .ret))))))) }
theorem ok98:fnSoundB Go.Proofs.Tryz.prog 98 F98=true:=by decide +kernel
def F99:LFunc:={ nparams:=2,results:=[.tmp 4],pure:=true,body :=
 (.seq (.region [
⟨some 4,.move (.c (.bool false)),none,0,[]⟩] false [0,1] []) (.seq (.region [
⟨some 5,.move (.t 0),none,0,[]⟩,
⟨some 6,.bin .geq (.t 5) (.c (.int .u8 97)),none,1,[]⟩,
⟨some 7,.move (.t 6),none,2,[]⟩,
⟨some 8,.move (.t 0),some (7,true),3,[]⟩,
⟨some 9,.bin .leq (.t 8) (.c (.int .u8 122)),some (7,true),4,[]⟩,
⟨some 10,.pick (.t 7) (.t 9) (.c (.bool false)),none,5,[]⟩,
⟨some 11,.move (.t 10),none,6,[]⟩,
⟨some 12,.move (.t 0),some (11,false),7,[]⟩,
⟨some 13,.bin .geq (.t 12) (.c (.int .u8 48)),some (11,false),8,[]⟩,
⟨some 14,.move (.t 13),some (11,false),9,[]⟩,
⟨some 15,.move (.t 0),some (14,true),10,[]⟩,
⟨some 16,.bin .leq (.t 15) (.c (.int .u8 57)),some (14,true),11,[]⟩,
⟨some 17,.pick (.t 14) (.t 16) (.c (.bool false)),some (11,false),12,[]⟩,
⟨some 18,.pick (.t 11) (.c (.bool true)) (.t 17),none,13,[]⟩,
⟨some 19,.move (.t 18),none,14,[]⟩,
⟨some 20,.move (.t 0),some (19,false),15,[]⟩,
⟨some 21,.eq .i false (.t 20) (.c (.int .u8 45)),some (19,false),16,[]⟩,
⟨some 22,.pick (.t 19) (.c (.bool true)) (.t 21),none,17,[]⟩,
⟨some 23,.move (.t 22),none,18,[]⟩,
⟨some 24,.move (.t 1),some (23,false),19,[]⟩,
⟨some 25,.move (.t 24),some (23,false),20,[]⟩,
⟨some 26,.move (.t 0),some (25,true),21,[]⟩,
⟨some 27,.eq .i false (.t 26) (.c (.int .u8 58)),some (25,true),22,[]⟩,
⟨some 28,.move (.t 27),some (25,true),23,[]⟩,
⟨some 29,.move (.t 0),some (28,false),24,[]⟩,
⟨some 30,.eq .i false (.t 29) (.c (.int .u8 46)),some (28,false),25,[]⟩,
⟨some 31,.pick (.t 28) (.c (.bool true)) (.t 30),some (25,true),26,[]⟩,
⟨some 32,.pick (.t 25) (.t 31) (.c (.bool false)),some (23,false),27,[]⟩,
⟨some 33,.pick (.t 23) (.c (.bool true)) (.t 32),none,28,[]⟩,
⟨some 4,.move (.t 33),none,29,[]⟩] false [4] []) (.keep [4] [] .ret))) }
theorem ok99:fnSoundB Go.Proofs.Tryz.prog 99 F99=true:=by decide +kernel
def B100x0:LCode :=
 (.seq (.region [
⟨some 6,.move (.t 5),none,0,[]⟩,
⟨some 7,.move (.t 0),none,1,[]⟩,
⟨some 8,.len 0 (.t 7),none,2,[]⟩,
⟨some 9,.bin .lss (.t 6) (.t 8),none,3,[]⟩,
⟨some 10,.move (.t 9),none,4,[]⟩,
⟨some 11,.move (.t 5),some (10,true),5,[]⟩,
⟨some 12,.move (.t 1),some (10,true),6,[]⟩,
⟨some 13,.len 0 (.t 12),some (10,true),7,[]⟩,
⟨some 14,.bin .lss (.t 11) (.t 13),some (10,true),8,[]⟩,
⟨some 15,.pick (.t 10) (.t 14) (.c (.bool false)),none,9,[]⟩] false [0,1,5,15] []) (.seq (.cond (.t 15) (.keep [0,1,5] [] .skip) (.keep [0,1] [] (.exit 0))) (.keep [0,1,5] [] (.seq (.block 1 (.seq (.region [
⟨some 18,.move (.t 0),none,0,[]⟩,
⟨some 19,.move (.t 5),none,1,[]⟩,
⟨some 20,.index (.t 18) (.t 19),none,2,[]⟩,
⟨some 21,.move (.t 1),none,3,[]⟩,
⟨some 22,.move (.t 5),none,4,[]⟩,
⟨some 23,.index (.t 21) (.t 22),none,5,[]⟩,
⟨some 24,.bin .lss (.t 20) (.t 23),none,6,[]⟩] true [0,1,5,24] []) (.seq (.cond (.t 24) (.seq (.region [
⟨some 4,.move (.c (.int .i64 (-1))),none,0,[]⟩] false [4] []) (.keep [4] [] .ret)) (.keep [0,1,5] [] .skip)) (.keep [0,1,5] [] (.seq (.region [
⟨some 25,.move (.t 0),none,0,[]⟩,
⟨some 26,.move (.t 5),none,1,[]⟩,
⟨some 27,.index (.t 25) (.t 26),none,2,[]⟩,
⟨some 28,.move (.t 1),none,3,[]⟩,
⟨some 29,.move (.t 5),none,4,[]⟩,
⟨some 30,.index (.t 28) (.t 29),none,5,[]⟩,
⟨some 31,.bin .gtr (.t 27) (.t 30),none,6,[]⟩] true [0,1,5,31] []) (.seq (.cond (.t 31) (.seq (.region [
⟨some 4,.move (.c (.int .i64 1)),none,0,[]⟩] false [4] []) (.keep [4] [] .ret)) (.keep [0,1,5] [] .skip)) (.keep [0,1,5] [] .skip))))))) (.keep [0,1,5] [] (.seq (.region [
⟨some 16,.move (.t 5),none,0,[]⟩,
⟨some 17,.bin .add (.t 16) (.c (.int .i64 1)),none,1,[]⟩,
⟨some 5,.move (.t 17),none,2,[]⟩] false [0,1,5] []) (.keep [0,1,5] [] .skip)))))))
def F100:LFunc:={ nparams:=2,results:=[.tmp 4],pure:=true,body :=
 (.seq (.region [
⟨some 4,.move (.c (.int .i64 0)),none,0,[]⟩] false [0,1] []) (.seq (.region [
⟨some 5,.move (.c (.int .i64 0)),none,0,[]⟩] false [0,1,5] []) (.seq (.block 0 (.seq (.keep [0,1,5] [] (.loop B100x0)) (.keep [0,1] [] .skip))) (.keep [0,1] [] (.seq (.region [
⟨some 32,.move (.t 0),none,0,[]⟩,
⟨some 33,.len 0 (.t 32),none,1,[]⟩,
⟨some 34,.move (.t 1),none,2,[]⟩,
⟨some 35,.len 0 (.t 34),none,3,[]⟩,
⟨some 36,.bin .lss (.t 33) (.t 35),none,4,[]⟩] false [0,1,36] []) (.seq (.cond (.t 36) (.seq (.region [
⟨some 4,.move (.c (.int .i64 (-1))),none,0,[]⟩] false [4] []) (.keep [4] [] .ret)) (.keep [0,1] [] .skip)) (.keep [0,1] [] (.seq (.region [
⟨some 37,.move (.t 0),none,0,[]⟩,
⟨some 38,.len 0 (.t 37),none,1,[]⟩,
⟨some 39,.move (.t 1),none,2,[]⟩,
⟨some 40,.len 0 (.t 39),none,3,[]⟩,
⟨some 41,.bin .gtr (.t 38) (.t 40),none,4,[]⟩] false [41] []) (.seq (.cond (.t 41) (.seq (.region [
⟨some 4,.move (.c (.int .i64 1)),none,0,[]⟩] false [4] []) (.keep [4] [] .ret)) (.keep [] [] .skip)) (.keep [] [] (.seq (.region [
⟨some 4,.move (.c (.int .i64 0)),none,0,[]⟩] false [4] []) (.keep [4] [] .ret)))))))))))) }
theorem ok100:fnSoundB Go.Proofs.Tryz.prog 100 F100=true:=by decide +kernel
def B101x0:LCode :=
 (.seq (.region [
⟨some 14,.bin .lss (.t 13) (.t 12),none,0,[]⟩] false [0,1,12,13,14] []) (.seq (.cond (.t 14) (.keep [0,1,12,13] [] .skip) (.keep [] [] (.exit 0))) (.keep [0,1,12,13] [] (.seq (.block 1 (.seq (.region [
⟨some 15,.move (.t 13),none,0,[]⟩,
⟨some 5,.move (.t 15),none,1,[]⟩] false [0,1,5,12,13] []) (.seq (.region [
⟨some 16,.move (.t 0),none,0,[]⟩,
⟨some 17,.move (.t 5),none,1,[]⟩,
⟨some 18,.indexAddr 2 (.t 16) (.t 17),none,2,[]⟩,
⟨some 19,.load 2 true (.t 18),none,3,[]⟩,
⟨some 20,.move (.t 1),none,4,[]⟩,
⟨some 21,.move (.t 5),none,5,[]⟩,
⟨some 22,.indexAddr 2 (.t 20) (.t 21),none,6,[]⟩,
⟨some 23,.load 2 true (.t 22),none,7,[]⟩,
⟨some 24,.eq (.st [2,2]) true (.t 19) (.t 23),none,8,[]⟩] true [0,1,12,13,24] []) (.seq (.cond (.t 24) (.seq (.region [
⟨some 4,.move (.c (.bool false)),none,0,[]⟩] false [4] []) (.keep [4] [] .ret)) (.keep [0,1,12,13] [] .skip)) (.keep [0,1,12,13] [] .skip))))) (.keep [0,1,12,13] [] (.seq (.region [
⟨some 25,.bin .add (.t 13) (.c (.int .i64 1)),none,0,[]⟩,
⟨some 13,.move (.t 25),none,1,[]⟩] false [0,1,12,13] []) (.keep [0,1,12,13] [] .skip)))))))
def F101:LFunc:={ nparams:=2,results:=[.tmp 4],pure:=true,body :=
 (.seq (.region [
⟨some 4,.move (.c (.bool false)),none,0,[]⟩] false [0,1] []) (.seq (.region [
⟨some 6,.move (.t 0),none,0,[]⟩,
⟨some 7,.len 1 (.t 6),none,1,[]⟩,
⟨some 8,.move (.t 1),none,2,[]⟩,
⟨some 9,.len 1 (.t 8),none,3,[]⟩,
⟨some 10,.eq .i true (.t 7) (.t 9),none,4,[]⟩] false [0,1,10] []) (.seq (.cond (.t 10) (.seq (.region [
⟨some 4,.move (.c (.bool false)),none,0,[]⟩] false [4] []) (.keep [4] [] .ret)) (.keep [0,1] [] .skip)) (.keep [0,1] [] (.seq (.region [
⟨some 11,.move (.t 0),none,0,[]⟩,
⟨some 12,.len 1 (.t 11),none,1,[]⟩,
⟨some 13,.move (.c (.int .i64 0)),none,2,[]⟩] false [0,1,12,13] []) (.seq (.block 0 (.seq (.keep [0,1,12,13] [] (.loop B101x0)) (.keep [] [] .skip))) (.keep [] [] (.seq (.region [
⟨some 4,.move (.c (.bool true)),none,0,[]⟩] false [4] []) (.keep [4] [] .ret))))))))) }
theorem ok101:fnSoundB Go.Proofs.Tryz.prog 101 F101=true:=by decide +kernel
def F102:LFunc:={ nparams:=1,results:=[.cell 2 9 true],pure:=true,body :=
 (.seq (.region [
⟨some 1,.box false 1 (.t 0),none,0,[]⟩,
⟨some 2,.alloc false 2 [.p (.str []),.p (.str []),.p (.str []),.p (.str []),.p (.str []),.p (.str []),.p (.str []),.p (.str []),.p (.str [])] [],none,1,[]⟩] false [1,2] [1,2]) (.seq (.draw [
⟨some 3,.fieldAddr 0 (.t 1),none,0,[]⟩,
⟨some 4,.load 1 false (.t 3),none,1,[]⟩,
⟨some 5,.pcall 103 [(.t 4,.as)],none,2,[]⟩,
⟨some 6,.fieldAddr 1 (.t 1),none,3,[]⟩,
⟨some 7,.load 1 false (.t 6),none,4,[]⟩,
⟨some 8,.pcall 103 [(.t 7,.as)],none,5,[]⟩,
⟨some 9,.fieldAddr 2 (.t 1),none,6,[]⟩,
⟨some 10,.load 1 false (.t 9),none,7,[]⟩,
⟨some 11,.pcall 103 [(.t 10,.as)],none,8,[]⟩,
⟨some 12,.fieldAddr 3 (.t 1),none,9,[]⟩,
⟨some 13,.load 1 false (.t 12),none,10,[]⟩,
⟨some 14,.pcall 103 [(.t 13,.as)],none,11,[]⟩,
⟨some 15,.fieldAddr 4 (.t 1),none,12,[]⟩,
⟨some 16,.load 1 false (.t 15),none,13,[]⟩,
⟨some 17,.fieldAddr 5 (.t 1),none,14,[]⟩,
⟨some 18,.load 1 false (.t 17),none,15,[]⟩,
⟨some 19,.fieldAddr 6 (.t 1),none,16,[]⟩,
⟨some 20,.load 1 false (.t 19),none,17,[]⟩,
⟨some 21,.fieldAddr 7 (.t 1),none,18,[]⟩,
⟨some 22,.load 1 false (.t 21),none,19,[]⟩,
⟨some 23,.build [.p (.str []),.p (.str []),.p (.str []),.p (.str []),.p (.str []),.p (.str []),.p (.str []),.p (.str []),.p (.str [])] [(0,1,.t 5),(1,1,.t 8),(2,1,.t 11),(3,1,.t 14),(4,1,.t 16),(5,1,.t 18),(6,1,.t 20),(7,1,.t 22)],none,20,[]⟩,
⟨none,.store 9 true (.t 2) (.t 23),none,21,[]⟩] [2] [2]) (.keep [2] [2] .ret))) }
theorem ok102:fnSoundB Go.Proofs.Tryz.prog 102 F102=true:=by decide +kernel
def B104x0:LCode :=
 (.seq (.region [
⟨some 23,.bin .lss (.t 22) (.t 21),none,0,[]⟩] false [0,1,21,22,23] []) (.seq (.cond (.t 23) (.keep [0,1,21,22] [] .skip) (.keep [] [] (.exit 0))) (.keep [0,1,21,22] [] (.seq (.block 1 (.seq (.region [
⟨some 24,.move (.t 22),none,0,[]⟩,
⟨some 5,.move (.t 24),none,1,[]⟩] false [0,1,5,21,22] []) (.seq (.region [
⟨some 25,.move (.t 0),none,0,[]⟩,
⟨some 26,.move (.t 5),none,1,[]⟩,
⟨some 27,.index (.t 25) (.t 26),none,2,[]⟩,
⟨some 6,.move (.t 27),none,3,[]⟩] false [0,1,6,21,22] []) (.seq (.region [
⟨some 28,.move (.t 6),none,0,[]⟩,
⟨some 29,.pcall 121 [(.t 28,.as)],none,1,[]⟩,
⟨some 30,.un .not (.t 29),none,2,[]⟩,
⟨some 31,.move (.t 30),none,3,[]⟩,
⟨some 32,.move (.t 6),some (31,true),4,[]⟩,
⟨some 33,.bin .lss (.t 32) (.c (.int .u8 48)),some (31,true),5,[]⟩,
⟨some 34,.move (.t 33),some (31,true),6,[]⟩,
⟨some 35,.move (.t 6),some (34,false),7,[]⟩,
⟨some 36,.bin .gtr (.t 35) (.c (.int .u8 57)),some (34,false),8,[]⟩,
⟨some 37,.pick (.t 34) (.c (.bool true)) (.t 36),some (31,true),9,[]⟩,
⟨some 38,.pick (.t 31) (.t 37) (.c (.bool false)),none,10,[]⟩,
⟨some 39,.move (.t 38),none,11,[]⟩,
⟨some 40,.move (.t 1),some (39,true),12,[]⟩,
⟨some 41,.move (.t 6),some (39,true),13,[]⟩,
⟨some 42,.pcall 122 [(.t 40,.as),(.t 41,.as)],some (39,true),14,[]⟩,
⟨some 43,.bin .lss (.t 42) (.c (.int .i64 0)),some (39,true),15,[]⟩,
⟨some 44,.pick (.t 39) (.t 43) (.c (.bool false)),none,16,[]⟩] false [0,1,21,22,44] []) (.seq (.cond (.t 44) (.seq (.region [
⟨some 4,.move (.c (.bool false)),none,0,[]⟩] false [4] []) (.keep [4] [] .ret)) (.keep [0,1,21,22] [] .skip)) (.keep [0,1,21,22] [] .skip)))))) (.keep [0,1,21,22] [] (.seq (.region [
⟨some 45,.bin .add (.t 22) (.c (.int .i64 1)),none,0,[]⟩,
⟨some 22,.move (.t 45),none,1,[]⟩] false [0,1,21,22] []) (.keep [0,1,21,22] [] .skip)))))))
def F104:LFunc:={ nparams:=2,results:=[.tmp 4],pure:=true,body :=
 (.seq (.region [
⟨some 4,.move (.c (.bool false)),none,0,[]⟩] false [0,1] []) (.seq (.region [
⟨some 7,.move (.t 0),none,0,[]⟩,
⟨some 8,.eq .s false (.t 7) (.c (.str [])),none,1,[]⟩,
⟨some 9,.move (.t 8),none,2,[]⟩,
⟨some 10,.move (.t 0),some (9,false),3,[]⟩,
⟨some 11,.len 0 (.t 10),some (9,false),4,[]⟩,
⟨some 12,.bin .gtr (.t 11) (.c (.int .i64 32)),some (9,false),5,[]⟩,
⟨some 13,.pick (.t 9) (.c (.bool true)) (.t 12),none,6,[]⟩,
⟨some 14,.move (.t 13),none,7,[]⟩,
⟨some 15,.move (.t 0),some (14,false),8,[]⟩,
⟨some 16,.index (.t 15) (.c (.int .i64 0)),some (14,false),9,[]⟩,
⟨some 17,.pcall 121 [(.t 16,.as)],some (14,false),10,[]⟩,
⟨some 18,.un .not (.t 17),some (14,false),11,[]⟩,
⟨some 19,.pick (.t 14) (.c (.bool true)) (.t 18),none,12,[]⟩] false [0,1,19] []) (.seq (.cond (.t 19) (.seq (.region [
⟨some 4,.move (.c (.bool false)),none,0,[]⟩] false [4] []) (.keep [4] [] .ret)) (.keep [0,1] [] .skip)) (.keep [0,1] [] (.seq (.region [
⟨some 20,.move (.t 0),none,0,[]⟩,
⟨some 21,.len 0 (.t 20),none,1,[]⟩,
⟨some 22,.move (.c (.int .i64 0)),none,2,[]⟩] false [0,1,21,22] []) (.seq (.block 0 (.seq (.keep [0,1,21,22] [] (.loop B104x0)) (.keep [] [] .skip))) (.keep [] [] (.seq (.region [
⟨some 4,.move (.c (.bool true)),none,0,[]⟩] false [4] []) (.keep [4] [] .ret))))))))) }
theorem ok104:fnSoundB Go.Proofs.Tryz.prog 104 F104=true:=by decide +kernel
def B105x0:LCode :=
 (.seq (.region [
⟨some 9,.bin .lss (.t 8) (.t 7),none,0,[]⟩] false [0,1,7,8,9] []) (.seq (.cond (.t 9) (.keep [0,1,7,8] [] .skip) (.keep [] [] (.exit 0))) (.keep [0,1,7,8] [] (.seq (.block 1 (.seq (.region [
⟨some 10,.move (.t 8),none,0,[]⟩,
⟨some 5,.move (.t 10),none,1,[]⟩] false [0,1,5,7,8] []) (.seq (.region [
⟨some 11,.move (.t 1),none,0,[]⟩,
⟨some 12,.move (.t 0),none,1,[]⟩,
⟨some 13,.move (.t 5),none,2,[]⟩,
⟨some 14,.indexAddr 1 (.t 12) (.t 13),none,3,[]⟩,
⟨some 15,.load 1 false (.t 14),none,4,[]⟩,
⟨some 16,.eq .i false (.t 11) (.t 15),none,5,[]⟩] false [0,1,5,7,8,16] []) (.seq (.cond (.t 16) (.seq (.region [
⟨some 17,.move (.t 5),none,0,[]⟩,
⟨some 4,.move (.t 17),none,1,[]⟩] false [4] []) (.keep [4] [] .ret)) (.keep [0,1,7,8] [] .skip)) (.keep [0,1,7,8] [] .skip))))) (.keep [0,1,7,8] [] (.seq (.region [
⟨some 18,.bin .add (.t 8) (.c (.int .i64 1)),none,0,[]⟩,
⟨some 8,.move (.t 18),none,1,[]⟩] false [0,1,7,8] []) (.keep [0,1,7,8] [] .skip)))))))
def F105:LFunc:={ nparams:=2,results:=[.tmp 4],pure:=true,body :=
 (.seq (.region [
⟨some 4,.move (.c (.int .i64 0)),none,0,[]⟩] false [0,1] []) (.seq (.region [
⟨some 6,.move (.t 0),none,0,[]⟩,
⟨some 7,.len 1 (.t 6),none,1,[]⟩,
⟨some 8,.move (.c (.int .i64 0)),none,2,[]⟩] false [0,1,7,8] []) (.seq (.block 0 (.seq (.keep [0,1,7,8] [] (.loop B105x0)) (.keep [] [] .skip))) (.keep [] [] (.seq (.region [
⟨some 4,.move (.c (.int .i64 (-1))),none,0,[]⟩] false [4] []) (.keep [4] [] .ret)))))) }
theorem ok105:fnSoundB Go.Proofs.Tryz.prog 105 F105=true:=by decide +kernel
def B108x0:LCode :=
 (.seq (.region [
⟨some 14,.bin .lss (.t 13) (.t 12),none,0,[]⟩] false [0,1,6,11,12,13,14] []) (.seq (.cond (.t 14) (.keep [0,1,6,11,12,13] [] .skip) (.keep [6] [] (.exit 0))) (.keep [0,1,6,11,12,13] [] (.seq (.block 1 (.seq (.region [
⟨some 15,.move (.t 13),none,0,[]⟩,
⟨some 16,.indexAddr 2 (.t 11) (.t 13),none,1,[]⟩,
⟨some 17,.load 2 true (.t 16),none,2,[]⟩,
⟨some 8,.alloc false 8 [.p (.str []),.p (.str [])] [],none,3,[]⟩,
⟨some 7,.move (.t 15),none,4,[]⟩,
⟨none,.store 2 true (.t 8) (.t 17),none,5,[]⟩] false [0,1,6,7,8,11,12,13] [8]) (.seq (.block 2 (.seq (.block 5 (.seq (.block 4 (.seq (.block 3 (.seq (.region [
⟨some 19,.fieldAddr 0 (.t 8),none,0,[]⟩,
⟨some 20,.load 1 false (.t 19),none,1,[]⟩,
⟨some 21,.move (.t 1),none,2,[]⟩,
⟨some 22,.eq .s false (.t 20) (.t 21),none,3,[]⟩,
⟨some 18,.move (.t 22),none,4,[]⟩] false [0,1,6,7,8,11,12,13,18] [8]) (.seq (.cond (.t 18) (.keep [7] [] (.exit 3)) (.keep [0,1,6,7,8,11,12,13] [8] .skip)) (.keep [0,1,6,7,8,11,12,13] [8] (.seq (.region [
⟨some 24,.move (.t 6),none,0,[]⟩,
⟨some 25,.move (.t 0),none,1,[]⟩,
⟨some 26,.len 1 (.t 25),none,2,[]⟩,
⟨some 27,.bin .lss (.t 24) (.t 26),none,3,[]⟩,
⟨some 23,.move (.t 27),none,4,[]⟩] false [0,1,6,7,8,11,12,13,23] [8]) (.seq (.cond (.t 23) (.keep [0,1,6,11,12,13] [] (.exit 4)) (.keep [0,1,6,7,8,11,12,13] [8] .skip)) (.keep [0,1,6,7,8,11,12,13] [8] (.seq (.region [
⟨some 29,.fieldAddr 0 (.t 8),none,0,[]⟩,
⟨some 30,.load 1 false (.t 29),none,1,[]⟩,
⟨some 31,.move (.t 1),none,2,[]⟩,
⟨some 32,.bin .lss (.t 30) (.t 31),none,3,[]⟩,
⟨some 28,.move (.t 32),none,4,[]⟩] false [0,1,6,7,11,12,13,28] []) (.seq (.cond (.t 28) (.keep [0,1,6,11,12,13] [] (.exit 5)) (.keep [0,1,7,11,12,13] [] .skip)) (.keep [0,1,7,11,12,13] [] (.exit 2))))))))))) (.keep [7] [] (.seq (.region [
⟨some 33,.move (.t 7),none,0,[]⟩,
⟨some 4,.move (.t 33),none,1,[]⟩,
⟨some 5,.move (.c (.bool true)),none,2,[]⟩] false [4,5] []) (.seq (.keep [4,5] [] .ret) (.keep [0,1,7,11,12,13] [] (.exit 2))))))) (.keep [0,1,6,11,12,13] [] .skip))) (.seq (.keep [0,1,6,11,12,13] [] (.exit 1)) (.keep [0,1,7,11,12,13] [] (.exit 2))))) (.keep [0,1,7,11,12,13] [] (.seq (.region [
⟨some 34,.move (.t 7),none,0,[]⟩,
⟨some 6,.move (.t 34),none,1,[]⟩] false [0,1,6,11,12,13] []) (.keep [0,1,6,11,12,13] [] .skip)))))) (.keep [0,1,6,11,12,13] [] (.seq (.region [
⟨some 35,.bin .add (.t 13) (.c (.int .i64 1)),none,0,[]⟩,
⟨some 13,.move (.t 35),none,1,[]⟩] false [0,1,6,11,12,13] []) (.keep [0,1,6,11,12,13] [] .skip)))))))
def F108:LFunc:={ nparams:=2,results:=[.tmp 4,.tmp 5],pure:=true,body :=
 (.seq (.region [
⟨some 4,.move (.c (.int .i64 0)),none,0,[]⟩,
⟨some 5,.move (.c (.bool false)),none,1,[]⟩] false [0,1] []) (.seq (.region [
⟨some 9,.move (.t 0),none,0,[]⟩,
⟨some 10,.len 1 (.t 9),none,1,[]⟩,
⟨some 6,.move (.t 10),none,2,[]⟩] false [0,1,6] []) (.seq (.region [
⟨some 11,.move (.t 0),none,0,[]⟩,
⟨some 12,.len 1 (.t 11),none,1,[]⟩,
⟨some 13,.move (.c (.int .i64 0)),none,2,[]⟩] false [0,1,6,11,12,13] []) (.seq (.block 0 (.seq (.keep [0,1,6,11,12,13] [] (.loop B108x0)) (.keep [6] [] .skip))) (.keep [6] [] (.seq (.region [
⟨some 36,.move (.t 6),none,0,[]⟩,
⟨some 4,.move (.t 36),none,1,[]⟩,
⟨some 5,.move (.c (.bool false)),none,2,[]⟩] false [4,5] []) (.keep [4,5] [] .ret))))))) }
theorem ok108:fnSoundB Go.Proofs.Tryz.prog 108 F108=true:=by decide +kernel
def F111:LFunc:={ nparams:=2,results:=[.tmp 3],pure:=false,body :=
 (.seq (.region [
⟨some 2,.box false 2 (.t 0),none,0,[]⟩,
⟨some 3,.move (.c (.bool false)),none,1,[]⟩] false [1,2] [2]) (.seq (.region [
⟨some 4,.fieldAddr 0 (.t 2),none,0,[]⟩,
⟨some 5,.load 1 false (.t 4),none,1,[]⟩,
⟨some 6,.load 1 false (.t 1),none,2,[]⟩,
⟨some 7,.eq .s false (.t 5) (.t 6),none,3,[]⟩,
⟨some 3,.move (.t 7),none,4,[]⟩] false [3] []) (.keep [3] [] .ret))) }
theorem ok111:fnSoundB Go.Proofs.Tryz.prog 111 F111=true:=by decide +kernel
def F112:LFunc:={ nparams:=2,results:=[.tmp 4],pure:=false,body :=
 (.seq (.region [
⟨some 4,.move (.c (.int .i64 0)),none,0,[]⟩] false [0,1] []) (.seq (.region [
⟨some 5,.move (.t 1),none,0,[]⟩,
⟨some 6,.eq .i false (.t 5) (.c (.int .i64 0)),none,1,[]⟩] false [0,1,6] []) (.seq (.cond (.t 6) (.seq (.region [
⟨some 4,.move (.c (.int .i64 14)),none,0,[]⟩] false [4] []) (.keep [4] [] .ret)) (.keep [0,1] [] .skip)) (.keep [0,1] [] (.seq (.region [
⟨some 7,.move (.t 0),none,0,[]⟩,
⟨some 8,.move (.t 1),none,1,[]⟩,
⟨some 9,.call 80 [(.t 7,.as),(.t 8,.as)],none,2,[]⟩,
⟨some 10,.bin .lss (.t 9) (.c (.int .i64 0)),none,3,[]⟩] false [10] []) (.seq (.cond (.t 10) (.seq (.region [
⟨some 4,.move (.c (.int .i64 13)),none,0,[]⟩] false [4] []) (.keep [4] [] .ret)) (.keep [] [] .skip)) (.keep [] [] (.seq (.region [
⟨some 4,.move (.c (.int .i64 0)),none,0,[]⟩] false [4] []) (.keep [4] [] .ret))))))))) }
theorem ok112:fnSoundB Go.Proofs.Tryz.prog 112 F112=true:=by decide +kernel
def B113x0:LCode :=
 (.seq (.region [
⟨some 7,.move (.t 1),none,0,[]⟩,
⟨some 8,.bin .geq (.t 7) (.c (.int .i64 0)),none,1,[]⟩] false [0,1,2,8] []) (.seq (.cond (.t 8) (.keep [0,1,2] [] .skip) (.keep [] [] (.exit 0))) (.keep [0,1,2] [] (.seq (.block 1 (.seq (.region [
⟨some 9,.move (.t 1),none,0,[]⟩,
⟨some 10,.move (.t 2),none,1,[]⟩,
⟨some 11,.eq .i false (.t 9) (.t 10),none,2,[]⟩] false [0,1,2,11] []) (.seq (.cond (.t 11) (.seq (.region [
⟨some 6,.move (.c (.bool true)),none,0,[]⟩] false [6] []) (.keep [6] [] .ret)) (.keep [0,1,2] [] .skip)) (.keep [0,1,2] [] (.seq (.draw [
⟨some 12,.move (.t 0),none,0,[]⟩,
⟨some 13,.nilCheck (.t 12),none,1,[]⟩,
⟨some 14,.fieldAddr 0 (.t 13),none,2,[]⟩,
⟨some 15,.load 1 false (.t 14),none,3,[]⟩,
⟨some 16,.move (.t 0),none,4,[]⟩,
⟨some 17,.move (.t 1),none,5,[]⟩,
⟨some 18,.call 80 [(.t 16,.as),(.t 17,.as)],none,6,[3]⟩,
⟨some 19,.indexAddr 7 (.t 15) (.t 18),none,7,[]⟩,
⟨some 20,.fieldAddr 1 (.t 19),none,8,[]⟩,
⟨some 21,.load 1 false (.t 20),none,9,[]⟩,
⟨some 1,.move (.t 21),none,10,[]⟩] [0,1,2] []) (.keep [0,1,2] [] .skip)))))) (.keep [0,1,2] [] .skip)))))
def F113:LFunc:={ nparams:=3,results:=[.tmp 6],pure:=false,body :=
 (.seq (.region [
⟨some 6,.move (.c (.bool false)),none,0,[]⟩] false [0,1,2] []) (.seq (.block 0 (.seq (.keep [0,1,2] [] (.loop B113x0)) (.keep [] [] .skip))) (.keep [] [] (.seq (.region [
⟨some 6,.move (.c (.bool false)),none,0,[]⟩] false [6] []) (.keep [6] [] .ret))))) }
theorem ok113:fnSoundB Go.Proofs.Tryz.prog 113 F113=true:=by decide +kernel
def F114:LFunc:={ nparams:=3,results:=[],pure:=false,body :=
 (.seq (.draw [
⟨some 6,.move (.t 0),none,0,[]⟩,
⟨some 7,.nilCheck (.t 6),none,1,[]⟩,
⟨some 8,.fieldAddr 0 (.t 7),none,2,[]⟩,
⟨some 9,.load 1 false (.t 8),none,3,[]⟩,
⟨some 10,.move (.t 0),none,4,[]⟩,
⟨some 11,.move (.t 1),none,5,[]⟩,
⟨some 13,.move (.t 2),none,7,[]⟩,
⟨some 12,.call 80 [(.t 10,.as),(.t 11,.as)],none,6,[3]⟩,
⟨some 14,.indexAddr 7 (.t 9) (.t 12),none,8,[]⟩,
⟨some 15,.fieldAddr 2 (.t 14),none,9,[]⟩,
⟨none,.store 1 false (.t 15) (.t 13),none,10,[]⟩] [] []) (.keep [] [] .skip)) }
theorem ok114:fnSoundB Go.Proofs.Tryz.prog 114 F114=true:=by decide +kernel
def B115x0:LCode :=
 (.seq (.region [
⟨some 12,.bin .lss (.t 11) (.t 10),none,0,[]⟩] false [0,1,2,7,10,11,12] [1000]) (.seq (.cond (.t 12) (.keep [0,1,2,7,10,11] [1000] .skip) (.keep [1,2,7] [1000] (.exit 0))) (.keep [0,1,2,7,10,11] [1000] (.seq (.block 1 (.seq (.region [
⟨some 13,.move (.t 11),none,0,[]⟩,
⟨some 8,.move (.t 13),none,1,[]⟩] false [0,1,2,7,8,10,11] [1000]) (.seq (.region [
⟨some 14,.move (.t 0),none,0,[]⟩,
⟨some 15,.move (.t 8),none,1,[]⟩,
⟨some 16,.indexAddr 1 (.t 14) (.t 15),none,2,[]⟩,
⟨some 17,.load 1 false (.t 16),none,3,[]⟩,
⟨some 18,.move (.t 2),none,4,[]⟩,
⟨some 19,.eq .i false (.t 17) (.t 18),none,5,[]⟩] false [0,1,2,7,8,10,11,19] [1000]) (.seq (.cond (.t 19) (.seq (.region [
⟨some 20,.move (.t 7),none,0,[]⟩,
⟨some 21,.move (.t 1),none,1,[]⟩,
⟨some 22,.row 1 [.t 21],none,2,[]⟩,
⟨some 23,.append false 1001 1 8 (.t 20) (.t 22),none,3,[]⟩,
⟨some 7,.move (.t 23),none,4,[]⟩] false [0,1,2,7,8,10,11] [1000]) (.keep [0,1,2,7,8,10,11] [1000] .skip)) (.keep [0,1,2,7,8,10,11] [1000] .skip)) (.keep [0,1,2,7,8,10,11] [1000] (.seq (.region [
⟨some 24,.move (.t 7),none,0,[]⟩,
⟨some 25,.move (.t 0),none,1,[]⟩,
⟨some 26,.move (.t 8),none,2,[]⟩,
⟨some 27,.indexAddr 1 (.t 25) (.t 26),none,3,[]⟩,
⟨some 28,.load 1 false (.t 27),none,4,[]⟩,
⟨some 29,.row 1 [.t 28],none,5,[]⟩,
⟨some 30,.append false 1002 1 8 (.t 24) (.t 29),none,6,[]⟩,
⟨some 7,.move (.t 30),none,7,[]⟩] false [0,1,2,7,10,11] [1000]) (.keep [0,1,2,7,10,11] [1000] .skip))))))) (.keep [0,1,2,7,10,11] [1000] (.seq (.region [
⟨some 31,.bin .add (.t 11) (.c (.int .i64 1)),none,0,[]⟩,
⟨some 11,.move (.t 31),none,1,[]⟩] false [0,1,2,7,10,11] [1000]) (.keep [0,1,2,7,10,11] [1000] .skip)))))))
def F115:LFunc:={ nparams:=3,results:=[.tmp 6],pure:=true,body :=
 (.seq (.region [
⟨some 6,.move (.c (.list [])),none,0,[]⟩] false [0,1,2] []) (.seq (.region [
⟨some 7,.nilown false 1000 1,none,0,[]⟩] false [0,1,2,7] [1000]) (.seq (.region [
⟨some 9,.move (.t 0),none,0,[]⟩,
⟨some 10,.len 1 (.t 9),none,1,[]⟩,
⟨some 11,.move (.c (.int .i64 0)),none,2,[]⟩] false [0,1,2,7,10,11] [1000]) (.seq (.block 0 (.seq (.keep [0,1,2,7,10,11] [1000] (.loop B115x0)) (.keep [1,2,7] [1000] .skip))) (.keep [1,2,7] [1000] (.seq (.region [
⟨some 32,.move (.t 2),none,0,[]⟩,
⟨some 33,.eq .i false (.t 32) (.c (.int .i64 0)),none,1,[]⟩] false [1,7,33] [1000]) (.seq (.cond (.t 33) (.seq (.region [
⟨some 34,.move (.t 7),none,0,[]⟩,
⟨some 35,.move (.t 1),none,1,[]⟩,
⟨some 36,.row 1 [.t 35],none,2,[]⟩,
⟨some 37,.append false 1003 1 8 (.t 34) (.t 36),none,3,[]⟩,
⟨some 7,.move (.t 37),none,4,[]⟩] false [7] [1000]) (.keep [7] [1000] .skip)) (.keep [7] [1000] .skip)) (.keep [7] [1000] (.seq (.region [
⟨some 38,.move (.t 7),none,0,[]⟩,
⟨some 6,.move (.t 38),none,1,[]⟩] false [6] [1000]) (.keep [6] [1000] .ret)))))))))) }
theorem ok115:fnSoundB Go.Proofs.Tryz.prog 115 F115=true:=by decide +kernel
def B116x0:LCode :=
 (.seq (.region [
⟨some 10,.bin .lss (.t 9) (.t 8),none,0,[]⟩] false [0,1,5,8,9,10] [1000]) (.seq (.cond (.t 10) (.keep [0,1,5,8,9] [1000] .skip) (.keep [5] [1000] (.exit 0))) (.keep [0,1,5,8,9] [1000] (.seq (.block 1 (.seq (.region [
⟨some 11,.move (.t 9),none,0,[]⟩,
⟨some 6,.move (.t 11),none,1,[]⟩] false [0,1,5,6,8,9] [1000]) (.seq (.region [
⟨some 12,.move (.t 0),none,0,[]⟩,
⟨some 13,.move (.t 6),none,1,[]⟩,
⟨some 14,.indexAddr 1 (.t 12) (.t 13),none,2,[]⟩,
⟨some 15,.load 1 false (.t 14),none,3,[]⟩,
⟨some 16,.move (.t 1),none,4,[]⟩,
⟨some 17,.eq .i true (.t 15) (.t 16),none,5,[]⟩] false [0,1,5,6,8,9,17] [1000]) (.seq (.cond (.t 17) (.seq (.region [
⟨some 18,.move (.t 5),none,0,[]⟩,
⟨some 19,.move (.t 0),none,1,[]⟩,
⟨some 20,.move (.t 6),none,2,[]⟩,
⟨some 21,.indexAddr 1 (.t 19) (.t 20),none,3,[]⟩,
⟨some 22,.load 1 false (.t 21),none,4,[]⟩,
⟨some 23,.row 1 [.t 22],none,5,[]⟩,
⟨some 24,.append false 1001 1 8 (.t 18) (.t 23),none,6,[]⟩,
⟨some 5,.move (.t 24),none,7,[]⟩] false [0,1,5,8,9] [1000]) (.keep [0,1,5,8,9] [1000] .skip)) (.keep [0,1,5,8,9] [1000] .skip)) (.keep [0,1,5,8,9] [1000] .skip))))) (.keep [0,1,5,8,9] [1000] (.seq (.region [
⟨some 25,.bin .add (.t 9) (.c (.int .i64 1)),none,0,[]⟩,
⟨some 9,.move (.t 25),none,1,[]⟩] false [0,1,5,8,9] [1000]) (.keep [0,1,5,8,9] [1000] .skip)))))))
def F116:LFunc:={ nparams:=2,results:=[.tmp 4],pure:=true,body :=
 (.seq (.region [
⟨some 4,.move (.c (.list [])),none,0,[]⟩] false [0,1] []) (.seq (.region [
⟨some 5,.nilown false 1000 1,none,0,[]⟩] false [0,1,5] [1000]) (.seq (.region [
⟨some 7,.move (.t 0),none,0,[]⟩,
⟨some 8,.len 1 (.t 7),none,1,[]⟩,
⟨some 9,.move (.c (.int .i64 0)),none,2,[]⟩] false [0,1,5,8,9] [1000]) (.seq (.block 0 (.seq (.keep [0,1,5,8,9] [1000] (.loop B116x0)) (.keep [5] [1000] .skip))) (.keep [5] [1000] (.seq (.region [
⟨some 26,.move (.t 5),none,0,[]⟩,
⟨some 4,.move (.t 26),none,1,[]⟩] false [4] [1000]) (.keep [4] [1000] .ret))))))) }
theorem ok116:fnSoundB Go.Proofs.Tryz.prog 116 F116=true:=by decide +kernel
def B117x0:LCode :=
 (.seq (.region [
⟨some 15,.move (.t 8),none,0,[]⟩,
⟨some 16,.move (.t 0),none,1,[]⟩,
⟨some 17,.len 1 (.t 16),none,2,[]⟩,
⟨some 18,.bin .lss (.t 15) (.t 17),none,3,[]⟩,
⟨some 19,.move (.t 18),none,4,[]⟩,
⟨some 20,.move (.t 0),some (19,true),5,[]⟩,
⟨some 21,.move (.t 8),some (19,true),6,[]⟩,
⟨some 22,.indexAddr 2 (.t 20) (.t 21),some (19,true),7,[]⟩,
⟨some 23,.fieldAddr 0 (.t 22),some (19,true),8,[]⟩,
⟨some 24,.load 1 false (.t 23),some (19,true),9,[]⟩,
⟨some 25,.move (.t 1),some (19,true),10,[]⟩,
⟨some 26,.pcall 100 [(.t 24,.as),(.t 25,.as)],some (19,true),11,[]⟩,
⟨some 27,.bin .leq (.t 26) (.c (.int .i64 0)),some (19,true),12,[]⟩,
⟨some 28,.pick (.t 19) (.t 27) (.c (.bool false)),none,13,[]⟩] false [0,1,2,7,8,28] []) (.seq (.cond (.t 28) (.keep [0,1,2,7,8] [] .skip) (.keep [0,1,2,7,8] [] (.exit 0))) (.keep [0,1,2,7,8] [] (.seq (.block 1 (.seq (.region [
⟨some 29,.move (.t 8),none,0,[]⟩,
⟨some 30,.bin .add (.t 29) (.c (.int .i64 1)),none,1,[]⟩,
⟨some 8,.move (.t 30),none,2,[]⟩] false [0,1,2,7,8] []) (.keep [0,1,2,7,8] [] .skip))) (.keep [0,1,2,7,8] [] .skip)))))
def B117x1:LCode :=
 (.seq (.region [
⟨some 34,.bin .lss (.t 33) (.t 32),none,0,[]⟩] false [0,1,2,7,8,9,32,33,34] [1000]) (.seq (.cond (.t 34) (.keep [0,1,2,7,8,9,32,33] [1000] .skip) (.keep [0,1,2,7,8,9] [1000] (.exit 2))) (.keep [0,1,2,7,8,9,32,33] [1000] (.seq (.block 3 (.seq (.region [
⟨some 35,.move (.t 33),none,0,[]⟩,
⟨some 10,.move (.t 35),none,1,[]⟩] false [0,1,2,7,8,9,10,32,33] [1000]) (.seq (.region [
⟨some 36,.move (.t 7),none,0,[]⟩,
⟨some 37,.bin .lss (.t 36) (.c (.int .i64 0)),none,1,[]⟩,
⟨some 38,.move (.t 37),none,2,[]⟩,
⟨some 39,.move (.t 10),some (38,true),3,[]⟩,
⟨some 40,.move (.t 8),some (38,true),4,[]⟩,
⟨some 41,.eq .i false (.t 39) (.t 40),some (38,true),5,[]⟩,
⟨some 42,.pick (.t 38) (.t 41) (.c (.bool false)),none,6,[]⟩] false [0,1,2,7,8,9,10,32,33,42] [1000]) (.seq (.cond (.t 42) (.seq (.region [
⟨some 43,.move (.t 9),none,0,[]⟩,
⟨some 44,.move (.t 1),none,1,[]⟩,
⟨some 45,.move (.t 2),none,2,[]⟩,
⟨some 46,.build [.p (.str []),.p (.str [])] [(0,1,.t 44),(1,1,.t 45)],none,3,[]⟩,
⟨some 47,.row 2 [.t 46],none,4,[]⟩,
⟨some 48,.append false 1001 2 32 (.t 43) (.t 47),none,5,[]⟩,
⟨some 9,.move (.t 48),none,6,[]⟩] false [0,1,2,7,8,9,10,32,33] [1000]) (.keep [0,1,2,7,8,9,10,32,33] [1000] .skip)) (.keep [0,1,2,7,8,9,10,32,33] [1000] .skip)) (.keep [0,1,2,7,8,9,10,32,33] [1000] (.seq (.region [
⟨some 49,.move (.t 0),none,0,[]⟩,
⟨some 50,.move (.t 10),none,1,[]⟩,
⟨some 51,.indexAddr 2 (.t 49) (.t 50),none,2,[]⟩,
⟨some 52,.load 2 true (.t 51),none,3,[]⟩,
⟨some 11,.alloc false 11 [.p (.str []),.p (.str [])] [],none,4,[]⟩,
⟨none,.store 2 true (.t 11) (.t 52),none,5,[]⟩] false [0,1,2,7,8,9,10,11,32,33] [11,1000]) (.seq (.region [
⟨some 53,.move (.t 10),none,0,[]⟩,
⟨some 54,.move (.t 7),none,1,[]⟩,
⟨some 55,.eq .i false (.t 53) (.t 54),none,2,[]⟩] false [0,1,2,7,8,9,11,32,33,55] [11,1000]) (.seq (.cond (.t 55) (.seq (.region [
⟨some 56,.move (.t 2),none,0,[]⟩,
⟨some 57,.fieldAddr 1 (.t 11),none,1,[]⟩,
⟨none,.store 1 false (.t 57) (.t 56),none,2,[]⟩] false [0,1,2,7,8,9,11,32,33] [11,1000]) (.keep [0,1,2,7,8,9,11,32,33] [11,1000] .skip)) (.keep [0,1,2,7,8,9,11,32,33] [11,1000] .skip)) (.keep [0,1,2,7,8,9,11,32,33] [11,1000] (.seq (.region [
⟨some 58,.move (.t 9),none,0,[]⟩,
⟨some 59,.load 2 true (.t 11),none,1,[]⟩,
⟨some 60,.row 2 [.t 59],none,2,[]⟩,
⟨some 61,.append false 1002 2 32 (.t 58) (.t 60),none,3,[]⟩,
⟨some 9,.move (.t 61),none,4,[]⟩] false [0,1,2,7,8,9,32,33] [1000]) (.keep [0,1,2,7,8,9,32,33] [1000] .skip))))))))))) (.keep [0,1,2,7,8,9,32,33] [1000] (.seq (.region [
⟨some 62,.bin .add (.t 33) (.c (.int .i64 1)),none,0,[]⟩,
⟨some 33,.move (.t 62),none,1,[]⟩] false [0,1,2,7,8,9,32,33] [1000]) (.keep [0,1,2,7,8,9,32,33] [1000] .skip)))))))
def F117:LFunc:={ nparams:=3,results:=[.tmp 6],pure:=true,body :=
 (.seq (.region [
⟨some 6,.move (.c (.list [])),none,0,[]⟩] false [0,1,2] []) (.seq (.region [
⟨some 12,.move (.t 0),none,0,[]⟩,
⟨some 13,.move (.t 1),none,1,[]⟩,
⟨some 14,.pcall 128 [(.t 12,.as),(.t 13,.as)],none,2,[]⟩,
⟨some 7,.move (.t 14),none,3,[]⟩] false [0,1,2,7] []) (.seq (.region [
⟨some 8,.move (.c (.int .i64 0)),none,0,[]⟩] false [0,1,2,7,8] []) (.seq (.block 0 (.seq (.keep [0,1,2,7,8] [] (.loop B117x0)) (.keep [0,1,2,7,8] [] .skip))) (.keep [0,1,2,7,8] [] (.seq (.region [
⟨some 9,.nilown false 1000 2,none,0,[]⟩] false [0,1,2,7,8,9] [1000]) (.seq (.region [
⟨some 31,.move (.t 0),none,0,[]⟩,
⟨some 32,.len 1 (.t 31),none,1,[]⟩,
⟨some 33,.move (.c (.int .i64 0)),none,2,[]⟩] false [0,1,2,7,8,9,32,33] [1000]) (.seq (.block 2 (.seq (.keep [0,1,2,7,8,9,32,33] [1000] (.loop B117x1)) (.keep [0,1,2,7,8,9] [1000] .skip))) (.keep [0,1,2,7,8,9] [1000] (.seq (.region [
⟨some 63,.move (.t 7),none,0,[]⟩,
⟨some 64,.bin .lss (.t 63) (.c (.int .i64 0)),none,1,[]⟩,
⟨some 65,.move (.t 64),none,2,[]⟩,
⟨some 66,.move (.t 8),some (65,true),3,[]⟩,
⟨some 67,.move (.t 0),some (65,true),4,[]⟩,
⟨some 68,.len 1 (.t 67),some (65,true),5,[]⟩,
⟨some 69,.eq .i false (.t 66) (.t 68),some (65,true),6,[]⟩,
⟨some 70,.pick (.t 65) (.t 69) (.c (.bool false)),none,7,[]⟩] false [1,2,9,70] [1000]) (.seq (.cond (.t 70) (.seq (.region [
⟨some 71,.move (.t 9),none,0,[]⟩,
⟨some 72,.move (.t 1),none,1,[]⟩,
⟨some 73,.move (.t 2),none,2,[]⟩,
⟨some 74,.build [.p (.str []),.p (.str [])] [(0,1,.t 72),(1,1,.t 73)],none,3,[]⟩,
⟨some 75,.row 2 [.t 74],none,4,[]⟩,
⟨some 76,.append false 1003 2 32 (.t 71) (.t 75),none,5,[]⟩,
⟨some 9,.move (.t 76),none,6,[]⟩] false [9] [1000]) (.keep [9] [1000] .skip)) (.keep [9] [1000] .skip)) (.keep [9] [1000] (.seq (.region [
⟨some 77,.move (.t 9),none,0,[]⟩,
⟨some 6,.move (.t 77),none,1,[]⟩] false [6] [1000]) (.keep [6] [1000] .ret)))))))))))))) }
theorem ok117:fnSoundB Go.Proofs.Tryz.prog 117 F117=true:=by decide +kernel
def B118x0:LCode :=
 (.seq (.region [
⟨some 11,.bin .lss (.t 10) (.t 9),none,0,[]⟩] false [0,1,6,9,10,11] [1000]) (.seq (.cond (.t 11) (.keep [0,1,6,9,10] [1000] .skip) (.keep [0,6] [1000] (.exit 0))) (.keep [0,1,6,9,10] [1000] (.seq (.block 1 (.seq (.region [
⟨some 12,.move (.t 10),none,0,[]⟩,
⟨some 7,.move (.t 12),none,1,[]⟩] false [0,1,6,7,9,10] [1000]) (.seq (.region [
⟨some 13,.move (.t 0),none,0,[]⟩,
⟨some 14,.move (.t 7),none,1,[]⟩,
⟨some 15,.indexAddr 2 (.t 13) (.t 14),none,2,[]⟩,
⟨some 16,.fieldAddr 0 (.t 15),none,3,[]⟩,
⟨some 17,.load 1 false (.t 16),none,4,[]⟩,
⟨some 18,.move (.t 1),none,5,[]⟩,
⟨some 19,.eq .s true (.t 17) (.t 18),none,6,[]⟩] false [0,1,6,7,9,10,19] [1000]) (.seq (.cond (.t 19) (.seq (.region [
⟨some 20,.move (.t 6),none,0,[]⟩,
⟨some 21,.move (.t 0),none,1,[]⟩,
⟨some 22,.move (.t 7),none,2,[]⟩,
⟨some 23,.indexAddr 2 (.t 21) (.t 22),none,3,[]⟩,
⟨some 24,.load 2 true (.t 23),none,4,[]⟩,
⟨some 25,.row 2 [.t 24],none,5,[]⟩,
⟨some 26,.append false 1001 2 32 (.t 20) (.t 25),none,6,[]⟩,
⟨some 6,.move (.t 26),none,7,[]⟩] false [0,1,6,9,10] [1000]) (.keep [0,1,6,9,10] [1000] .skip)) (.keep [0,1,6,9,10] [1000] .skip)) (.keep [0,1,6,9,10] [1000] .skip))))) (.keep [0,1,6,9,10] [1000] (.seq (.region [
⟨some 27,.bin .add (.t 10) (.c (.int .i64 1)),none,0,[]⟩,
⟨some 10,.move (.t 27),none,1,[]⟩] false [0,1,6,9,10] [1000]) (.keep [0,1,6,9,10] [1000] .skip)))))))
def F118:LFunc:={ nparams:=2,results:=[.tmp 4,.tmp 5],pure:=true,body :=
 (.seq (.region [
⟨some 4,.move (.c (.list [])),none,0,[]⟩,
⟨some 5,.move (.c (.bool false)),none,1,[]⟩] false [0,1] []) (.seq (.region [
⟨some 6,.nilown false 1000 2,none,0,[]⟩] false [0,1,6] [1000]) (.seq (.region [
⟨some 8,.move (.t 0),none,0,[]⟩,
⟨some 9,.len 1 (.t 8),none,1,[]⟩,
⟨some 10,.move (.c (.int .i64 0)),none,2,[]⟩] false [0,1,6,9,10] [1000]) (.seq (.block 0 (.seq (.keep [0,1,6,9,10] [1000] (.loop B118x0)) (.keep [0,6] [1000] .skip))) (.keep [0,6] [1000] (.seq (.region [
⟨some 28,.move (.t 6),none,0,[]⟩,
⟨some 29,.move (.t 6),none,1,[]⟩,
⟨some 30,.len 1 (.t 29),none,2,[]⟩,
⟨some 31,.move (.t 0),none,3,[]⟩,
⟨some 32,.len 1 (.t 31),none,4,[]⟩,
⟨some 33,.bin .lss (.t 30) (.t 32),none,5,[]⟩,
⟨some 4,.move (.t 28),none,6,[]⟩,
⟨some 5,.move (.t 33),none,7,[]⟩] false [4,5] [1000]) (.keep [4,5] [1000] .ret))))))) }
theorem ok118:fnSoundB Go.Proofs.Tryz.prog 118 F118=true:=by decide +kernel
def F119:LFunc:={ nparams:=1,results:=[.cell 2 3 true],pure:=true,body :=
 (.seq (.region [
⟨some 1,.box false 1 (.t 0),none,0,[]⟩,
⟨some 2,.alloc false 2 [.p (.int .i64 0),.p (.int .i64 0),.p (.int .i64 0)] [],none,1,[]⟩] false [1,2] [1,2]) (.seq (.region [
⟨some 3,.alloc true 3 [.p (.int .i64 0),.p (.int .i64 0),.p (.int .i64 0)] [],none,0,[]⟩] false [1,2,3] [1,2]) (.seq (.region [
⟨some 4,.alloc true 4 [.p (.nilf)] [],none,0,[]⟩] false [1,2,3,4] [1,2]) (.seq (.region [
⟨some 5,.makeFunc 129 [.t 3,.t 4],none,0,[]⟩,
⟨none,.store 1 false (.t 4) (.t 5),none,1,[]⟩] false [1,2,3,4] [1,2]) (.seq (.region [
⟨some 6,.load 1 false (.t 4),none,0,[]⟩,
⟨some 7,.load 5 true (.t 1),none,1,[]⟩,
⟨some 8,.makeMap true 8,none,2,[]⟩,
⟨some 9,.callv (.t 6) [(.t 7,.as),(.c (.int .i64 1),.as),(.t 8,.as)],none,3,[]⟩] false [2,3] [2]) (.seq (.region [
⟨some 10,.load 3 true (.t 3),none,0,[]⟩,
⟨none,.store 3 true (.t 2) (.t 10),none,1,[]⟩] false [2] [2]) (.keep [2] [2] .ret))))))) }
theorem ok119:fnSoundB Go.Proofs.Tryz.prog 119 F119=true:=by decide +kernel
def F121:LFunc:={ nparams:=1,results:=[.tmp 2],pure:=true,body :=
 (.seq (.region [
⟨some 2,.move (.c (.bool false)),none,0,[]⟩] false [0] []) (.seq (.region [
⟨some 3,.move (.t 0),none,0,[]⟩,
⟨some 4,.bin .geq (.t 3) (.c (.int .u8 97)),none,1,[]⟩,
⟨some 5,.move (.t 4),none,2,[]⟩,
⟨some 6,.move (.t 0),some (5,true),3,[]⟩,
⟨some 7,.bin .leq (.t 6) (.c (.int .u8 122)),some (5,true),4,[]⟩,
⟨some 8,.pick (.t 5) (.t 7) (.c (.bool false)),none,5,[]⟩,
⟨some 2,.move (.t 8),none,6,[]⟩] false [2] []) (.keep [2] [] .ret))) }
theorem ok121:fnSoundB Go.Proofs.Tryz.prog 121 F121=true:=by decide +kernel
def B128x0:LCode :=
 (.seq (.region [
⟨some 9,.bin .lss (.t 8) (.t 7),none,0,[]⟩] false [0,1,7,8,9] []) (.seq (.cond (.t 9) (.keep [0,1,7,8] [] .skip) (.keep [] [] (.exit 0))) (.keep [0,1,7,8] [] (.seq (.block 1 (.seq (.region [
⟨some 10,.move (.t 8),none,0,[]⟩,
⟨some 5,.move (.t 10),none,1,[]⟩] false [0,1,5,7,8] []) (.seq (.region [
⟨some 11,.move (.t 0),none,0,[]⟩,
⟨some 12,.move (.t 5),none,1,[]⟩,
⟨some 13,.indexAddr 2 (.t 11) (.t 12),none,2,[]⟩,
⟨some 14,.fieldAddr 0 (.t 13),none,3,[]⟩,
⟨some 15,.load 1 false (.t 14),none,4,[]⟩,
⟨some 16,.move (.t 1),none,5,[]⟩,
⟨some 17,.eq .s false (.t 15) (.t 16),none,6,[]⟩] false [0,1,5,7,8,17] []) (.seq (.cond (.t 17) (.seq (.region [
⟨some 18,.move (.t 5),none,0,[]⟩,
⟨some 4,.move (.t 18),none,1,[]⟩] false [4] []) (.keep [4] [] .ret)) (.keep [0,1,7,8] [] .skip)) (.keep [0,1,7,8] [] .skip))))) (.keep [0,1,7,8] [] (.seq (.region [
⟨some 19,.bin .add (.t 8) (.c (.int .i64 1)),none,0,[]⟩,
⟨some 8,.move (.t 19),none,1,[]⟩] false [0,1,7,8] []) (.keep [0,1,7,8] [] .skip)))))))
def F128:LFunc:={ nparams:=2,results:=[.tmp 4],pure:=true,body :=
 (.seq (.region [
⟨some 4,.move (.c (.int .i64 0)),none,0,[]⟩] false [0,1] []) (.seq (.region [
⟨some 6,.move (.t 0),none,0,[]⟩,
⟨some 7,.len 1 (.t 6),none,1,[]⟩,
⟨some 8,.move (.c (.int .i64 0)),none,2,[]⟩] false [0,1,7,8] []) (.seq (.block 0 (.seq (.keep [0,1,7,8] [] (.loop B128x0)) (.keep [] [] .skip))) (.keep [] [] (.seq (.region [
⟨some 4,.move (.c (.int .i64 (-1))),none,0,[]⟩] false [4] []) (.keep [4] [] .ret)))))) }
theorem ok128:fnSoundB Go.Proofs.Tryz.prog 128 F128=true:=by decide +kernel
def B129x0:LCode :=
 (.seq (.region [
⟨some 64,.bin .lss (.t 63) (.t 62),none,0,[]⟩] false [1,4,11,61,62,63,64] []) (.seq (.cond (.t 64) (.keep [1,4,11,61,62,63] [] .skip) (.keep [] [] (.exit 1))) (.keep [1,4,11,61,62,63] [] (.seq (.block 2 (.seq (.region [
⟨some 65,.indexAddr 5 (.t 61) (.t 63),none,0,[]⟩,
⟨some 66,.load 5 true (.t 65),none,1,[]⟩,
⟨some 13,.alloc false 13 [.p (.str []),.p (.str []),.p (.str []),.p (.list []),.p (.list [])] [],none,2,[]⟩,
⟨none,.store 5 true (.t 13) (.t 66),none,3,[]⟩] false [1,4,11,13,61,62,63] [13]) (.seq (.region [
⟨some 67,.load 1 false (.t 4),none,0,[]⟩,
⟨some 68,.load 5 true (.t 13),none,1,[]⟩,
⟨some 69,.move (.t 1),none,2,[]⟩,
⟨some 70,.bin .add (.t 69) (.c (.int .i64 1)),none,3,[]⟩,
⟨some 71,.move (.t 11),none,4,[]⟩,
⟨some 72,.callv (.t 67) [(.t 68,.as),(.t 70,.as),(.t 71,.as)],none,5,[]⟩,
⟨some 73,.un .not (.t 72),none,6,[]⟩] false [1,4,11,61,62,63,73] []) (.seq (.cond (.t 73) (.seq (.region [
⟨some 8,.move (.c (.bool false)),none,0,[]⟩] false [8] []) (.keep [8] [] .ret)) (.keep [1,4,11,61,62,63] [] .skip)) (.keep [1,4,11,61,62,63] [] .skip))))) (.keep [1,4,11,61,62,63] [] (.seq (.region [
⟨some 74,.bin .add (.t 63) (.c (.int .i64 1)),none,0,[]⟩,
⟨some 63,.move (.t 74),none,1,[]⟩] false [1,4,11,61,62,63] []) (.keep [1,4,11,61,62,63] [] .skip)))))))
def F129:LFunc:={ nparams:=5,results:=[.tmp 8],pure:=false,body :=
 (.seq (.region [
⟨some 5,.box false 5 (.t 0),none,0,[]⟩,
⟨some 8,.move (.c (.bool false)),none,1,[]⟩] false [1,2,3,4,5] [5]) (.seq (.region [
⟨some 14,.fieldAddr 1 (.t 3),none,0,[]⟩,
⟨some 15,.load 1 false (.t 14),none,1,[]⟩,
⟨some 16,.move (.t 1),none,2,[]⟩,
⟨some 17,.maxI (.t 15) (.t 16),none,3,[]⟩,
⟨some 18,.fieldAddr 1 (.t 3),none,4,[]⟩,
⟨none,.store 1 false (.t 18) (.t 17),none,5,[]⟩] false [1,2,3,4,5] [5]) (.seq (.block 0 (.seq (.region [
⟨some 23,.fieldAddr 0 (.t 3),none,0,[]⟩,
⟨some 24,.load 1 false (.t 23),none,1,[]⟩,
⟨some 25,.eq .i false (.t 24) (.c (.int .i64 4096)),none,2,[]⟩,
⟨some 22,.move (.t 25),none,3,[]⟩] false [1,2,3,4,5,22] [5]) (.seq (.cond (.t 22) (.seq (.region [
⟨some 26,.fieldAddr 2 (.t 3),none,0,[]⟩,
⟨none,.store 1 false (.t 26) (.c (.int .i64 12)),none,1,[]⟩] false [1,2,3,4,5] [5]) (.keep [1,2,3,4,5] [5] .skip)) (.seq (.region [
⟨some 28,.move (.t 1),none,0,[]⟩,
⟨some 29,.bin .gtr (.t 28) (.c (.int .i64 64)),none,1,[]⟩,
⟨some 27,.move (.t 29),none,2,[]⟩] false [1,2,3,4,5,27] [5]) (.seq (.cond (.t 27) (.seq (.region [
⟨some 30,.fieldAddr 2 (.t 3),none,0,[]⟩,
⟨none,.store 1 false (.t 30) (.c (.int .i64 11)),none,1,[]⟩] false [1,2,3,4,5] [5]) (.keep [1,2,3,4,5] [5] .skip)) (.seq (.region [
⟨some 19,.load 5 true (.t 5),none,0,[]⟩,
⟨some 20,.pcall 130 [(.t 19,.as)],none,1,[]⟩,
⟨some 21,.fieldAddr 2 (.t 3),none,2,[]⟩,
⟨none,.store 1 false (.t 21) (.t 20),none,3,[]⟩] false [1,2,3,4,5] [5]) (.keep [1,2,3,4,5] [5] .skip))) (.keep [1,2,3,4,5] [5] .skip)))) (.keep [1,2,3,4,5] [5] .skip)))) (.keep [1,2,3,4,5] [5] (.seq (.region [
⟨some 32,.move (.t 2),none,0,[]⟩,
⟨some 33,.fieldAddr 1 (.t 5),none,1,[]⟩,
⟨some 34,.load 1 false (.t 33),none,2,[]⟩,
⟨some 35,.lookup 2 (.agg []) true (.t 32) (.t 34),none,3,[]⟩,
⟨some 31,.move (.t 35),none,4,[]⟩,
⟨some 36,.extract (.t 31) 0,none,5,[]⟩,
⟨some 37,.extract (.t 31) 1,none,6,[]⟩,
⟨some 9,.alloc false 9 [] [],none,7,[]⟩,
⟨none,.store 0 true (.t 9) (.t 36),none,8,[]⟩,
⟨some 10,.move (.t 37),none,9,[]⟩] false [1,2,3,4,5,10] [5]) (.seq (.region [
⟨some 38,.fieldAddr 2 (.t 3),none,0,[]⟩,
⟨some 39,.load 1 false (.t 38),none,1,[]⟩,
⟨some 40,.eq .i false (.t 39) (.c (.int .i64 0)),none,2,[]⟩,
⟨some 41,.move (.t 40),none,3,[]⟩,
⟨some 42,.move (.t 10),some (41,true),4,[]⟩,
⟨some 43,.pick (.t 41) (.t 42) (.c (.bool false)),none,5,[]⟩] false [1,2,3,4,5,43] [5]) (.seq (.cond (.t 43) (.seq (.region [
⟨some 44,.fieldAddr 2 (.t 3),none,0,[]⟩,
⟨none,.store 1 false (.t 44) (.c (.int .i64 10)),none,1,[]⟩] false [1,2,3,4,5] [5]) (.keep [1,2,3,4,5] [5] .skip)) (.keep [1,2,3,4,5] [5] .skip)) (.keep [1,2,3,4,5] [5] (.seq (.region [
⟨some 45,.fieldAddr 2 (.t 3),none,0,[]⟩,
⟨some 46,.load 1 false (.t 45),none,1,[]⟩,
⟨some 47,.eq .i true (.t 46) (.c (.int .i64 0)),none,2,[]⟩] false [1,2,3,4,5,47] [5]) (.seq (.cond (.t 47) (.seq (.region [
⟨some 8,.move (.c (.bool false)),none,0,[]⟩] false [8] []) (.keep [8] [] .ret)) (.keep [1,2,3,4,5] [5] .skip)) (.keep [1,2,3,4,5] [5] (.seq (.region [
⟨some 48,.fieldAddr 1 (.t 5),none,0,[]⟩,
⟨some 49,.load 1 false (.t 48),none,1,[]⟩,
⟨some 50,.eq .s true (.t 49) (.c (.str [])),none,2,[]⟩] false [1,2,3,4,5,50] [5]) (.seq (.cond (.t 50) (.seq (.region [
⟨some 51,.move (.t 2),none,0,[]⟩,
⟨some 52,.fieldAddr 1 (.t 5),none,1,[]⟩,
⟨some 53,.load 1 false (.t 52),none,2,[]⟩,
⟨some 54,.build [] [],none,3,[]⟩,
⟨none,.mapUpdate 2 (.t 51) (.t 53) (.t 54),none,4,[]⟩] false [1,3,4,5] [5]) (.keep [1,3,4,5] [5] .skip)) (.keep [1,3,4,5] [5] .skip)) (.keep [1,3,4,5] [5] (.seq (.region [
⟨some 55,.fieldAddr 0 (.t 3),none,0,[]⟩,
⟨some 56,.load 1 false (.t 55),none,1,[]⟩,
⟨some 57,.bin .add (.t 56) (.c (.int .i64 1)),none,2,[]⟩,
⟨some 58,.fieldAddr 0 (.t 3),none,3,[]⟩,
⟨none,.store 1 false (.t 58) (.t 57),none,4,[]⟩] false [1,4,5] [5]) (.seq (.region [
⟨some 59,.makeMap true 59,none,0,[]⟩,
⟨some 11,.move (.t 59),none,1,[]⟩] false [1,4,5,11] [5]) (.seq (.region [
⟨some 60,.fieldAddr 4 (.t 5),none,0,[]⟩,
⟨some 61,.load 1 false (.t 60),none,1,[]⟩,
⟨some 62,.len 1 (.t 61),none,2,[]⟩,
⟨some 63,.move (.c (.int .i64 0)),none,3,[]⟩] false [1,4,11,61,62,63] []) (.seq (.block 1 (.seq (.keep [1,4,11,61,62,63] [] (.loop B129x0)) (.keep [] [] .skip))) (.keep [] [] (.seq (.region [
⟨some 8,.move (.c (.bool true)),none,0,[]⟩] false [8] []) (.keep [8] [] .ret))))))))))))))))))))) }
theorem ok129:fnSoundB Go.Proofs.Tryz.prog 129 F129=true:=by decide +kernel
def F130:LFunc:={ nparams:=1,results:=[.tmp 2],pure:=true,body :=
 (.seq (.region [
⟨some 1,.box false 1 (.t 0),none,0,[]⟩,
⟨some 2,.move (.c (.int .i64 0)),none,1,[]⟩] false [1] [1]) (.seq (.block 0 (.seq (.region [
⟨some 6,.fieldAddr 0 (.t 1),none,0,[]⟩,
⟨some 7,.load 1 false (.t 6),none,1,[]⟩,
⟨some 8,.pcall 68 [(.t 7,.as)],none,2,[]⟩,
⟨some 9,.un .not (.t 8),none,3,[]⟩,
⟨some 5,.move (.t 9),none,4,[]⟩] false [1,5] [1]) (.seq (.cond (.t 5) (.seq (.region [
⟨some 2,.move (.c (.int .i64 7)),none,0,[]⟩] false [2] []) (.keep [2] [] .ret)) (.seq (.region [
⟨some 11,.fieldAddr 1 (.t 1),none,0,[]⟩,
⟨some 12,.load 1 false (.t 11),none,1,[]⟩,
⟨some 13,.pcall 70 [(.t 12,.as)],none,2,[]⟩,
⟨some 14,.un .not (.t 13),none,3,[]⟩,
⟨some 15,.move (.t 14),none,4,[]⟩,
⟨some 16,.fieldAddr 2 (.t 1),some (15,false),5,[]⟩,
⟨some 17,.load 1 false (.t 16),some (15,false),6,[]⟩,
⟨some 18,.pcall 70 [(.t 17,.as)],some (15,false),7,[]⟩,
⟨some 19,.un .not (.t 18),some (15,false),8,[]⟩,
⟨some 20,.pick (.t 15) (.c (.bool true)) (.t 19),none,9,[]⟩,
⟨some 10,.move (.t 20),none,10,[]⟩] false [1,10] [1]) (.seq (.cond (.t 10) (.seq (.region [
⟨some 2,.move (.c (.int .i64 3)),none,0,[]⟩] false [2] []) (.keep [2] [] .ret)) (.keep [1] [1] .skip)) (.keep [1] [1] .skip)))) (.keep [1] [1] .skip)))) (.keep [1] [1] (.seq (.region [
⟨some 22,.fieldAddr 3 (.t 1),none,0,[]⟩,
⟨some 23,.load 1 false (.t 22),none,1,[]⟩,
⟨some 24,.pcall 71 [(.t 23,.as)],none,2,[]⟩,
⟨some 21,.move (.t 24),none,3,[]⟩,
⟨some 25,.extract (.t 21) 0,none,4,[]⟩,
⟨some 26,.extract (.t 21) 1,none,5,[]⟩,
⟨some 3,.move (.t 25),none,6,[]⟩,
⟨some 4,.move (.t 26),none,7,[]⟩] false [4] []) (.seq (.region [
⟨some 27,.move (.t 4),none,0,[]⟩,
⟨some 2,.move (.t 27),none,1,[]⟩] false [2] []) (.keep [2] [] .ret)))))) }
theorem ok130:fnSoundB Go.Proofs.Tryz.prog 130 F130=true:=by decide +kernel
def B107x0:LCode :=
 (.seq (.region [
⟨some 9,.bin .lss (.t 8) (.t 7),none,0,[]⟩] false [0,1,7,8,9] []) (.seq (.cond (.t 9) (.keep [0,1,7,8] [] .skip) (.keep [] [] (.exit 0))) (.keep [0,1,7,8] [] (.seq (.block 1 (.seq (.region [
⟨some 10,.move (.t 8),none,0,[]⟩,
⟨some 5,.move (.t 10),none,1,[]⟩] false [0,1,5,7,8] []) (.seq (.region [
⟨some 11,.move (.t 1),none,0,[]⟩,
⟨some 12,.move (.t 0),none,1,[]⟩,
⟨some 13,.move (.t 5),none,2,[]⟩,
⟨some 14,.indexAddr 1 (.t 12) (.t 13),none,3,[]⟩,
⟨some 15,.load 1 false (.t 14),none,4,[]⟩,
⟨some 16,.callv (.t 11) [(.t 15,.as)],none,5,[]⟩] false [0,1,5,7,8,16] []) (.seq (.cond (.t 16) (.seq (.region [
⟨some 17,.move (.t 5),none,0,[]⟩,
⟨some 4,.move (.t 17),none,1,[]⟩] false [4] []) (.keep [4] [] .ret)) (.keep [0,1,7,8] [] .skip)) (.keep [0,1,7,8] [] .skip))))) (.keep [0,1,7,8] [] (.seq (.region [
⟨some 18,.bin .add (.t 8) (.c (.int .i64 1)),none,0,[]⟩,
⟨some 8,.move (.t 18),none,1,[]⟩] false [0,1,7,8] []) (.keep [0,1,7,8] [] .skip)))))))
def F107:LFunc:={ nparams:=2,results:=[.tmp 4],pure:=false,body :=
 (.seq (.region [
⟨some 4,.move (.c (.int .i64 0)),none,0,[]⟩] false [0,1] []) (.seq (.region [
⟨some 6,.move (.t 0),none,0,[]⟩,
⟨some 7,.len 1 (.t 6),none,1,[]⟩,
⟨some 8,.move (.c (.int .i64 0)),none,2,[]⟩] false [0,1,7,8] []) (.seq (.block 0 (.seq (.keep [0,1,7,8] [] (.loop B107x0)) (.keep [] [] .skip))) (.keep [] [] (.seq (.region [
⟨some 4,.move (.c (.int .i64 (-1))),none,0,[]⟩] false [4] []) (.keep [4] [] .ret)))))) }
theorem ok107:fnSoundB Go.Proofs.Tryz.prog 107 F107=true:=by decide +kernel
def B127x0:LCode :=
 (.seq (.region [
⟨some 9,.bin .lss (.t 8) (.t 7),none,0,[]⟩] false [0,1,7,8,9] []) (.seq (.cond (.t 9) (.keep [0,1,7,8] [] .skip) (.keep [] [] (.exit 0))) (.keep [0,1,7,8] [] (.seq (.block 1 (.seq (.region [
⟨some 10,.move (.t 8),none,0,[]⟩,
⟨some 5,.move (.t 10),none,1,[]⟩] false [0,1,5,7,8] []) (.seq (.region [
⟨some 11,.move (.t 1),none,0,[]⟩,
⟨some 12,.move (.t 0),none,1,[]⟩,
⟨some 13,.move (.t 5),none,2,[]⟩,
⟨some 14,.indexAddr 2 (.t 12) (.t 13),none,3,[]⟩,
⟨some 15,.load 2 true (.t 14),none,4,[]⟩,
⟨some 16,.callv (.t 11) [(.t 15,.as)],none,5,[]⟩] false [0,1,5,7,8,16] []) (.seq (.cond (.t 16) (.seq (.region [
⟨some 17,.move (.t 5),none,0,[]⟩,
⟨some 4,.move (.t 17),none,1,[]⟩] false [4] []) (.keep [4] [] .ret)) (.keep [0,1,7,8] [] .skip)) (.keep [0,1,7,8] [] .skip))))) (.keep [0,1,7,8] [] (.seq (.region [
⟨some 18,.bin .add (.t 8) (.c (.int .i64 1)),none,0,[]⟩,
⟨some 8,.move (.t 18),none,1,[]⟩] false [0,1,7,8] []) (.keep [0,1,7,8] [] .skip)))))))
def F127:LFunc:={ nparams:=2,results:=[.tmp 4],pure:=false,body :=
 (.seq (.region [
⟨some 4,.move (.c (.int .i64 0)),none,0,[]⟩] false [0,1] []) (.seq (.region [
⟨some 6,.move (.t 0),none,0,[]⟩,
⟨some 7,.len 1 (.t 6),none,1,[]⟩,
⟨some 8,.move (.c (.int .i64 0)),none,2,[]⟩] false [0,1,7,8] []) (.seq (.block 0 (.seq (.keep [0,1,7,8] [] (.loop B127x0)) (.keep [] [] .skip))) (.keep [] [] (.seq (.region [
⟨some 4,.move (.c (.int .i64 (-1))),none,0,[]⟩] false [4] []) (.keep [4] [] .ret)))))) }
theorem ok127:fnSoundB Go.Proofs.Tryz.prog 127 F127=true:=by decide +kernel
end Go.TA.Tryz


end
