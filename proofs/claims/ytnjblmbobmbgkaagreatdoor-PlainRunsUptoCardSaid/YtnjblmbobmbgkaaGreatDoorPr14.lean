/- Part 14 of 15 of a proof; joined from PrsOpsPB, PrsDoE, PrsMDo, PrsMDo2, PrsMDo3, PrsMRun, PrsMRows, PrsStepsRows, PrsCheck13, PrsVisit, PrsVisitE, PrsBuildE, PrsFlatA, PrsFlat. Rows that are right for the document's answer are right for the program. -/
import Derived.Test.YtnjblmbobmbgkaaGreatDoorPr1
import Derived.Test.YtnjblmbobmbgkaaGreatDoorPr13
import Derived.Test.YtnjblmbobmbgkaaGreatDoorPr7
import Derived.Test.YtnjblmbobmbgkaaGreatDoorPr12
import Derived.Test.YtnjblmbobmbgkaaGreatDoorPr6
set_option linter.unusedSimpArgs false
set_option linter.unusedVariables false
section
/- What is wrong with an operation: the program. -/
set_option maxRecDepth 100000
set_option maxHeartbeats 8000000
namespace Go.TA.Tryz
theorem opsP_run (x:GOp) (g:List AObj) {n:Nat} (hl:x.attrs.length<n) (hb:x.attrs.length≤1048576):acall T (n+38) 41 [.p (.agg x.pv)] g=some (.p (.int .i64 (opErr x)),g):=by
 rw [acall_code T41,run_pure rfl rfl rfl]
 have ha:=fun (k:Int) g=>handle_run k g (n+36)
 have tg:=fun s g=>tag_run s g (n+1)
 have nm:=fun s g=>name_run s g (n+1)
 have fi:=fun s g=>fits_run s g (n+36)
 have at_:=fun g=>ap_run x.attrs g (n:=n) (by omega)
 by_cases k1:x.kind<1
 ·have e:opErr x=6:=by simp [opErr,tagBad,nameBad,k1]
  rw [e]
  simp -implicitDefEqProofs (disch:=omega) only [Rx,simprocAttr,F41,GOp.pv,attrsPV,k1]
 by_cases k7:7<x.kind
 ·have e:opErr x=6:=by simp [opErr,tagBad,nameBad,k1,k7]
  rw [e]
  simp -implicitDefEqProofs (disch:=omega) only [Rx,simprocAttr,F41,GOp.pv,attrsPV,k1,k7]
 cases hnode:hOk x.node
 ·have e:opErr x=5:=by simp [opErr,tagBad,nameBad,k1,k7,hnode]
  rw [e]
  simp -implicitDefEqProofs (disch:=omega) only [Rx,simprocAttr,F41,GOp.pv,attrsPV,ha,k1,k7,hnode]
 cases hup:hOk x.up
 ·have e:opErr x=5:=by simp [opErr,tagBad,nameBad,k1,k7,hnode,hup]
  rw [e]
  simp -implicitDefEqProofs (disch:=omega) only [Rx,simprocAttr,F41,GOp.pv,attrsPV,ha,k1,k7,hnode,hup]
 cases hbefore:hOk x.before
 ·have e:opErr x=5:=by simp [opErr,tagBad,nameBad,k1,k7,hnode,hup,hbefore]
  rw [e]
  simp -implicitDefEqProofs (disch:=omega) only [Rx,simprocAttr,F41,GOp.pv,attrsPV,ha,k1,k7,hnode,hup,hbefore]
 have us:=fun g=>used_run x (by omega) (by omega) g (n+36)
 have hf:=fine_of k1 k7 hnode hup hbefore
 have sa:=fun g=>opsame_run x (usedOp x) hf (used_fine (by omega) (by omega) hf) g (n:=n+34) (by omega) hb
 rw [same_used (by omega) (by omega) hf] at sa
 generalize usedOp x=u at us sa
 simp only [GOp.pv,attrsPV] at us sa
 cases hn:noneB x
 rotate_left
 ·rw [hn] at sa
  have e:opErr x=2:=by simp [opErr,tagBad,nameBad,k1,k7,hnode,hup,hbefore,hn]
  rw [e]
  simp -implicitDefEqProofs (disch:=omega) only [Rx,simprocAttr,F41,GOp.pv,attrsPV,ha,us,sa,k1,k7,hnode,hup,hbefore]
 rw [hn] at sa
 cases e1:(x.kind==1)
 rotate_left
 ·have e1':x.kind=1:=by simpa using e1
  have e5:(x.kind==5)=false:=by rw [e1'];rfl
  have e6:(x.kind==6)=false:=by rw [e1'];rfl
  cases t1:namedB false x.tag
  ·have e:opErr x=7:=by simp [opErr,tagBad,nameBad,k1,k7,hnode,hup,hbefore,hn,e1,e5,e6,t1]
   rw [e]
   simp -implicitDefEqProofs (disch:=omega) only [Rx,simprocAttr,F41,GOp.pv,attrsPV,ha,us,sa,tg,k1,k7,hnode,hup,hbefore,e1,t1]
  by_cases l1:(x.key.length:Int)≤65536
  rotate_left
  ·have l1':65536<(x.key.length:Int):=by omega
   have e:opErr x=3:=by simp [opErr,tagBad,nameBad,k1,k7,hnode,hup,hbefore,hn,e1,e5,e6,t1,l1,l1']
   rw [e]
   simp -implicitDefEqProofs (disch:=omega) only [Rx,simprocAttr,F41,GOp.pv,attrsPV,ha,us,sa,tg,fi,k1,k7,hnode,hup,hbefore,e1,e5,e6,t1,l1]
  have l1':¬ 65536<(x.key.length:Int):=by omega
  by_cases l2:(x.text.length:Int)≤65536
  rotate_left
  ·have l2':65536<(x.text.length:Int):=by omega
   have e:opErr x=3:=by simp [opErr,tagBad,nameBad,k1,k7,hnode,hup,hbefore,hn,e1,e5,e6,t1,l1,l1',l2,l2']
   rw [e]
   simp -implicitDefEqProofs (disch:=omega) only [Rx,simprocAttr,F41,GOp.pv,attrsPV,ha,us,sa,tg,fi,k1,k7,hnode,hup,hbefore,e1,e5,e6,t1,l1,l2]
  have l2':¬ 65536<(x.text.length:Int):=by omega
  have e:opErr x=attrsErr x.attrs:=by simp [opErr,tagBad,nameBad,k1,k7,hnode,hup,hbefore,hn,e1,e5,e6,t1,l1,l1',l2,l2']
  rw [e]
  simp -implicitDefEqProofs (disch:=omega) only [Rx,simprocAttr,F41,GOp.pv,attrsPV,ha,us,sa,tg,fi,at_,k1,k7,hnode,hup,hbefore,e1,e5,e6,t1,l1,l2]
 cases e5:(x.kind==5)
 rotate_left
 ·cases t2:namedB true x.name
  ·have e:opErr x=8:=by simp [opErr,tagBad,nameBad,k1,k7,hnode,hup,hbefore,hn,e1,e5,t2]
   rw [e]
   simp -implicitDefEqProofs (disch:=omega) only [Rx,simprocAttr,F41,GOp.pv,attrsPV,ha,us,sa,nm,k1,k7,hnode,hup,hbefore,e1,e5,t2]
  by_cases l1:(x.key.length:Int)≤65536
  rotate_left
  ·have l1':65536<(x.key.length:Int):=by omega
   have e:opErr x=3:=by simp [opErr,tagBad,nameBad,k1,k7,hnode,hup,hbefore,hn,e1,e5,t2,l1,l1']
   rw [e]
   simp -implicitDefEqProofs (disch:=omega) only [Rx,simprocAttr,F41,GOp.pv,attrsPV,ha,us,sa,nm,fi,k1,k7,hnode,hup,hbefore,e1,e5,t2,l1]
  have l1':¬ 65536<(x.key.length:Int):=by omega
  by_cases l2:(x.text.length:Int)≤65536
  rotate_left
  ·have l2':65536<(x.text.length:Int):=by omega
   have e:opErr x=3:=by simp [opErr,tagBad,nameBad,k1,k7,hnode,hup,hbefore,hn,e1,e5,t2,l1,l1',l2,l2']
   rw [e]
   simp -implicitDefEqProofs (disch:=omega) only [Rx,simprocAttr,F41,GOp.pv,attrsPV,ha,us,sa,nm,fi,k1,k7,hnode,hup,hbefore,e1,e5,t2,l1,l2]
  have l2':¬ 65536<(x.text.length:Int):=by omega
  have e:opErr x=attrsErr x.attrs:=by simp [opErr,tagBad,nameBad,k1,k7,hnode,hup,hbefore,hn,e1,e5,t2,l1,l1',l2,l2']
  rw [e]
  simp -implicitDefEqProofs (disch:=omega) only [Rx,simprocAttr,F41,GOp.pv,attrsPV,ha,us,sa,nm,fi,at_,k1,k7,hnode,hup,hbefore,e1,e5,t2,l1,l2]
 cases e6:(x.kind==6)
 rotate_left
 ·cases t2:namedB true x.name
  ·have e:opErr x=8:=by simp [opErr,tagBad,nameBad,k1,k7,hnode,hup,hbefore,hn,e1,e5,e6,t2]
   rw [e]
   simp -implicitDefEqProofs (disch:=omega) only [Rx,simprocAttr,F41,GOp.pv,attrsPV,ha,us,sa,nm,k1,k7,hnode,hup,hbefore,e1,e5,e6,t2]
  by_cases l1:(x.key.length:Int)≤65536
  rotate_left
  ·have l1':65536<(x.key.length:Int):=by omega
   have e:opErr x=3:=by simp [opErr,tagBad,nameBad,k1,k7,hnode,hup,hbefore,hn,e1,e5,e6,t2,l1,l1']
   rw [e]
   simp -implicitDefEqProofs (disch:=omega) only [Rx,simprocAttr,F41,GOp.pv,attrsPV,ha,us,sa,nm,fi,k1,k7,hnode,hup,hbefore,e1,e5,e6,t2,l1]
  have l1':¬ 65536<(x.key.length:Int):=by omega
  by_cases l2:(x.text.length:Int)≤65536
  rotate_left
  ·have l2':65536<(x.text.length:Int):=by omega
   have e:opErr x=3:=by simp [opErr,tagBad,nameBad,k1,k7,hnode,hup,hbefore,hn,e1,e5,e6,t2,l1,l1',l2,l2']
   rw [e]
   simp -implicitDefEqProofs (disch:=omega) only [Rx,simprocAttr,F41,GOp.pv,attrsPV,ha,us,sa,nm,fi,k1,k7,hnode,hup,hbefore,e1,e5,e6,t2,l1,l2]
  have l2':¬ 65536<(x.text.length:Int):=by omega
  have e:opErr x=attrsErr x.attrs:=by simp [opErr,tagBad,nameBad,k1,k7,hnode,hup,hbefore,hn,e1,e5,e6,t2,l1,l1',l2,l2']
  rw [e]
  simp -implicitDefEqProofs (disch:=omega) only [Rx,simprocAttr,F41,GOp.pv,attrsPV,ha,us,sa,nm,fi,at_,k1,k7,hnode,hup,hbefore,e1,e5,e6,t2,l1,l2]
 by_cases l1:(x.key.length:Int)≤65536
 rotate_left
 ·have l1':65536<(x.key.length:Int):=by omega
  have e:opErr x=3:=by simp [opErr,tagBad,nameBad,k1,k7,hnode,hup,hbefore,hn,e1,e5,e6,l1,l1']
  rw [e]
  simp -implicitDefEqProofs (disch:=omega) only [Rx,simprocAttr,F41,GOp.pv,attrsPV,ha,us,sa,fi,k1,k7,hnode,hup,hbefore,e1,e5,e6,l1]
 have l1':¬ 65536<(x.key.length:Int):=by omega
 by_cases l2:(x.text.length:Int)≤65536
 rotate_left
 ·have l2':65536<(x.text.length:Int):=by omega
  have e:opErr x=3:=by simp [opErr,tagBad,nameBad,k1,k7,hnode,hup,hbefore,hn,e1,e5,e6,l1,l1',l2,l2']
  rw [e]
  simp -implicitDefEqProofs (disch:=omega) only [Rx,simprocAttr,F41,GOp.pv,attrsPV,ha,us,sa,fi,k1,k7,hnode,hup,hbefore,e1,e5,e6,l1,l2]
 have l2':¬ 65536<(x.text.length:Int):=by omega
 have e:opErr x=attrsErr x.attrs:=by simp [opErr,tagBad,nameBad,k1,k7,hnode,hup,hbefore,hn,e1,e5,e6,l1,l1',l2,l2']
 rw [e]
 simp -implicitDefEqProofs (disch:=omega) only [Rx,simprocAttr,F41,GOp.pv,attrsPV,ha,us,sa,fi,at_,k1,k7,hnode,hup,hbefore,e1,e5,e6,l1,l2]
end Go.TA.Tryz


end
section
/- What an operation does, if it may be. -/
namespace Go.TA.Tryz
noncomputable def doE (S:MS) (x:GOp):Int × MS:=if opErr x=0 then doM S x else (opErr x,S)
section
variable {R:Nat} {S:MS}
theorem doE_ok (hS:S.Ok R) (x:GOp) (hx:x.attrs.length≤1048577):(doE S x).2.Ok (R+R+1)∧S.N≤(doE S x).2.N∧(doE S x).2.N≤S.N+1:=by
 unfold doE
 split
 ·exact doM_ok hS x hx
 ·exact ⟨hS.more (by omega),by simp,by simp⟩
end
noncomputable def runM:MS→List GOp→Nat→Nat × Int × MS
 | S,[],i=>(i,0,S)
 | S,x::l,i=>if (doE S x).1=0 then runM (doE S x).2 l (i+1) else (i,(doE S x).1,(doE S x).2)
def bnd (R:Nat):Nat→Nat
 | 0=>R
 | k+1=>bnd R k+bnd R k+1
theorem bnd_mono (R:Nat):∀ {i j:Nat},i≤j→bnd R i≤bnd R j:=by
  intro i j h
  induction j with
  | zero => have : i = 0 := by omega
            subst this;exact Nat.le_refl _
  | succ j ih =>
    by_cases e:i=j+1
    · subst e;exact Nat.le_refl _
    · have:=ih (by omega)
      simp only [bnd];omega
theorem runM_drop {L:List GOp} {i:Nat} {x:GOp} (hx:L[i]? = some x) (S:MS):runM S (L.drop i) i=if (doE S x).1=0 then runM (doE S x).2 (L.drop (i+1)) (i+1) else (i,(doE S x).1,(doE S x).2):=by
 have:L.drop i=x::L.drop (i+1):=by rw [List.drop_eq_getElem?_toList_append,hx];rfl
 rw [this,runM]
end Go.TA.Tryz


end
section
/- What an operation does to a machine: the functions change, insert, move. -/
set_option maxRecDepth 100000
set_option maxHeartbeats 8000000
namespace Go.TA.Tryz
theorem change_run {R:Nat} {S:MS} (hS:S.Ok R) (av:Nat→AV) (rest:List AObj) (h:Nat) (hh:h<S.N) (x:GOp) {n:Nat} (hn:1048580<n) :
  acall T (n+5) 47 [MP,.ptr true 0 7 S.N h 0,.p (.agg x.pv)] (machG S.N S.st av rest)=some (.p (.int .i64 (changeM S h x).1),machG S.N (changeM S h x).2.st av rest):=by
 have len1:∀ st av,(rowsAV S.N st av).length=S.N:=fun _ _=>rowsAV_len
 have hgh:(rowsAV S.N S.st av).getD h []=nodeAV (S.st h) (av h):=rowsAV_get hh
 have ha:=hS.attrs h hh
 have hw:=fun g=>with_run (S.st h).attrs x.name x.text ha g (n:=n+2) (by omega)
 have ho:=fun g=>without_run (S.st h).attrs x.name ha g (n:=n) (by omega)
 have hset:∀ (t:Bs) (a:List Attr),(rowsAV S.N S.st av).set h [.p (.bool (S.st h).live),.p (.int .i64 (S.st h).up),av h,.p (.str (S.st h).tag),.p (.str (S.st h).key),.p (.str t),.p (.list (a.map Attr.pv))]=rowsAV S.N (upd S.st h { S.st h with text:=t,attrs:=a }) av:=fun t a=>by
  have:=rowsAV_set (N:=S.N) (st:=S.st) (av:=av) hh { S.st h with text:=t,attrs:=a } (av h)
  simp only [nodeAV] at this
  rw [this]
  refine rowsAV_congr fun k hk=>⟨rfl, ?_⟩
  by_cases e:k=h
  ·subst e;rw [upd_at]
  ·rw [upd_ne e]
 have wl:((withA (S.st h).attrs x.name x.text).map Attr.pv).length=(withA (S.st h).attrs x.name x.text).length:=by simp
 have hset1:=fun a=>hset (S.st h).text a
 have hset2:=fun t=>hset t (S.st h).attrs
 rw [acall_code T47,run_code rfl rfl]
 unfold changeM
 simp only [nodeAV] at hgh
 by_cases k5:x.kind=5
 ·rw [if_pos k5]
  have e5:(x.kind==5)=true:=by simpa using k5
  by_cases h64:64<((withA (S.st h).attrs x.name x.text).length:Int)
  ·rw [if_pos h64]
   simp only [machG]
   simp -implicitDefEqProofs (disch:=omega) only [Rx,simprocAttr,F47,GOp.pv,attrsPV,k5,len1,hgh,hw,wl,h64]
  ·rw [if_neg h64]
   simp only [machG,setM]
   simp -implicitDefEqProofs (disch:=omega) only [Rx,simprocAttr,F47,GOp.pv,attrsPV,k5,len1,hgh,hw,wl,h64,hset1]
 rw [if_neg k5]
 have e5:(x.kind==5)=false:=by simpa using k5
 by_cases k6:x.kind=6
 ·rw [if_pos k6]
  have e6:(x.kind==6)=true:=by simpa using k6
  by_cases hlt:(withoutA (S.st h).attrs x.name).length<(S.st h).attrs.length
  ·rw [if_pos hlt]
   have ed:decide ((withoutA (S.st h).attrs x.name).length<(S.st h).attrs.length)=true:=by simpa using hlt
   simp only [ed] at ho
   simp only [machG,setM]
   simp -implicitDefEqProofs (disch:=omega) only [Rx,simprocAttr,F47,GOp.pv,attrsPV,k6,len1,hgh,ho,hset1]
  ·rw [if_neg hlt]
   have ed:decide ((withoutA (S.st h).attrs x.name).length<(S.st h).attrs.length)=false:=by simpa using hlt
   simp only [ed] at ho
   simp only [machG]
   simp -implicitDefEqProofs (disch:=omega) only [Rx,simprocAttr,F47,GOp.pv,attrsPV,k6,len1,hgh,ho]
 rw [if_neg k6]
 have e6:(x.kind==6)=false:=by simpa using k6
 by_cases k7:x.kind=7
 ·rw [if_pos k7]
  have e7:(x.kind==7)=true:=by simpa using k7
  simp only [machG,textM]
  simp -implicitDefEqProofs (disch:=omega) only [Rx,simprocAttr,F47,GOp.pv,attrsPV,k7,len1,hgh,hset2]
 ·rw [if_neg k7]
  have e7:(x.kind==7)=false:=by simpa using k7
  simp only [machG]
  simp -implicitDefEqProofs (disch:=omega) only [Rx,simprocAttr,F47,GOp.pv,attrsPV,e5,e6,e7]
end Go.TA.Tryz


end
section
/- What an operation does to a machine: the functions insert, move, Do, Run. -/
set_option maxRecDepth 100000
set_option maxHeartbeats 8000000
namespace Go.TA.Tryz
theorem insertF_run {R:Nat} {S:MS} (hS:S.Ok R) (hN:S.N≤4194304) (av:Nat→AV) (rest:List AObj) (hM:MOk S.N av S.kd rest) (x:GOp) (hx0:x.node≠0) {n:Nat} (hn:S.N+R+3<n) :
  ∃ av' rest',acall T (n+3) 42 [MP,.p (.agg x.pv)] (machG S.N S.st av rest)=some (.p (.int .i64 (insertM S x).1),machG (insertM S x).2.N (insertM S x).2.st av' rest')∧MOk (insertM S x).2.N av' (insertM S x).2.kd rest'∧Fr S.N av rest (insertM S x).2.N av' rest':=by
 have len1:∀ st av,(rowsAV S.N st av).length=S.N:=fun _ _=>rowsAV_len
 have hlv:=fun h=>lives_run S av rest h (n+1)
 unfold insertM
 by_cases hl:(liveB S x.node && (liveB S x.up && liveB S x.before))=false
 ·rw [if_pos hl]
  refine ⟨av,rest, ?_,hM,Fr.refl _ _ _⟩
  rw [acall_code T42,run_code rfl rfl]
  cases a1:liveB S x.node
  ·simp only [machG] at hlv ⊢
   simp -implicitDefEqProofs (disch:=omega) only [Rx,simprocAttr,F42,GOp.pv,attrsPV,hlv,a1]
  cases a2:liveB S x.up
  ·simp only [machG] at hlv ⊢
   simp -implicitDefEqProofs (disch:=omega) only [Rx,simprocAttr,F42,GOp.pv,attrsPV,hlv,a1,a2]
  cases a3:liveB S x.before
  ·simp only [machG] at hlv ⊢
   simp -implicitDefEqProofs (disch:=omega) only [Rx,simprocAttr,F42,GOp.pv,attrsPV,hlv,a1,a2,a3]
  rw [a1,a2,a3] at hl;cases hl
 rw [if_neg hl]
 simp only [Bool.not_eq_false,Bool.and_eq_true] at hl
 obtain ⟨a1,a2,a3⟩:=hl
 obtain ⟨c,hc,hcN,hcl⟩:=live_nat a1
 obtain ⟨u,hu,huN,hul⟩:=live_nat a2
 obtain ⟨b,hb,hbN,hbl⟩:=live_nat a3
 have hlv1:=hlv x.node
 have hlv2:=hlv x.up
 have hlv3:=hlv x.before
 rw [a1] at hlv1
 rw [a2] at hlv2
 rw [a3] at hlv3
 have hgc:(rowsAV S.N S.st av).getD c []=nodeAV (S.st c) (av c):=rowsAV_get hcN
 have hgb:(rowsAV S.N S.st av).getD b []=nodeAV (S.st b) (av b):=rowsAV_get hbN
 have k1:(c:Int)<(S.N:Int):=by omega
 have k3:(b:Int)<(S.N:Int):=by omega
 have un:=under_run hS av rest c u huN (n:=n+1) (by omega)
 rw [hc] at hlv1 hx0 ⊢
 rw [hu] at hlv2 ⊢
 rw [hb] at hlv3 ⊢
 have uo:upOf S (c:Int)=(S.st c).up:=rfl
 have ub:upOf S (b:Int)=(S.st b).up:=rfl
 rw [uo,ub]
 simp only [Int.toNat_natCast]
 simp only [nodeAV] at hgc hgb
 by_cases h15:0≤(S.st c).up
 ·rw [if_pos h15]
  refine ⟨av,rest, ?_,hM,Fr.refl _ _ _⟩
  rw [acall_code T42,run_code rfl rfl]
  simp only [machG] at hlv1 hlv2 hlv3 ⊢
  simp -implicitDefEqProofs (disch:=omega) only [Rx,simprocAttr,F42,GOp.pv,attrsPV,hc,hu,hb,hlv1,hlv2,hlv3,len1,hgc,k1,h15]
 rw [if_neg h15]
 by_cases h17:underB S (u:Int) (c:Int)=true
 ·rw [if_pos h17]
  rw [h17] at un
  refine ⟨av,rest, ?_,hM,Fr.refl _ _ _⟩
  rw [acall_code T42,run_code rfl rfl]
  simp only [machG] at hlv1 hlv2 hlv3 un ⊢
  simp -implicitDefEqProofs (disch:=omega) only [Rx,simprocAttr,F42,GOp.pv,attrsPV,hc,hu,hb,hlv1,hlv2,hlv3,len1,hgc,k1,h15,un]
 rw [if_neg h17]
 simp only [Bool.not_eq_true] at h17
 rw [h17] at un
 by_cases h18:(b:Int)≠0∧(S.st b).up≠(u:Int)
 ·rw [if_pos h18]
  refine ⟨av,rest, ?_,hM,Fr.refl _ _ _⟩
  have e1:((b:Int)==0)=false:=by simpa using h18.1
  have e2:((S.st b).up==(u:Int))=false:=by simpa using h18.2
  rw [acall_code T42,run_code rfl rfl]
  simp only [machG] at hlv1 hlv2 hlv3 un ⊢
  simp -implicitDefEqProofs (disch:=omega) only [Rx,simprocAttr,F42,GOp.pv,attrsPV,hc,hu,hb,hlv1,hlv2,hlv3,len1,hgc,hgb,k1,k3,h15,un,e1,e2]
 rw [if_neg h18]
 have hbk:(b:Int)=0∨(b:Int) ∈ S.kd u:=by
  by_cases e:(b:Int)=0
  ·exact .inl e
  ·right
   by_cases e2:(S.st b).up=(u:Int)
   ·exact kid_in hS hbN e2
   ·exact absurd ⟨e,e2⟩ h18
 obtain ⟨av',rest',hp,hM',hfr⟩:=place_run hS hN av rest hM c u (b:Int) hcN huN hbk (n:=n) (by omega)
 refine ⟨av',rest', ?_,hM',hfr⟩
 simp only
 rw [show (placeM S c u (b:Int)).N=S.N from rfl]
 generalize (placeM S c u (b:Int)).st=st' at hp ⊢
 rw [acall_code T42,run_code rfl rfl]
 by_cases e:(b:Int)=0
 ·have e1:((b:Int)==0)=true:=by simpa using e
  simp only [machG] at hlv1 hlv2 hlv3 un hp ⊢
  simp -implicitDefEqProofs (disch:=omega) only [Rx,simprocAttr,F42,GOp.pv,attrsPV,hc,hu,hb,hlv1,hlv2,hlv3,len1,hgc,k1,h15,un,e1,hp]
 ·have e1:((b:Int)==0)=false:=by simpa using e
  have e2:((S.st b).up==(u:Int))=true:=by
   by_cases e2:(S.st b).up=(u:Int)
   ·simpa using e2
   ·exact absurd ⟨e,e2⟩ h18
  simp only [machG] at hlv1 hlv2 hlv3 un hp ⊢
  simp -implicitDefEqProofs (disch:=omega) only [Rx,simprocAttr,F42,GOp.pv,attrsPV,hc,hu,hb,hlv1,hlv2,hlv3,len1,hgc,hgb,k1,k3,h15,un,e1,e2,hp]
theorem moveF_run {R : Nat} {S : MS} (hS : S.Ok R) (hN : S.N ≤ 4194304) (av : Nat → AV) (rest : List AObj) (hM : MOk S.N av S.kd rest) (x : GOp) (hx0 : x.node ≠ 0) {n : Nat} (hn : S.N + R + 3 < n) :
    ∃ av' rest',acall T (n+5) 43 [MP,.p (.agg x.pv)] (machG S.N S.st av rest)=some (.p (.int .i64 (moveM S x).1),machG (moveM S x).2.N (moveM S x).2.st av' rest')∧MOk (moveM S x).2.N av' (moveM S x).2.kd rest'∧Fr S.N av rest (moveM S x).2.N av' rest':=by
  have len1:∀ st av,(rowsAV S.N st av).length=S.N:=fun _ _=>rowsAV_len
  have hlv:=fun h=>lives_run S av rest h (n+3)
  unfold moveM
  by_cases a1:liveB S x.node=false
  · rw [if_pos (by rw [a1];rfl)]
    refine ⟨av,rest, ?_,hM,Fr.refl _ _ _⟩
    rw [acall_code T43,run_code rfl rfl]
    simp only [machG] at hlv ⊢
    simp -implicitDefEqProofs (disch:=omega) only [Rx,simprocAttr,F43,GOp.pv,attrsPV,hlv,a1]
  simp only [Bool.not_eq_false] at a1
  obtain ⟨c,hc,hcN,hcl⟩:=live_nat a1
  have hgc:(rowsAV S.N S.st av).getD c []=nodeAV (S.st c) (av c):=rowsAV_get hcN
  have k1:(c:Int)<(S.N:Int):=by omega
  have hlv1:=hlv x.node
  have hlv3:=hlv x.before
  rw [a1] at hlv1
  simp only [nodeAV] at hgc
  by_cases a3:liveB S x.before=false
  · rw [if_pos (by rw [a1,a3];rfl)]
    rw [a3] at hlv3
    rw [hc] at hlv1
    refine ⟨av,rest, ?_,hM,Fr.refl _ _ _⟩
    rw [acall_code T43,run_code rfl rfl]
    simp only [machG] at hlv1 hlv3 ⊢
    simp -implicitDefEqProofs (disch:=omega) only [Rx,simprocAttr,F43,GOp.pv,attrsPV,hc,hlv1,hlv3,len1,hgc,k1]
  simp only [Bool.not_eq_false] at a3
  rw [if_neg (by rw [a1,a3];simp)]
  rw [a3] at hlv3
  obtain ⟨b,hb,hbN,hbl⟩:=live_nat a3
  have hgb:(rowsAV S.N S.st av).getD b []=nodeAV (S.st b) (av b):=rowsAV_get hbN
  have k3:(b:Int)<(S.N:Int):=by omega
  simp only [nodeAV] at hgb
  rw [hc] at hlv1 hx0 ⊢
  rw [hb] at hlv3 ⊢
  have uo:upOf S (c:Int)=(S.st c).up:=rfl
  have ub:upOf S (b:Int)=(S.st b).up:=rfl
  rw [uo,ub]
  simp only [Int.toNat_natCast]
  by_cases h16:(S.st c).up<0
  · rw [if_pos h16]
    refine ⟨av,rest, ?_,hM,Fr.refl _ _ _⟩
    rw [acall_code T43,run_code rfl rfl]
    simp only [machG] at hlv1 hlv3 ⊢
    simp -implicitDefEqProofs (disch:=omega) only [Rx,simprocAttr,F43,GOp.pv,attrsPV,hc,hb,hlv1,hlv3,len1,hgc,k1,h16]
  rw [if_neg h16]
  obtain ⟨u,hu,huN,hul,hkid⟩:=hS.up_nat hcN (by omega)
  rw [hu] at h16 hgc ⊢
  by_cases e0:(b:Int)=(c:Int)
  · rw [if_pos (.inl e0)]
    have q1:((b:Int)==(c:Int))=true:=by simpa using e0
    refine ⟨av,rest, ?_,hM,Fr.refl _ _ _⟩
    rw [acall_code T43,run_code rfl rfl]
    simp only [machG] at hlv1 hlv3 ⊢
    simp -implicitDefEqProofs (disch:=omega) only [Rx,simprocAttr,F43,GOp.pv,attrsPV,hc,hb,hlv1,hlv3,len1,hgc,k1,h16,q1]
  have q1:((b:Int)==(c:Int))=false:=by simpa using e0
  by_cases h18:(b:Int)≠0∧(S.st b).up≠(u:Int)
  · rw [if_pos (.inr h18)]
    have e1:((b:Int)==0)=false:=by simpa using h18.1
    have e2:((S.st b).up==(u:Int))=false:=by simpa using h18.2
    refine ⟨av,rest, ?_,hM,Fr.refl _ _ _⟩
    rw [acall_code T43,run_code rfl rfl]
    simp only [machG] at hlv1 hlv3 ⊢
    simp -implicitDefEqProofs (disch:=omega) only [Rx,simprocAttr,F43,GOp.pv,attrsPV,hc,hb,hlv1,hlv3,len1,hgc,hgb,k1,k3,h16,q1,e1,e2]
  rw [if_neg (fun h=>h.elim e0 h18)]
  obtain ⟨hT,hTup⟩:=hS.take hcN hcl
  have hTN:=takeM_N S c
  obtain ⟨av1,rest1,ht,hM1,hfr1⟩:=take_run hS hN av rest hM c hcN (n:=n) (by omega)
  rw [← hTN] at hM1
  have hbk:(b:Int)=0∨(b:Int) ∈ (takeM S c).kd u:=by
    by_cases e:(b:Int)=0
    · exact .inl e
    · right
      by_cases e2:(S.st b).up=(u:Int)
      · have hk:=kid_in hS hbN e2
        unfold takeM
        rw [if_neg (by omega),hu,Int.toNat_natCast]
        simp only
        rw [upd_at,List.mem_filter]
        exact ⟨hk,by simp;omega⟩
      · exact absurd ⟨e,e2⟩ h18
  obtain ⟨av',rest',hp,hM',hfr2⟩:=place_run hT (by omega) av1 rest1 hM1 c u (b:Int) (by omega) (by omega) hbk (n:=n+2) (by omega)
  refine ⟨av',rest', ?_,by simpa [placeM] using hM',by simpa [placeM] using (show Fr S.N av rest (takeM S c).N av1 rest1 by rw [hTN];exact hfr1).trans hfr2⟩
  simp only [Int.toNat_natCast]
  rw [show (placeM (takeM S c) c u (b:Int)).N=(takeM S c).N from rfl,hTN]
  rw [hTN] at hp
  generalize (placeM (takeM S c) c u (b:Int)).st=st' at hp ⊢
  generalize (takeM S c).st=st1 at ht hp
  rw [acall_code T43,run_code rfl rfl]
  by_cases e:(b:Int)=0
  · have e1:((b:Int)==0)=true:=by simpa using e
    simp only [machG] at hlv1 hlv3 ht hp ⊢
    simp -implicitDefEqProofs (disch:=omega) only [Rx,simprocAttr,F43,GOp.pv,attrsPV,hc,hb,hlv1,hlv3,len1,hgc,k1,h16,q1,e1,ht,hp]
  · have e1:((b:Int)==0)=false:=by simpa using e
    have e2:((S.st b).up==(u:Int))=true:=by
      by_cases e2:(S.st b).up=(u:Int)
      · simpa using e2
      · exact absurd ⟨e,e2⟩ h18
    simp only [machG] at hlv1 hlv3 ht hp ⊢
    simp -implicitDefEqProofs (disch:=omega) only [Rx,simprocAttr,F43,GOp.pv,attrsPV,hc,hb,hlv1,hlv3,len1,hgc,hgb,k1,k3,h16,q1,e1,e2,ht,hp]
end Go.TA.Tryz


end
section
/- What an operation does to a machine: the functions Do, Run. -/
set_option maxRecDepth 100000
set_option maxHeartbeats 8000000
namespace Go.TA.Tryz
theorem do_run {R:Nat} {S:MS} (hS:S.Ok R) (hN:S.N≤4194303) (av:Nat→AV) (rest:List AObj) (hM:MOk S.N av S.kd rest) (x:GOp) (hx:x.attrs.length≤1048576) {n:Nat} (hn:S.N+R+1048580<n) :
  ∃ av' rest',acall T (n+R+61) 15 [MP,.p (.agg x.pv)] (machG S.N S.st av rest)=some (.p (.int .i64 (doE S x).1),machG (doE S x).2.N (doE S x).2.st av' rest')∧MOk (doE S x).2.N av' (doE S x).2.kd rest'∧Fr S.N av rest (doE S x).2.N av' rest':=by
 have len1:∀ st av,(rowsAV S.N st av).length=S.N:=fun _ _=>rowsAV_len
 have hck:=opsP_run x [] (n:=n+R+22) (by omega) hx
 rw [show n+R+22+38=n+R+60 by omega] at hck
 have k0:((S.N:Int)==0)=false:=by have:=hS.pos;simp;omega
 unfold doE
 by_cases he:opErr x=0
 rotate_left
 ·rw [if_neg he]
  have e1:(opErr x==0)=false:=by simpa using he
  refine ⟨av,rest, ?_,hM,Fr.refl _ _ _⟩
  rw [acall_code T15,run_code rfl rfl]
  simp only [GOp.pv,attrsPV] at hck
  generalize opErr x=e at hck e1 ⊢
  simp only [machG]
  simp -implicitDefEqProofs (disch:=omega) only [Rx,simprocAttr,F15,GOp.pv,attrsPV,hck,k0,e1]
 rw [if_pos he]
 rw [he] at hck
 unfold doM
 by_cases h1:x.kind=1
 ·rw [if_pos h1]
  have e1:(x.kind==1)=true:=by simpa using h1
  have hcl:=cloneA_run x.attrs (by omega) [] (n+R+59)
  have hpush:=rowsAV_push (N:=S.N) (st:=S.st) (av:=av) ⟨true, -1,x.tag,x.key,x.text,x.attrs⟩ .nils
  simp only [nodeAV] at hpush
  refine ⟨upd av S.N .nils,rest, ?_,hM.push,Fr.push _ _ _⟩
  have len2:(rowsAV (S.N+1) (upd S.st S.N ⟨true, -1,x.tag,x.key,x.text,x.attrs⟩) (upd av S.N .nils)).length=S.N+1:=rowsAV_len
  rw [acall_code T15,run_code rfl rfl]
  simp only [GOp.pv,attrsPV] at hck
  simp only [machG,MS.create]
  generalize rowsAV (S.N+1) (upd S.st S.N ⟨true, -1,x.tag,x.key,x.text,x.attrs⟩) (upd av S.N .nils)=rows' at hpush len2 ⊢
  simp -implicitDefEqProofs (disch:=omega) only [Rx,simprocAttr,F15,GOp.pv,attrsPV,hck,k0,len1,len2,e1,hcl,hpush]
 rw [if_neg h1]
 have e1:(x.kind==1)=false:=by simpa using h1
 by_cases h0:x.node=0
 ·rw [if_pos h0]
  have e0:(x.node==0)=true:=by simpa using h0
  refine ⟨av,rest, ?_,hM,Fr.refl _ _ _⟩
  rw [acall_code T15,run_code rfl rfl]
  simp only [GOp.pv,attrsPV] at hck
  simp only [machG]
  simp -implicitDefEqProofs (disch:=omega) only [Rx,simprocAttr,F15,GOp.pv,attrsPV,hck,k0,e1,e0]
 rw [if_neg h0]
 have e0:(x.node==0)=false:=by simpa using h0
 by_cases h2:x.kind=2
 ·rw [if_pos h2]
  have e2:(x.kind==2)=true:=by simpa using h2
  obtain ⟨av',rest',hp,hM',hfr⟩:=insertF_run hS (by omega) av rest hM x h0 (n:=n+R+57) (by omega)
  refine ⟨av',rest', ?_,hM',hfr⟩
  rw [show n+R+57+3=n+R+60 by omega] at hp
  generalize insertM S x=q at hp ⊢
  rw [acall_code T15,run_code rfl rfl]
  simp only [GOp.pv,attrsPV] at hck hp
  simp only [machG] at hp ⊢
  simp -implicitDefEqProofs (disch:=omega) only [Rx,simprocAttr,F15,GOp.pv,attrsPV,hck,k0,e1,e0,e2,hp]
 rw [if_neg h2]
 have e2:(x.kind==2)=false:=by simpa using h2
 by_cases h3:x.kind=3
 ·rw [if_pos h3]
  have e3:(x.kind==3)=true:=by simpa using h3
  obtain ⟨av',rest',hp,hM',hfr⟩:=moveF_run hS (by omega) av rest hM x h0 (n:=n+R+55) (by omega)
  refine ⟨av',rest', ?_,hM',hfr⟩
  rw [show n+R+55+5=n+R+60 by omega] at hp
  generalize moveM S x=q at hp ⊢
  rw [acall_code T15,run_code rfl rfl]
  simp only [GOp.pv,attrsPV] at hck hp
  simp only [machG] at hp ⊢
  simp -implicitDefEqProofs (disch:=omega) only [Rx,simprocAttr,F15,GOp.pv,attrsPV,hck,k0,e1,e0,e2,e3,hp]
 rw [if_neg h3]
 have e3:(x.kind==3)=false:=by simpa using h3
 have hft:=fun av rest=>fit_run S av rest x.node (n+R+58)
 by_cases hl:liveB S x.node=false
 ·rw [if_pos hl]
  have ef:fitE S x.node=13:=by simp [fitE,h0,hl]
  rw [ef] at hft
  refine ⟨av,rest, ?_,hM,Fr.refl _ _ _⟩
  rw [acall_code T15,run_code rfl rfl]
  simp only [GOp.pv,attrsPV] at hck
  simp only [machG] at hft ⊢
  simp -implicitDefEqProofs (disch:=omega) only [Rx,simprocAttr,F15,GOp.pv,attrsPV,hck,k0,e1,e0,e2,e3,hft]
 rw [if_neg hl]
 simp only [Bool.not_eq_false] at hl
 have ef:fitE S x.node=0:=by simp [fitE,h0,hl]
 rw [ef] at hft
 obtain ⟨c,hc,hcN,hcl⟩:=live_nat hl
 have k1:(c:Int)<(S.N:Int):=by omega
 rw [hc] at hft e0
 by_cases h4:x.kind=4
 ·rw [if_pos h4]
  have e4:(x.kind==4)=true:=by simpa using h4
  obtain ⟨hT,hTup⟩:=hS.take hcN hcl
  have hTN:=takeM_N S c
  obtain ⟨av1,rest1,ht,hM1,hfr1⟩:=take_run hS (by omega) av rest hM c hcN (n:=n+R+56) (by omega)
  rw [← hTN] at hM1
  obtain ⟨av2,hp,hM2,hfr2⟩:=end_run hT (by omega) av1 rest1 hM1 c (by omega) (n:=n+59) (by omega)
  rw [show n+59+R+1=n+R+60 by omega] at hp
  rw [show n+R+56+4=n+R+60 by omega] at ht
  rw [hc]
  simp only [Int.toNat_natCast]
  refine ⟨av2,rest1, ?_,hM2,(show Fr S.N av rest (takeM S c).N av1 rest1 by rw [hTN];exact hfr1).trans hfr2⟩
  rw [show (endM (takeM S c) (c:Int)).N=(takeM S c).N from rfl,hTN]
  rw [hTN] at hp
  generalize (endM (takeM S c) (c:Int)).st=st2 at hp ⊢
  generalize (takeM S c).st=st1 at ht hp
  rw [acall_code T15,run_code rfl rfl]
  simp only [GOp.pv,attrsPV,hc] at hck
  simp only [machG] at hft ht hp ⊢
  simp -implicitDefEqProofs (disch:=omega) only [Rx,simprocAttr,F15,GOp.pv,attrsPV,hc,hck,k0,e1,e0,e2,e3,e4,hft,ht,hp]
 rw [if_neg h4]
 have e4:(x.kind==4)=false:=by simpa using h4
 have hp:=change_run hS av rest c hcN x (n:=n+R+55) (by omega)
 rw [show n+R+55+5=n+R+60 by omega] at hp
 obtain ⟨_,hcn⟩:=changeM_ok hS hcN x
 have hck2:(changeM S c x).2.kd=S.kd:=by
  unfold changeM
  split
  ·split <;> rfl
  split
  ·split <;> rfl
  split <;> rfl
 rw [hc]
 simp only [Int.toNat_natCast]
 refine ⟨av,rest, ?_,by rw [hcn,hck2];exact hM,by rw [hcn];exact Fr.refl _ _ _⟩
 rw [hcn]
 generalize changeM S c x=q at hp ⊢
 rw [acall_code T15,run_code rfl rfl]
 simp only [GOp.pv,attrsPV,hc] at hck hp
 simp only [machG] at hft hp ⊢
 simp -implicitDefEqProofs (disch:=omega) only [Rx,simprocAttr,F15,GOp.pv,attrsPV,hc,hck,k0,k1,len1,e1,e0,e2,e3,e4,hft,hp]
end Go.TA.Tryz


end
section
/- A script is run. -/
set_option maxRecDepth 100000
set_option maxHeartbeats 8000000
namespace Go.TA.Tryz
structure Mem (S:MS) (g:List AObj) (av:Nat→AV) (rest:List AObj):Prop where
 is:g=machG S.N S.st av rest
 ok:MOk S.N av S.kd rest
theorem mrun_run {R : Nat} {S : MS} (hS : S.Ok R) (L : List GOp) (hL : ∀ x ∈ L, x.attrs.length ≤ 1048576) (hN : S.N + L.length ≤ 4194303) (av : Nat → AV) (rest : List AObj) (hM : MOk S.N av S.kd rest) {F : Nat} (hF : S.N + L.length + bnd R L.length + bnd R L.length + 1048700 < F) :
    ∃ av' rest' R', acall T (F + 1) 14 [MP, .p (.list (L.map GOp.pv))] (machG S.N S.st av rest) = some (.tuple [.p (.int .i64 (runM S L 0).1), .p (.int .i64 (runM S L 0).2.1)], machG (runM S L 0).2.2.N (runM S L 0).2.2.st av' rest')
      ∧ MOk (runM S L 0).2.2.N av' (runM S L 0).2.2.kd rest'∧(runM S L 0).2.2.Ok R'∧R'≤bnd R L.length∧(runM S L 0).2.2.N≤S.N+L.length∧Fr S.N av rest (runM S L 0).2.2.N av' rest':=by
  have len1:(rowsAV S.N S.st av).length=S.N:=rowsAV_len
  have k0:((S.N:Int)==0)=false:=by have:=hS.pos;simp;omega
  have key:=loop_inv (C:=acall T F) (N:=F) (B:=B14x0) (σ := Nat × MS × (Nat→AV) × List AObj) (S:=fun s=>⟨[(0,MP),(1,.p (.list (L.map GOp.pv))),(19,.p (.list (L.map GOp.pv))),(20,.p (.int .i64 L.length)),(21,.p (.int .i64 s.1))],[],machG s.2.1.N s.2.1.st s.2.2.1 s.2.2.2⟩)
    (I:=fun s=>s.1≤L.length∧s.2.1.Ok (bnd R s.1)∧MOk s.2.1.N s.2.2.1 s.2.1.kd s.2.2.2∧s.2.1.N≤S.N+s.1∧runM S L 0=runM s.2.1 (L.drop s.1) s.1∧Fr S.N av rest s.2.1.N s.2.2.1 s.2.2.2) (μ := fun s=>L.length - s.1)
    (Q:=fun q=>∃ av' rest' R',(((runM S L 0).2.1=0∧(runM S L 0).1=L.length∧q=(.exit 0,⟨[(1,.p (.list (L.map GOp.pv)))],[],machG (runM S L 0).2.2.N (runM S L 0).2.2.st av' rest'⟩))∨q=(.ret,⟨[(4,.p (.int .i64 (runM S L 0).1)),(5,.p (.int .i64 (runM S L 0).2.1))],[],machG (runM S L 0).2.2.N (runM S L 0).2.2.st av' rest'⟩))
      ∧ MOk (runM S L 0).2.2.N av' (runM S L 0).2.2.kd rest'∧(runM S L 0).2.2.Ok R'∧R'≤bnd R L.length∧(runM S L 0).2.2.N≤S.N+L.length∧Fr S.N av rest (runM S L 0).2.2.N av' rest') ?_ (0,S,av,rest) ⟨by simp,hS,hM,by simp,by simp,Fr.refl _ _ _⟩ (by simp only;omega)
  · obtain ⟨q,hq,av',rest',R',hq2,h2⟩:=key
    refine ⟨av',rest',R', ?_,h2⟩
    rw [acall_code T14,run_code rfl rfl]
    simp only [Int.natCast_zero] at hq
    rcases hq2 with ⟨z1,z2,rfl⟩ | rfl
    · simp only [machG] at hq ⊢
      rw [z1,z2]
      simp -implicitDefEqProofs (disch:=omega) only [Rx,simprocAttr,F14,k0,hq]
    · simp only [machG] at hq ⊢
      simp -implicitDefEqProofs (disch:=omega) only [Rx,simprocAttr,F14,k0,hq]
  rintro ⟨i,S1,av1,rest1⟩ ⟨h1,h2,h3,h4,h5,h6⟩
  simp only at h1 h2 h3 h4 h5 h6 ⊢
  have hb:=bnd_mono R h1
  by_cases hi:i<L.length
  · obtain ⟨x,hx⟩:∃ x,L[i]? = some x:=⟨_,List.getElem?_eq_getElem hi⟩
    have hxm:=hL x (List.mem_of_getElem? hx)
    have k1:(i:Int)<(L.length:Int):=by omega
    have hg:=getD_map (f:=GOp.pv) hx
    obtain ⟨av2,rest2,hd,hM2,hfr⟩:=do_run h2 (by omega) av1 rest1 h3 x hxm (n:=F - bnd R i - 61) (by omega)
    rw [show F - bnd R i - 61+bnd R i+61=F by omega] at hd
    obtain ⟨hok,hn1,hn2⟩:=doE_ok h2 x (by omega)
    have hr:=runM_drop hx S1
    by_cases e:(doE S1 x).1=0
    · left
      rw [if_pos e] at hr
      rw [hr] at h5
      refine ⟨(i+1,(doE S1 x).2,av2,rest2), ?_,⟨by simp only;omega,hok,hM2,by simp only;omega,h5,h6.trans hfr⟩,by simp only;omega⟩
      rw [e] at hd
      generalize doE S1 x=q at hd ⊢
      simp only [GOp.pv,attrsPV] at hd
      simp only [machG] at hd ⊢
      simp -implicitDefEqProofs (disch:=omega) only [Rx,simprocAttr,B14x0,k1,hg,GOp.pv,attrsPV,hd]
    · right
      rw [if_neg e] at hr
      rw [hr] at h5
      rw [h5]
      simp only
      refine ⟨_, ?_, ?_,av2,rest2,bnd R (i+1),.inr rfl,hM2,hok,bnd_mono R (by omega),by omega,h6.trans hfr⟩
      · have e1:((doE S1 x).1==0)=false:=by simpa using e
        generalize doE S1 x=q at hd e1 ⊢
        simp only [GOp.pv,attrsPV] at hd
        simp only [machG] at hd ⊢
        simp -implicitDefEqProofs (disch:=omega) only [Rx,simprocAttr,B14x0,k1,hg,GOp.pv,attrsPV,hd,e1]
      · simp
  · right
    obtain rfl:i=L.length:=by omega
    have k1:¬ (L.length:Int)<(L.length:Int):=by omega
    have hr:runM S1 (L.drop L.length) L.length=(L.length,0,S1):=by rw [List.drop_length];rfl
    rw [hr] at h5
    rw [h5]
    simp only
    refine ⟨_, ?_, ?_,av1,rest1,bnd R L.length,.inl ⟨trivial,trivial,rfl⟩,h3,h2,Nat.le_refl _,h4,h6⟩
    · simp -implicitDefEqProofs (disch:=omega) only [Rx,simprocAttr,B14x0,k1]
    · simp
end Go.TA.Tryz


end
section
/- The rows of a machine. -/
set_option maxRecDepth 100000
set_option maxHeartbeats 8000000
namespace Go.TA.Tryz
def memR (S:MS) (av:Nat→AV) (rest:List AObj) (q:Nat) (out:List GRow):List AObj:=machG S.N S.st av (rest.set q (.pcells 6 (out.map GRow.pv)))
theorem mrows_body {R : Nat} {S : MS} (hS : S.Ok R) (hN : S.N ≤ 4194304) (av : Nat → AV) (rest : List AObj) (hM : MOk S.N av S.kd rest) (q : Nat) (hq : q < rest.length) (hqf : ∀ k, k < S.N → refOf (av k) ≠ some (q + 1 + 1)) (m : Nat) (hm : S.N + 1 < m) (d h : Nat) (up : Int) (out : List GRow) (hh : h < S.N) (hp : PreO S out h) (hol : out.length ≤ S.N)
    (ih:∀ c:Nat,c<S.N→(S.st c).up=(h:Int)→∀ (out:List GRow) (up:Int),out.length≤S.N→PreO S out c→acall T m 48 [MP,.own true (q+1+1) out.length,.p (.int .i64 c),.p (.int .i64 up)] (memR S av rest q out)=some (.own true (q+1+1) (belowM S d out (c:Int) up).length,memR S av rest q (belowM S d out (c:Int) up))) :
    acall T (m+1) 48 [MP,.own true (q+1+1) out.length,.p (.int .i64 h),.p (.int .i64 up)] (memR S av rest q out)=some (.own true (q+1+1) (belowM S (d+1) out (h:Int) up).length,memR S av rest q (belowM S (d+1) out (h:Int) up)):=by
  have hK:=hM.kids h hh
  have hkl:=hS.kids_len hh
  have len1:(rowsAV S.N S.st av).length=S.N:=rowsAV_len
  have k1:(h:Int)<(S.N:Int):=by omega
  have hgh:(rowsAV S.N S.st av).getD h []=nodeAV (S.st h) (av h):=rowsAV_get hh
  have il:=intsPV_len (S.kd h)
  have hinv:=post_all hS (d:=d) (up:=up) hh hp
  have hloop:aexec (acall T m) m (.loop B48x0) ⟨[(0,MP),(1,.own true (q+1+1) out.length),(3,.p (.int .i64 up)),(19,av h),(20,.p (.int .i64 (S.kd h).length)),(21,.p (.int .i64 0))],[],memR S av rest q out⟩=some (.exit 0,⟨[(1,.own true (q+1+1) (belowM S (d+1) out (h:Int) up).length)],[],memR S av rest q (belowM S (d+1) out (h:Int) up)⟩):=by
    have key:=loop_inv (C:=acall T m) (N:=m) (B:=B48x0) (σ := Nat) (S:=fun i=>⟨[(0,MP),(1,.own true (q+1+1) (outI S d out h up i).length),(3,.p (.int .i64 up)),(19,av h),(20,.p (.int .i64 (S.kd h).length)),(21,.p (.int .i64 i))],[],memR S av rest q (outI S d out h up i)⟩)
      (I:=fun i=>i≤(S.kd h).length) (μ := fun i=>(S.kd h).length - i) (Q:=fun z=>z=(.exit 0,⟨[(1,.own true (q+1+1) (belowM S (d+1) out (h:Int) up).length)],[],memR S av rest q (belowM S (d+1) out (h:Int) up)⟩)) ?_ 0 (by omega) (by omega)
    · obtain ⟨z,hz,rfl⟩:=key
      rw [outI_zero] at hz
      exact hz
    intro i hi
    by_cases hil:i<(S.kd h).length
    · left
      obtain ⟨k,hk⟩:∃ k,(S.kd h)[i]? = some k:=⟨_,List.getElem?_eq_getElem hil⟩
      have hkm:=List.mem_of_getElem? hk
      obtain ⟨c,rfl,hc,_,hcu⟩:=hS.kids h hh k hkm
      obtain ⟨hpo,hpm⟩:=hinv i hi
      have hpre:=kid_pre hS up hh hp hpo hpm hk hc hcu
      have hol1:=hpo.len
      have ho:=outI_succ (S:=S) (d:=d) (out:=out) (up:=up) hk
      have hol2:(outI S d out h up i++[rowM S (c:Int) up]).length≤S.N:=by
        have:=nodup_len S.N _ hpre.nodup (fun k hk=>by
          obtain ⟨x,hx,rfl⟩:=List.mem_map.1 hk
          exact hpre.rng x hx)
        rwa [List.length_map] at this
      have ihc:=ih c hc hcu _ (((outI S d out h up i).length:Int)+1) hol2 hpre
      rw [← ho] at ihc
      refine ⟨i+1, ?_,by omega,by omega⟩
      generalize outI S d out h up i=o1 at hol1 hol2 ihc ⊢
      generalize outI S d out h up (i+1)=o2 at ihc ⊢
      have k2:(i:Int)<((S.kd h).length:Int):=by omega
      have k3:(c:Int)<(S.N:Int):=by omega
      have hg:=intsPV_get hk
      have hgc:(rowsAV S.N S.st av).getD c []=nodeAV (S.st c) (av c):=rowsAV_get hc
      have hcl:=cloneA_run (S.st c).attrs (hS.attrs c hc) [] (m - 1)
      rw [show m - 1+1=m by omega] at hcl
      have os:o1.map GRow.pv++[[.int .i64 (c:Int),.int .i64 up,.str (S.st c).tag,.str (S.st c).key,.str (S.st c).text,.list ((S.st c).attrs.map Attr.pv)]]=(o1++[rowM S (c:Int) up]).map GRow.pv:=by
        rw [List.map_append];rfl
      have ol1:(o1.map GRow.pv).length=o1.length:=by simp
      have ol2:(o1++[rowM S (c:Int) up]).length=o1.length+1:=by simp
      rw [ol2] at ihc
      have ol3:((o1++[rowM S (c:Int) up]).map GRow.pv).length=o1.length+1:=by simp
      generalize o1++[rowM S (c:Int) up]=o3 at os ihc ol3
      have hgq:(rest.set q (.pcells 6 (o1.map GRow.pv)))[q]? = some (.pcells 6 (o1.map GRow.pv)):=by rw [List.getElem?_set,if_pos rfl,if_pos hq]
      have hss:∀ o o':AObj,(rest.set q o).set q o'=rest.set q o':=fun o o'=>by simp
      simp only [nodeAV] at hgc
      rcases hK.inv with ⟨_,hk0⟩ | ⟨r,hav,hr⟩ | hav
      · rw [hk0] at hil;simp at hil
      · have hrq:r≠q:=fun e=>hqf h hh (by rw [hav,e];rfl)
        have hgr:(rest.set q (.pcells 6 (o1.map GRow.pv)))[r]? = some (.pcells 1 (intsPV (S.kd h))):=by rw [List.getElem?_set,if_neg (fun e=>hrq e.symm)];exact hr
        rcases (hM.kids c hc).inv with ⟨hav2,_⟩ | ⟨r2,hav2,_⟩ | hav2
        all_goals
          simp only [hav2] at hgc
          simp only [memR,machG,hav] at ihc ⊢
          simp -implicitDefEqProofs (disch:=omega) only [Rx,simprocAttr,B48x0,k2,k3,hg,hgc,len1,hgq,hgr,il,hss,hcl,os,ol1,ol3,ihc]
      · rcases (hM.kids c hc).inv with ⟨hav2,_⟩ | ⟨r2,hav2,_⟩ | hav2
        all_goals
          simp only [hav2] at hgc
          simp only [memR,machG,hav] at ihc ⊢
          simp -implicitDefEqProofs (disch:=omega) only [Rx,simprocAttr,B48x0,k2,k3,hg,hgc,len1,hgq,il,hss,hcl,os,ol1,ol3,ihc]
    · right
      obtain rfl:i=(S.kd h).length:=by omega
      have k2:¬ ((S.kd h).length:Int)<((S.kd h).length:Int):=by omega
      refine ⟨_, ?_, ?_,rfl⟩
      · rw [outI_all]
        generalize belowM S (d+1) out (h:Int) up=o1
        rcases hK.inv with ⟨hav,_⟩ | ⟨r,hav,_⟩ | hav
        all_goals
          simp only [hav]
          simp -implicitDefEqProofs (disch:=omega) only [Rx,simprocAttr,B48x0,k2]
      · simp
  rw [acall_code T48,run_code rfl rfl]
  simp only [nodeAV] at hgh
  generalize belowM S (d+1) out (h:Int) up=o2 at hloop ⊢
  rcases hK.inv with ⟨hav,hk0⟩ | ⟨r,hav,hr⟩ | hav
  · simp only [hk0,List.length_nil,Int.natCast_zero] at hloop
    simp only [memR,machG,hav] at hloop hgh ⊢
    simp -implicitDefEqProofs (disch:=omega) only [Rx,simprocAttr,F48,k1,len1,hgh,hloop]
  · have hrq:r≠q:=fun e=>hqf h hh (by rw [hav,e];rfl)
    have hgr:(rest.set q (.pcells 6 (out.map GRow.pv)))[r]? = some (.pcells 1 (intsPV (S.kd h))):=by rw [List.getElem?_set,if_neg (fun e=>hrq e.symm)];exact hr
    simp only [memR,machG,hav] at hloop hgh ⊢
    simp -implicitDefEqProofs (disch:=omega) only [Rx,simprocAttr,F48,k1,len1,hgh,hloop]
  · simp only [memR,machG,hav] at hloop hgh ⊢
    simp -implicitDefEqProofs (disch:=omega) only [Rx,simprocAttr,F48,k1,len1,hgh,il,hloop]
theorem mrows_gen {R:Nat} {S:MS} (hS:S.Ok R) (hN:S.N≤4194304) (av:Nat→AV) (rest:List AObj) (hM:MOk S.N av S.kd rest) (q:Nat) (hq:q<rest.length) (hqf:∀ k,k<S.N→refOf (av k)≠some (q+1+1)) {r:Nat→Nat} (hr1:∀ c,c<S.N→r c≤R) (hr2:∀ c p:Nat,c<S.N→(S.st c).up=(p:Int)→r p<r c) (n:Nat) (hn:S.N+1<n) :
    ∀ (d h : Nat) (up : Int) (out : List GRow), h < S.N → R ≤ r h + d → out.length ≤ S.N → PreO S out h →
      acall T (n+d+1) 48 [MP,.own true (q+1+1) out.length,.p (.int .i64 h),.p (.int .i64 up)] (memR S av rest q out)=some (.own true (q+1+1) (belowM S (d+1) out (h:Int) up).length,memR S av rest q (belowM S (d+1) out (h:Int) up)):=by
  intro d
  induction d with
  | zero =>
    intro h up out hh hR hol hp
    exact mrows_body hS hN av rest hM q hq hqf n hn 0 h up out hh hp hol (fun c hc hcu=>by
      have:=hr1 c hc
      have:=hr2 c h hc hcu
      omega)
  | succ d ih =>
    intro h up out hh hR hol hp
    exact mrows_body hS hN av rest hM q hq hqf (n+d+1) (by omega) (d+1) h up out hh hp hol (fun c hc hcu out up hol hp=>by
      have:=hr2 c h hc hcu
      exact ih c up out hc (by omega) hol hp)
theorem Rows_run {R:Nat} {S:MS} (hS:S.Ok R) (hN:S.N≤4194304) (av:Nat→AV) (rest:List AObj) (hM:MOk S.N av S.kd rest) {n:Nat} (hn:S.N+1<n) :
  acall T (n+R+2) 16 [MP] (machG S.N S.st av rest)=some (.own true (rest.length+1+1) (rowsM S R).length,machG S.N S.st av (rest++[.pcells 6 ((rowsM S R).map GRow.pv)])):=by
 have hM':MOk S.N av S.kd (rest++[.pcells 6 []]):=⟨fun h hh=>(hM.kids h hh).more _,hM.disj⟩
 obtain ⟨r,hr1,hr2⟩:=hS.rank
 have hr:=mrows_gen hS hN av (rest++[.pcells 6 []]) hM' rest.length (by simp) (fun k hk e=>by
  have:=(hM.kids k hk).ref_lt e
  omega) hr1 hr2 n hn R 0 0 [] hS.pos (by omega) (by simp) pre_nil
 have hset:∀ o o':AObj,(rest++[o]).set rest.length o'=rest++[o']:=fun o o'=>by simp [List.set_append]
 have len1:(rowsAV S.N S.st av).length=S.N:=rowsAV_len
 have k0:((S.N:Int)==0)=false:=by have:=hS.pos;simp;omega
 simp only [memR,hset,Int.natCast_zero,List.map_nil,List.length_nil] at hr
 rw [acall_code T16,run_code rfl rfl]
 unfold rowsM
 generalize belowM S (R+1) [] 0 0=o at hr ⊢
 simp only [machG] at hr ⊢
 simp -implicitDefEqProofs (disch:=omega) only [Rx,simprocAttr,F16,k0,hr]
theorem Next_run (S:MS) (av:Nat→AV) (rest:List AObj) (n:Nat):acall T (n+1) 18 [MP] (machG S.N S.st av rest)=some (.p (.int .i64 S.N),machG S.N S.st av rest):=by
 have len1:(rowsAV S.N S.st av).length=S.N:=rowsAV_len
 rw [acall_code T18,run_code rfl rfl]
 simp only [machG]
 simp -implicitDefEqProofs (disch:=omega) only [Rx,simprocAttr,F18]
end Go.TA.Tryz


end
section
/- The rows of a machine and of the document's answer, read and held against each other. -/
set_option maxRecDepth 100000
set_option maxHeartbeats 8000000
namespace Go.TA
theorem below_attrs {R : Nat} {S : MS} (hS : S.Ok R) : ∀ (d : Nat) (out : List GRow) (h : Nat) (up : Int), h < S.N → ∀ x ∈ belowM S d out (h : Int) up, x ∈ out ∨ x.attrs.length ≤ 1048577
  | 0,out,h,up,hh,x,hx => .inl hx
  | d + 1, out, h, up, hh, x, hx => by
    rw [← outI_all] at hx
    have key:∀ i,i≤(S.kd h).length→∀ x ∈ outI S d out h up i,x ∈ out∨x.attrs.length≤1048577:=by
      intro i
      induction i with
      | zero=>exact fun _ x hx => .inl hx
      | succ i ih =>
        intro hi x hx
        obtain ⟨k,hk⟩:∃ k,(S.kd h)[i]? = some k:=⟨_,List.getElem?_eq_getElem (by omega)⟩
        obtain ⟨c,rfl,hc,_,_⟩:=hS.kids h hh k (List.mem_of_getElem? hk)
        rw [outI_succ hk] at hx
        rcases below_attrs hS d _ c _ hc x hx with h1 | h1
        · rcases List.mem_append.1 h1 with h2 | h2
          · exact ih (by omega) x h2
          · simp only [List.mem_singleton] at h2
            subst h2
            exact .inr (hS.attrs c hc)
        · exact .inr h1
    exact key _ (Nat.le_refl _) x hx
theorem rowsM_attrs {R:Nat} {S:MS} (hS:S.Ok R) (R':Nat):∀ x ∈ rowsM S R',x.attrs.length≤1048577:=fun x hx=>by
 rcases below_attrs hS (R'+1) [] 0 0 hS.pos x hx with h | h
 ·simp at h
 ·exact h
namespace Tryz
theorem both_rows {R:Nat} {S:MS} (hS:S.Ok R) (hN:S.N≤4194304) {g:List AObj} {av:Nat→AV} {rest:List AObj} {avD:Nat→AV} {p q:Nat} (hB:Both S g av rest avD p q) {n:Nat} (hn:S.N+4194304+1<n) :
    ∃ g1, acall T (n + R + 3) 16 [MP] g = some (.own true (rest.length + 1 + 1) (rowsM S R).length, g1) ∧ acall T (n + R + 3) 22 [DP p] g1 = some (.own true g1.length (rowsM S R).length, g1 ++ [.pcells 6 ((rowsM S R).map GRow.pv)])
      ∧ g1[rest.length+1+1]? = some (.pcells 6 ((rowsM S R).map GRow.pv))∧rest.length+1+1<g1.length∧(∀ g,acall T (n+R+3) 21 [.p (.list ((rowsM S R).map GRow.pv)),.p (.list ((rowsM S R).map GRow.pv))] g=some (.p (.bool true),g))
      ∧ Both S (g1++[.pcells 6 ((rowsM S R).map GRow.pv)]) av (rest++[.pcells 6 ((rowsM S R).map GRow.pv)]++[.pcells 6 ((rowsM S R).map GRow.pv)]) avD p q:=by
  have hll:=liveL_len S
  have hr:=Rows_run hS hN av rest hB.mok (n:=n+1) (by omega)
  rw [← hB.is,show n+1+R+2=n+R+3 by omega] at hr
  have hB1:=hB.more [.pcells 6 ((rowsM S R).map GRow.pv)]
  have hd:=Read_run hS (by omega) hB1.dm (by omega) (n:=n+1) (by omega)
  rw [show n+1+R+2=n+R+3 by omega] at hd
  have hgl:g.length=rest.length+1+1:=by rw [hB.is];simp [machG]
  have hB2:=hB1.more [.pcells 6 ((rowsM S R).map GRow.pv)]
  have hmg:machG S.N S.st av (rest++[.pcells 6 ((rowsM S R).map GRow.pv)])=g++[.pcells 6 ((rowsM S R).map GRow.pv)]:=by rw [hB.is];simp [machG]
  rw [hmg] at hr
  refine ⟨g++[.pcells 6 ((rowsM S R).map GRow.pv)], ?_, ?_, ?_, ?_,fun g => ?_, ?_⟩
  rotate_right
  · exact hB2
  · exact hr
  · exact hd
  · rw [← hgl];simp
  · simp;omega
  · have hl:=rowsM_len hS R
    have:=rowsEq_run (rowsM S R) (by omega) (fun x hx=>by have:=rowsM_attrs hS R x hx;omega) g (n:=n+R) (by omega) (by omega)
    exact this
end Tryz
end Go.TA


end
section
/- What is wrong with rows: the document's answer. -/
set_option maxRecDepth 100000
set_option maxHeartbeats 8000000
namespace Go.TA.Tryz
def twinB (x y:GRow):Bool:=(y.up==x.up) && (y.key==x.key)
def dupB (l:List GRow) (i:Nat) (x:GRow):Bool := !(x.key==[]) && (l.take i).any (twinB x)
def rowErr (l:List GRow) (i:Nat) (x:GRow):Int:=if i=4096 then 12 else if 64<(chain l (i+1)).length then 11 else if aloneErr x=0 then (if dupB l i x=true then 10 else 0) else aloneErr x
def errFrom (l:List GRow):Nat→List GRow→Int
 | _,[]=>0
 | i,x::r=>if rowErr l i x=0 then errFrom l (i+1) r else rowErr l i x
def check13 (l:List GRow):Int:=if formedB l=true then errFrom l 0 l else 2
def dupOut (l:List GRow) (i:Nat) (r:Bool):Ex × St:=if r=true then (.ret,⟨[(2,.p (.int .i64 10))],[],[]⟩) else (.exit 2,⟨[(0,.p (.list (l.map GRow.pv))),(10,.p (.int .i64 l.length)),(11,.p (.int .i64 i))],[],[]⟩)
theorem dup_loop {n N : Nat} (l : List GRow) (i : Nat) (x : GRow) (hx : l[i]? = some x) (hl : l.length ≤ 1048576) (hN : l.length < N) :
    aexec (acall T n) N (.loop B13x1) ⟨[(0,.p (.list (l.map GRow.pv))),(3,.p (.int .i64 i)),(10,.p (.int .i64 l.length)),(11,.p (.int .i64 i)),(46,.p (.int .i64 i)),(47,.p (.int .i64 ((0:Nat):Int)))],[],[]⟩=some (dupOut l i (dupB l i x)):=by
  have hlt:i<l.length:=(List.getElem?_eq_some_iff.1 hx).1
  have hg:=getD_map (f:=GRow.pv) hx
  have:=loop_rule' (C:=acall T n) (N:=N) (B:=B13x1) (σ := Nat) (S:=fun k=>⟨[(0,.p (.list (l.map GRow.pv))),(3,.p (.int .i64 i)),(10,.p (.int .i64 l.length)),(11,.p (.int .i64 i)),(46,.p (.int .i64 i)),(47,.p (.int .i64 k))],[],[]⟩) (I:=fun k=>k≤i) (μ := fun k=>i - k)
    (Φ := fun k=>dupOut l i (!(x.key==[]) && ((l.take i).drop k).any (twinB x))) ?_ 0 (by omega) (by omega)
  · simpa [dupB] using this
  intro k hk
  by_cases h:k<i
  · have k1 : (k : Int) < (i : Int) := by omega
    have k2:(i:Int)<(l.length:Int):=by omega
    have k3:(k:Int)<(l.length:Int):=by omega
    obtain ⟨y,hy⟩:=get_some (show k<l.length by omega)
    have hgy:=getD_map (f:=GRow.pv) hy
    have hd:(l.take i).drop k=y::(l.take i).drop (k+1):=by
      rw [List.drop_eq_getElem?_toList_append,List.getElem?_take,if_pos h,hy];rfl
    have next:(!(x.key==[]) && twinB x y)=false→dupOut l i (!(x.key==[]) && ((l.take i).drop k).any (twinB x))=dupOut l i (!(x.key==[]) && ((l.take i).drop (k+1)).any (twinB x)):=fun h=>by
      rw [hd,List.any_cons,Bool.and_or_distrib_left,h,Bool.false_or]
    cases hk0:(x.key==[]) with
    | true =>
      refine .inl ⟨k+1, ?_,by omega,by omega,by rw [hk0] at next;exact next rfl⟩
      simp -implicitDefEqProofs (disch:=omega) only [Rx,simprocAttr,B13x1,k1,k2,hg,GRow.pv,hk0]
    | false =>
      cases hu:(y.up==x.up) with
      | false =>
        refine .inl ⟨k+1, ?_,by omega,by omega,by rw [hk0] at next;exact next (by simp [twinB,hu])⟩
        simp -implicitDefEqProofs (disch:=omega) only [Rx,simprocAttr,B13x1,k1,k2,k3,hg,hgy,GRow.pv,hk0,hu]
      | true =>
        cases hke:(y.key==x.key) with
        | false =>
          refine .inl ⟨k+1, ?_,by omega,by omega,by rw [hk0] at next;exact next (by simp [twinB,hke])⟩
          simp -implicitDefEqProofs (disch:=omega) only [Rx,simprocAttr,B13x1,k1,k2,k3,hg,hgy,GRow.pv,hk0,hu,hke]
        | true =>
          have e:dupOut l i (!false && ((l.take i).drop k).any (twinB x))=(.ret,⟨[(2,.p (.int .i64 10))],[],[]⟩):=by
            rw [hd,List.any_cons];simp [twinB,hu,hke,dupOut]
          refine .inr ?_
          rw [e]
          refine ⟨?_,by simp⟩
          simp -implicitDefEqProofs (disch:=omega) only [Rx,simprocAttr,B13x1,k1,k2,k3,hg,hgy,GRow.pv,hk0,hu,hke]
  · have k1:¬ (k:Int)<(i:Int):=by omega
    have e:(l.take i).drop k=[]:=List.drop_eq_nil_of_le (by rw [List.length_take];omega)
    refine .inr ?_
    rw [e,List.any_nil,Bool.and_false]
    have e2:dupOut l i false=(.exit 2,⟨[(0,.p (.list (l.map GRow.pv))),(10,.p (.int .i64 l.length)),(11,.p (.int .i64 i))],[],[]⟩):=by simp [dupOut]
    rw [e2]
    refine ⟨?_,by simp⟩
    simp -implicitDefEqProofs (disch:=omega) only [Rx,simprocAttr,B13x1,k1]
def errOut (r:Int):Ex × St:=if r=0 then (.exit 0,⟨[],[],[]⟩) else (.ret,⟨[(2,.p (.int .i64 r))],[],[]⟩)
theorem err_loop {n N m:Nat} (l:List GRow) (hl:Rows.small m l) (hm:m≤1048577) (hs:standTo l l.length) (hN:m≤N) (hn:1048577≤n) :
    aexec (acall T (n+37)) N (.loop B13x0) ⟨[(0,.p (.list (l.map GRow.pv))),(10,.p (.int .i64 l.length)),(11,.p (.int .i64 ((0:Nat):Int)))],[],[]⟩=some (errOut (errFrom l 0 l)):=by
  have hlen:=hl.len
  have:=loop_rule' (C:=acall T (n+37)) (N:=N) (B:=B13x0) (σ := Nat) (S:=fun i=>⟨[(0,.p (.list (l.map GRow.pv))),(10,.p (.int .i64 l.length)),(11,.p (.int .i64 i))],[],[]⟩) (I:=fun i=>i≤l.length∧i≤4096) (μ := fun i=>l.length - i)
    (Φ := fun i=>errOut (errFrom l i (l.drop i))) ?_ 0 ⟨by omega,by omega⟩ (by omega)
  · simpa using this
  rintro i ⟨hi,hi4⟩
  by_cases h:i<l.length
  · have k1:(i:Int)<(l.length:Int):=by omega
    obtain ⟨x,hx⟩:=get_some h
    have hg:=getD_map (f:=GRow.pv) hx
    have hsm:=hl.row x (List.mem_of_getElem? hx)
    have hd:l.drop i=x::l.drop (i+1):=by rw [List.drop_eq_getElem?_toList_append,hx];rfl
    rw [hd]
    have bad:∀ e:Int,rowErr l i x=e→e≠0→errOut (errFrom l i (x::l.drop (i+1)))=(.ret,⟨[(2,.p (.int .i64 e))],[],[]⟩):=fun e h1 h2=>by
      simp only [errFrom,h1,if_neg h2,errOut]
    by_cases h4:i=4096
    · refine .inr ?_
      rw [bad 12 (by simp [rowErr,h4]) (by decide)]
      refine ⟨?_,by simp⟩
      have k2:((i:Int)==4096)=true:=by simp;omega
      simp -implicitDefEqProofs (disch:=omega) only [Rx,simprocAttr,B13x0,k1,k2]
    have k2:((i:Int)==4096)=false:=by simp;omega
    have hdep:=depth_run (n:=n+36) l (i+1) (hs.mono (by omega)) (by omega) (by omega) [] (by omega)
    simp only [Int.natCast_add,Int.natCast_one] at hdep
    by_cases h64:64<(chain l (i+1)).length
    · refine .inr ?_
      rw [bad 11 (by simp [rowErr,h4,h64]) (by decide)]
      refine ⟨?_,by simp⟩
      have k3:(64:Int)<((chain l (i+1)).length:Int):=by omega
      simp -implicitDefEqProofs (disch:=omega) only [Rx,simprocAttr,B13x0,k1,k2,hdep,k3]
    have k3:¬ (64:Int)<((chain l (i+1)).length:Int):=by omega
    have hal:=alone_run (n:=n) x [] hsm.small [] (by have:=hsm.attrs;omega) (by omega)
    simp only [nodeCells] at hal
    by_cases ha:aloneErr x=0
    rotate_left
    · refine .inr ?_
      rw [bad (aloneErr x) (by simp [rowErr,h4,h64,ha]) ha]
      refine ⟨?_,by simp⟩
      have ha':(aloneErr x==0)=false:=by simpa using ha
      simp -implicitDefEqProofs (disch:=omega) only [Rx,simprocAttr,B13x0,k1,k2,hdep,k3,hg,GRow.pv,attrsPV,hal,ha']
    have hdl:=dup_loop (n:=n+37) (N:=N) l i x hx (by omega) (by omega)
    simp only [Int.natCast_zero] at hdl
    rw [ha] at hal
    cases hdup:dupB l i x with
    | true =>
      refine .inr ?_
      rw [bad 10 (by simp [rowErr,h4,h64,ha,hdup]) (by decide)]
      refine ⟨?_,by simp⟩
      rw [hdup] at hdl
      simp only [dupOut,if_true] at hdl
      simp -implicitDefEqProofs (disch:=omega) only [Rx,simprocAttr,B13x0,k1,k2,hdep,k3,hg,GRow.pv,attrsPV,hal,hdl]
    | false =>
      have e:rowErr l i x=0:=by simp [rowErr,h4,h64,ha,hdup]
      refine .inl ⟨i+1, ?_,⟨by omega,by omega⟩,by omega,by simp only [errFrom,e,if_true]⟩
      rw [hdup] at hdl
      simp only [dupOut,Bool.false_eq_true,if_false] at hdl
      simp -implicitDefEqProofs (disch:=omega) only [Rx,simprocAttr,B13x0,k1,k2,hdep,k3,hg,GRow.pv,attrsPV,hal,hdl]
  · have k1:¬ (i:Int)<(l.length:Int):=by omega
    have e:l.drop i=[]:=List.drop_eq_nil_of_le (by omega)
    refine .inr ⟨?_,by rw [e];simp [errFrom,errOut]⟩
    rw [e]
    simp -implicitDefEqProofs (disch:=omega) only [Rx,simprocAttr,B13x0,k1,errFrom,errOut]
theorem check13_run (l:List GRow) {m n:Nat} (hl:Rows.small m l) (hm:m≤1048577) (hn:1048577≤n) (g:List AObj):acall T (n+38) 13 [.p (.list (l.map GRow.pv))] g=some (.p (.int .i64 (check13 l)),g):=by
  rw [acall_code T13,run_pure rfl rfl rfl]
  have hlen:=hl.len
  have hf:=form13_run (n:=n+35) l (by omega) [] (by omega)
  cases hb:formedB l with
  | false =>
    rw [hb] at hf
    have e:check13 l=2:=by simp [check13,hb]
    rw [e]
    simp -implicitDefEqProofs (disch:=omega) only [Rx,simprocAttr,F13,hf]
  | true =>
    rw [hb] at hf
    have hloop:=err_loop (n:=n) (N:=n+37) (m:=m) l hl hm (formed_stands hb) (by omega) hn
    simp only [Int.natCast_zero] at hloop
    have e:check13 l=errFrom l 0 l:=by simp [check13,hb]
    rw [e]
    by_cases h0:errFrom l 0 l=0
    · rw [h0] at hloop ⊢
      simp only [errOut,if_true] at hloop
      simp -implicitDefEqProofs (disch:=omega) only [Rx,simprocAttr,F13,hf,hloop]
    · simp only [errOut,if_neg h0] at hloop
      simp -implicitDefEqProofs (disch:=omega) only [Rx,simprocAttr,F13,hf,hloop]
end Go.TA.Tryz


end
section
/- The program's look at the tree of rows that are right. -/
set_option maxRecDepth 100000
set_option maxHeartbeats 8000000
namespace Go.TA.Tryz
def allOk (l:List GRow):Prop:=∀ (i:Nat) x,l[i]? = some x→rowErr l i x=0
theorem errFrom_ok {l:List GRow}:∀ {i:Nat},errFrom l i (l.drop i)=0→∀ (j:Nat) x,i≤j→l[j]? = some x→rowErr l j x=0:=by
  intro i h j x hij hj
  obtain ⟨d,rfl⟩:∃ d,j=i+d:=⟨j - i,by omega⟩
  induction d generalizing i with
  | zero =>
    have e:l.drop i=x::l.drop (i+1):=by rw [List.drop_eq_getElem?_toList_append];simp at hj;rw [hj];rfl
    rw [e] at h
    simp only [errFrom] at h
    by_cases h0:rowErr l i x=0
    · simpa using h0
    · rw [if_neg h0] at h;exact absurd h h0
  | succ d ih =>
    have hlt:i<l.length:=by
      have:=(List.getElem?_eq_some_iff.1 hj).1
      omega
    obtain ⟨y,hy⟩:=get_some hlt
    have e:l.drop i=y::l.drop (i+1):=by rw [List.drop_eq_getElem?_toList_append,hy];rfl
    rw [e] at h
    simp only [errFrom] at h
    have h0:rowErr l i y=0:=by
      by_cases h0:rowErr l i y=0
      · exact h0
      · rw [if_neg h0] at h;exact absurd h h0
    rw [if_pos h0] at h
    have:=ih h (by omega) (by rw [← hj];congr 1;omega)
    rw [show i+(d+1)=i+1+d by omega]
    exact this
theorem check13_ok {l:List GRow} (h:check13 l=0):formedB l=true∧allOk l:=by
 unfold check13 at h
 split at h
 ·rename_i hf
  exact ⟨hf,fun i x hx=>errFrom_ok (i:=0) (by simpa using h) i x (by omega) hx⟩
 ·omega
theorem rowErr_ok {l : List GRow} {i : Nat} {x : GRow} (h : rowErr l i x = 0) : i ≠ 4096 ∧ (chain l (i + 1)).length ≤ 64 ∧ aloneErr x = 0 ∧ dupB l i x = false := by
  unfold rowErr at h
  split at h
  · omega
  · rename_i h1
    split at h
    · omega
    · rename_i h2
      split at h
      · rename_i h3
        split at h
        · omega
        · rename_i h4
          exact ⟨h1,by omega,h3,by simpa using h4⟩
      · rename_i h3
        exact absurd h h3
def KOk (l:List GRow) (u:Int) (b:Nat) (es:List (PV × AV)):Prop:=∀ e ∈ es,∃ k:Bs,e.1 = .str k∧k≠[]∧∃ (j:Nat) (y:GRow),j<b∧l[j]? = some y∧y.up=u∧y.key=k
theorem KOk.mono {l:List GRow} {u:Int} {b b':Nat} {es:List (PV × AV)} (h:KOk l u b es) (hb:b≤b'):KOk l u b' es:=fun e he=>by
 obtain ⟨k,h1,h2,j,y,h3,h4⟩:=h e he
 exact ⟨k,h1,h2,j,y,by omega,h4⟩
theorem KOk.strs {l:List GRow} {u:Int} {b:Nat} {es:List (PV × AV)} (h:KOk l u b es) (k:Bs):(es.all fun e=>(scalarEqK 2 e.1 (.str k)).isSome)=true:=by
 rw [List.all_eq_true]
 intro e he
 obtain ⟨k',h1,_⟩:=h e he
 rw [h1];rfl
theorem KOk.none {l:List GRow} {x:GRow} {b:Nat} {es:List (PV × AV)} (h:KOk l x.up b es) (hd:dupB l b x=false):mlk 2 es (.str x.key)=none:=by
  have key:∀ e ∈ es,scalarEqK 2 e.1 (.str x.key)≠some true:=by
    intro e he hc
    obtain ⟨k,h1,h2,j,y,h3,h4,h5,h6⟩:=h e he
    rw [h1] at hc
    have hk:k=x.key:=by simpa [scalarEqK] using hc
    have:dupB l b x=true:=by
      simp only [dupB,Bool.and_eq_true,Bool.not_eq_true',List.any_eq_true]
      refine ⟨by rw [← hk];simpa using h2,y, ?_,by simp [twinB,h5,h6,hk]⟩
      rw [List.mem_iff_getElem?]
      exact ⟨j,by rw [List.getElem?_take,if_pos h3];exact h4⟩
    rw [this] at hd
    cases hd
  induction es with
  | nil=>rfl
  | cons e es ih =>
    obtain ⟨a,v⟩:=e
    simp only [mlk]
    rw [if_neg (key (a,v) (by simp))]
    exact ih (fun e he=>h e (by simp [he])) (fun e he=>key e (by simp [he]))
theorem mput_none {es:List (PV × AV)} {k:PV} {v:AV} (h:mlk 2 es k=none):mput 2 es k v=es++[(k,v)]:=by
  induction es with
  | nil=>rfl
  | cons e es ih =>
    obtain ⟨a,w⟩:=e
    simp only [mlk,mput] at h ⊢
    by_cases hc:scalarEqK 2 a k=some true
    · rw [if_pos hc] at h;cases h
    · rw [if_neg hc] at h
      rw [if_neg hc,ih h];rfl
theorem KOk.more {l:List GRow} {x:GRow} {b:Nat} {es:List (PV × AV)} (h:KOk l x.up b es) (hx:l[b]? = some x) (hk:x.key≠[]) (v:AV):KOk l x.up (b+1) (es++[(.str x.key,v)]):=by
 intro e he
 rcases List.mem_append.1 he with he | he
 ·exact (h.mono (by omega)) e he
 ·simp only [List.mem_singleton] at he
  subst he
  exact ⟨x.key,rfl,hk,b,x,by omega,hx,rfl,rfl⟩
def LK (m:Nat) (deep:Int):AObj:=.pcells 3 [[.int .i64 m,.int .i64 deep,.int .i64 0]]
def VK:AObj:=.cells 1 [[.func 129 [.ptr true 0 3 1 0 0,.ptr true 1 1 1 0 0]]]
def pL:AV:=.ptr true 0 3 1 0 0
def pV:AV:=.ptr true 1 1 1 0 0
def Seen (l:List GRow) (u:Int) (b:Nat) (j:Nat) (ms:List AObj) (r:AV × List AObj):Prop :=
 ∃ deep ms' es,r=(.p (.bool true),LK b deep::VK::ms')∧ms.length≤ms'.length∧ms'[j]? = some (.map es)∧KOk l u b es∧∀ j',j'<ms.length→j'≠j→ms'[j']? = ms[j']?
def visS (d:Int) (ks:List (List PV)) (jb i m:Nat) (deep:Int) (ms:List AObj):St:=⟨[(1,.p (.int .i64 d)),(4,.ptr true 1 1 1 0 0),(11,.map true (jb+1+1)),(61,.p (.list ks)),(62,.p (.int .i64 ks.length)),(63,.p (.int .i64 i))],[],LK m deep::VK::ms⟩
theorem vis_loop {n N:Nat} (l:List GRow) (a b:Nat) (d:Int) (ks:List (List PV)) (hbt:BTs l a b ks) (hl:l.length≤1048576) (ha:a<l.length) (hd : -1000000≤d∧d≤1000000) (hN:ks.length<N) (ms0:List AObj) (deep0:Int)
  (ih:∀ m m' k es j deep ms,BT l m m' k→(∃ y,l[m]? = some y∧y.up=(a:Int)+1)→a<m→m'≤b→ms[j]? = some (.map es)→KOk l ((a:Int)+1) m es →
   ∃ r,acall T n 129 [.p (.agg k),.p (.int .i64 (d+1)),.map true (j+1+1),pL,pV] (LK m deep::VK::ms)=some r∧Seen l ((a:Int)+1) m' j ms r) :
  ∃ r,aexec (acall T n) N (.loop B129x0) (visS d ks ms0.length 0 (a+1) deep0 (ms0++[.map []]))=some r∧∃ deep ms',r=(.exit 1,⟨[],[],LK b deep::VK::ms'⟩)∧ms0.length≤ms'.length∧∀ j',j'<ms0.length→ms'[j']? = ms0[j']? := by
 refine loop_inv (σ := Nat × Nat × Int × List AObj) (S:=fun s=>visS d ks ms0.length s.1 s.2.1 s.2.2.1 s.2.2.2)
  (I:=fun s=>s.1≤ks.length∧BTs l a s.2.1 (ks.take s.1)∧ms0.length<s.2.2.2.length∧(∀ j',j'<ms0.length→s.2.2.2[j']? = ms0[j']?)∧∃ es,s.2.2.2[ms0.length]? = some (.map es)∧KOk l ((a:Int)+1) s.2.1 es) (μ := fun s=>ks.length - s.1)
  (Q:=fun r=>∃ deep ms',r=(.exit 1,⟨[],[],LK b deep::VK::ms'⟩)∧ms0.length≤ms'.length∧∀ j',j'<ms0.length→ms'[j']? = ms0[j']?) ?_ (0,a+1,deep0,ms0++[.map []]) ⟨by omega,by simpa using BTs.nil,by simp,fun j' hj=>by simp [List.getElem?_append_left hj],[],by simp,fun e he=>by simp at he⟩ (by simp only;omega)
 rintro ⟨i,m,deep,ms⟩ ⟨h1,h2,h3,h4,es,h5,h6⟩
 simp only at h1 h2 h3 h4 h5 h6 ⊢
 by_cases hi:i<ks.length
 ·obtain ⟨k,hk⟩:=get_some hi
  obtain ⟨q,q',y,p1,p2,p3,p4,p5,hle⟩:=hbt.at i k hk
  have hq:q=m:=p1.uniq h2 rfl
  subst hq
  have hlt:=(BTs.lt h2 ha)
  obtain ⟨r,hr,deep',ms',es',rfl,s1,s2,s3,s4⟩:=ih q q' k es ms0.length deep ms p4 ⟨y,p2,p3⟩ (by omega) hle h5 h6
  left
  refine ⟨(i+1,q',deep',ms'), ?_,⟨by omega,p5,by simp only;omega,fun j' hj=>by simp only;rw [s4 j' (by omega) (by omega)];exact h4 j' hj,es',s2,s3⟩,by simp only;omega⟩
  have hg:ks.getD i []=k:=by rw [List.getD_eq_getElem?_getD,hk];rfl
  have hkl:=p4.len
  obtain ⟨c1,c2,c3,c4,c5,rfl⟩:∃ c1 c2 c3 c4 c5,k=[c1,c2,c3,c4,c5]:=by
   match k,hkl with
   | [c1,c2,c3,c4,c5],_=>exact ⟨c1,c2,c3,c4,c5,rfl⟩
  have k1:(i:Int)<(ks.length:Int):=by omega
  have hkl2:=hbt.lt ha
  have k9:(i:Int)≤1048576:=by omega
  simp only [LK,VK,pL,pV] at hr
  simp only [visS,LK,VK]
  simp -implicitDefEqProofs (disch:=omega) only [Rx,simprocAttr,B129x0,k1,hg,hr]
 ·right
  obtain rfl:i=ks.length:=by omega
  rw [List.take_length] at h2
  have hm:m=b:=h2.uniq hbt rfl
  subst hm
  have k1:¬ (ks.length:Int)<(ks.length:Int):=by omega
  refine ⟨(.exit 1,⟨[],[],LK m deep::VK::ms⟩), ?_,by simp,deep,ms,rfl,by omega,h4⟩
  simp only [visS,LK,VK]
  simp -implicitDefEqProofs (disch:=omega) only [Rx,simprocAttr,B129x0,k1]
theorem vis_run (l : List GRow) (hl : l.length ≤ 1048576) (hs : standTo l l.length) (hok : allOk l) (hal : ∀ x ∈ l, x.attrs.length ≤ 1048577) : ∀ (D n a b : Nat) (p : List PV) (x : GRow) (es : List (PV × AV)) (j : Nat) (deep : Int) (ms : List AObj), b - a ≤ D → 1048577 < n → BT l a b p → l[a]? = some x → ms[j]? = some (.map es) → KOk l x.up a es →
    ∃ r,acall T (n+D+39) 129 [.p (.agg p),.p (.int .i64 (chain l (a+1)).length),.map true (j+1+1),pL,pV] (LK a deep::VK::ms)=some r∧Seen l x.up b j ms r:=by
  intro D
  induction D with
  | zero =>
    intro n a b p x es j deep ms hD hn hbt
    have:=hbt.lt
    omega
  | succ D ih =>
    intro n a b p x es j deep ms hD hn hbt hx hj hes
    have hlt:=hbt.lt
    cases hbt with
    | mk hx' hks=>
    rename_i x' ks
    rw [hx] at hx'
    cases hx'
    have ha:a<l.length:=by omega
    obtain ⟨h1,h2,h3,h4⟩:=rowErr_ok (hok a x hx)
    have hlk:=hes.none h4
    have hst:=hes.strs x.key
    have hw:=wrong_run (n:=n+D+1) x ks [] (by have:=hal x (List.mem_of_getElem? hx);omega)
    rw [h3,show n+D+1+38=n+D+39 by omega] at hw
    simp only [nodeCells] at hw
    have k1:((a:Int)==4096)=false:=by simp;omega
    have k2:¬ (64:Int)<((chain l (a+1)).length:Int):=by omega
    have hjl:j<ms.length:=(List.getElem?_eq_some_iff.1 hj).1
    obtain ⟨es1,he1,hes1⟩:∃ es1,es1=(if x.key=[] then es else es++[(.str x.key,.p (.agg []))])∧KOk l x.up (a+1) es1:=by
      refine ⟨_,rfl, ?_⟩
      split
      · exact hes.mono (by omega)
      · rename_i hk;exact hes.more hx hk _
    have hcx:∀ m y,l[m]? = some y→y.up=(a:Int)+1→a<m→(chain l (m+1)).length=(chain l (a+1)).length+1:=by
      intro m y hy hu ham
      have hm:m<l.length:=(List.getElem?_eq_some_iff.1 hy).1
      rw [chain_succ hs (Nat.le_refl _) hm]
      have:upAt l (m+1)=a+1:=by simp [upAt,hy,hu]
      rw [this,List.length_cons]
    have hks':=hks.lt ha
    obtain ⟨r,hr,deep',ms',rfl,hml,hsame⟩:=vis_loop (n:=n+D+39) (N:=n+D+39) l a b (chain l (a+1)).length ks hks hl ha (by omega) (by omega) (ms.set j (.map es1)) (if ((chain l (a+1)).length:Int) > deep then ((chain l (a+1)).length:Int) else deep) (fun m m' k es' j' deep' ms' hb1 hy ham hmb hj' hes'=>by
      obtain ⟨y,hy,hu⟩:=hy
      have:=hb1.lt
      have hc:=hcx m y hy hu ham
      have:=ih n m m' k y es' j' deep' ms' (by omega) hn hb1 hy hj' (by rw [hu];exact hes')
      rw [hc,hu] at this
      push_cast at this
      exact this)
    refine ⟨(.p (.bool true),LK b deep'::VK::ms'), ?_,deep',ms',es1,rfl,by simpa using hml, ?_,hes1.mono (by omega),fun j' hj' hne => ?_⟩
    rotate_left
    · rw [hsame j (by simpa using hjl),List.getElem?_set,if_pos rfl,if_pos hjl]
    · rw [hsame j' (by simpa using hj'),List.getElem?_set,if_neg (fun e=>hne e.symm)]
    rw [show n+(D+1)+39=n+D+39+1 by omega,acall_code T129,run_code rfl rfl]
    simp only [visS,LK,VK,Int.natCast_add,Int.natCast_one,Int.natCast_zero] at hr
    simp only [nodeCells,LK,VK,pL,pV]
    by_cases hk:x.key=[]
    · have hk':(x.key==[])=true:=by simp [hk]
      rw [if_pos hk] at he1
      subst he1
      have hset:ms.set j (.map es1)=ms:=by
        apply List.ext_getElem?
        intro q
        rw [List.getElem?_set]
        split
        · rename_i e;subst e;exact hj.symm
        · rfl
      rw [hset] at hr
      have hlk':mlk 2 es1 (.str [])=none:=by rw [hk] at hlk;exact hlk
      have hst':(es1.all fun e=>(scalarEqK 2 e.1 (.str [])).isSome)=true:=by rw [hk] at hst;exact hst
      rw [hk] at hw
      by_cases hdp:((chain l (a+1)).length:Int) > deep
      · rw [if_pos hdp] at hr
        simp -implicitDefEqProofs (disch:=omega) only [Rx,simprocAttr,F129,hk,k1,k2,hw,hlk',hst',hj,hdp,hr,Option.getD_none,Option.isSome_none]
      · rw [if_neg hdp] at hr
        simp -implicitDefEqProofs (disch:=omega) only [Rx,simprocAttr,F129,hk,k1,k2,hw,hlk',hst',hj,hdp,hr,Option.getD_none,Option.isSome_none]
    · have hk':(x.key==[])=false:=by simpa using hk
      rw [if_neg hk] at he1
      subst he1
      have hmp:=mput_none (v:=.p (.agg [])) hlk
      by_cases hdp:((chain l (a+1)).length:Int) > deep
      · rw [if_pos hdp] at hr
        simp -implicitDefEqProofs (disch:=omega) only [Rx,simprocAttr,F129,hk',k1,k2,hw,hlk,hst,hmp,hj,hdp,hr,Option.getD_none,Option.isSome_none,Option.isSome_some]
      · rw [if_neg hdp] at hr
        simp -implicitDefEqProofs (disch:=omega) only [Rx,simprocAttr,F129,hk',k1,k2,hw,hlk,hst,hmp,hj,hdp,hr,Option.getD_none,Option.isSome_none,Option.isSome_some]
end Go.TA.Tryz


end
section
/- The program's look at the tree of any rows that stand as a tree's do: what is wrong first. -/
set_option maxRecDepth 100000
set_option maxHeartbeats 8000000
namespace Go.TA.Tryz
theorem chain_len {l:List GRow} (hs:standTo l l.length):∀ (d x:Nat),x≤d→x≤l.length→(chain l x).length≤x
  | 0, x, h, _ => by
    obtain rfl:x=0:=by omega
    simp [chain_zero]
  | d + 1, x, h, hx => by
    cases x with
    | zero=>simp [chain_zero]
    | succ x =>
      have hlt:x<l.length:=by omega
      have hu:=upAt_le hs hlt hlt
      rw [chain_succ hs (Nat.le_refl _) hlt,List.length_cons]
      have:=chain_len hs d (upAt l (x+1)) (by omega) (by omega)
      omega
def errR (l:List GRow) (a b:Nat):Int:=errFrom l a ((l.take b).drop a)
theorem errR_self (l:List GRow) (a:Nat):errR l a a=0:=by
 have:(l.take a).drop a=[]:=List.drop_eq_nil_of_le (by rw [List.length_take];omega)
 rw [errR,this];rfl
theorem errR_cons {l:List GRow} {a b:Nat} {x:GRow} (hx:l[a]? = some x) (hab:a<b):errR l a b=if rowErr l a x=0 then errR l (a+1) b else rowErr l a x:=by
 have h1:(l.take b)[a]? = some x:=by rw [List.getElem?_take,if_pos hab];exact hx
 have:(l.take b).drop a=x::(l.take b).drop (a+1):=by rw [List.drop_eq_getElem?_toList_append,h1];rfl
 rw [errR,this];rfl
theorem errR_split {l:List GRow}:∀ (d:Nat) {a m b:Nat},m=a+d→m≤b→b≤l.length→errR l a b=if errR l a m=0 then errR l m b else errR l a m
  | 0, a, m, b, hm, hb, hl => by
    obtain rfl:m=a:=by omega
    rw [errR_self,if_pos rfl]
  | d + 1, a, m, b, hm, hb, hl => by
    obtain ⟨x,hx⟩:=get_some (show a<l.length by omega)
    rw [errR_cons hx (show a<b by omega),errR_cons hx (show a<m by omega)]
    by_cases h:rowErr l a x=0
    · rw [if_pos h,if_pos h]
      exact errR_split d (by omega) hb hl
    · rw [if_neg h,if_neg h,if_neg h]
theorem errR_all {l:List GRow}:errR l 0 l.length=errFrom l 0 l:=by rw [errR,List.take_length,List.drop_zero]
mutual
theorem BT.inner {l:List GRow} {a b:Nat} {p:List PV}:BT l a b p→∀ (j:Nat) y,a<j→j<b→l[j]? = some y→(a:Int)+1≤y.up
 | .mk hx h=>BTs.inner h (List.getElem?_eq_some_iff.1 hx).1
theorem BTs.inner {l : List GRow} {a b : Nat} {ks : List (List PV)} : BTs l a b ks → a < l.length → ∀ (j : Nat) y, a < j → j < b → l[j]? = some y → (a : Int) + 1 ≤ y.up
  | .nil,ha=>fun j y h1 h2=>by omega
  | .snoc (m := m) h hy hu h2, ha => fun j y h1 h3 hj => by
    have hm:=(BTs.lt h ha).1
    by_cases e:j<m
    · exact BTs.inner h ha j y h1 e hj
    · by_cases e2:j=m
      · subst e2
        rw [hy] at hj
        cases hj
        omega
      · have:=BT.inner h2 j y (by omega) h3 hj
        omega
end
structure KAll (l:List GRow) (u:Int) (b:Nat) (es:List (PV × AV)):Prop where
 ok:KOk l u b es
 vals:∀ e ∈ es,e.2 = .p (.agg [])
 all:∀ (j:Nat) (y:GRow),j<b→l[j]? = some y→y.up=u→y.key≠[]→∃ v,(PV.str y.key,v) ∈ es
theorem KAll.get {l:List GRow} {u:Int} {b:Nat} {es:List (PV × AV)} (h:KAll l u b es) (k:PV):(mlk 2 es k).getD (.p (.agg [])) = .p (.agg []):=by
  have hv:=h.vals
  clear h
  induction es with
  | nil=>rfl
  | cons e es ih =>
    obtain ⟨a,v⟩:=e
    simp only [mlk]
    split
    · simpa using hv (a,v) (by simp)
    · exact ih (fun e he=>hv e (by simp [he]))
theorem mlk_mem {es : List (PV × AV)} {k : Bs} {v : AV} (hs : ∀ e ∈ es, ∃ s, e.1 = PV.str s) (h : (PV.str k, v) ∈ es) : (mlk 2 es (.str k)).isSome = true := by
  induction es with
  | nil=>simp at h
  | cons e es ih =>
    obtain ⟨a,w⟩:=e
    simp only [mlk]
    split
    · rfl
    · rename_i hne
      rcases List.mem_cons.1 h with h1 | h1
      · cases h1
        exact absurd (by simp [scalarEqK]) hne
      · exact ih (fun e he=>hs e (by simp [he])) h1
theorem KAll.dup {l:List GRow} {x:GRow} {b:Nat} {es:List (PV × AV)} (h:KAll l x.up b es) (hd:dupB l b x=true):(mlk 2 es (.str x.key)).isSome=true:=by
 simp only [dupB,Bool.and_eq_true,Bool.not_eq_true',List.any_eq_true] at hd
 obtain ⟨hk,y,hy,ht⟩:=hd
 simp only [twinB,Bool.and_eq_true,beq_iff_eq] at ht
 obtain ⟨j,hj⟩:=List.mem_iff_getElem?.1 hy
 rw [List.getElem?_take] at hj
 split at hj
 ·rename_i hjb
  obtain ⟨v,hv⟩:=h.all j y hjb hj ht.1 (by rw [ht.2];simpa using hk)
  rw [ht.2] at hv
  exact mlk_mem (fun e he=>by obtain ⟨k,h1,_⟩:=h.ok e he;exact ⟨k,h1⟩) hv
 ·cases hj
theorem KAll.same {l:List GRow} {u:Int} {b b':Nat} {es:List (PV × AV)} (h:KAll l u b es) (hb:b≤b') (hn:∀ (j:Nat) (y:GRow),b≤j→j<b'→l[j]? = some y→y.up≠u):KAll l u b' es where
 ok:=h.ok.mono hb
 vals:=h.vals
 all j y hj hy hu hk:=by
  by_cases e:j<b
  ·exact h.all j y e hy hu hk
  ·exact absurd hu (hn j y (by omega) hj hy)
theorem KAll.met {l : List GRow} {x : GRow} {b : Nat} {es : List (PV × AV)} (h : KAll l x.up b es) (hx : l[b]? = some x) : KAll l x.up (b + 1) (if x.key = [] then es else es ++ [(.str x.key, .p (.agg []))]) := by
  split
  · rename_i hk
    refine ⟨h.ok.mono (by omega),h.vals,fun j y hj hy hu hk2 => ?_⟩
    by_cases e:j<b
    · exact h.all j y e hy hu hk2
    · obtain rfl:j=b:=by omega
      rw [hx] at hy
      cases hy
      exact absurd hk hk2
  · rename_i hk
    refine ⟨h.ok.more hx hk _,fun e he => ?_,fun j y hj hy hu hk2 => ?_⟩
    · rcases List.mem_append.1 he with h1 | h1
      · exact h.vals e h1
      · simp only [List.mem_singleton] at h1
        subst h1;rfl
    · by_cases e:j<b
      · obtain ⟨v,hv⟩:=h.all j y e hy hu hk2
        exact ⟨v,List.mem_append.2 (.inl hv)⟩
      · obtain rfl:j=b:=by omega
        rw [hx] at hy
        cases hy
        exact ⟨.p (.agg []),List.mem_append.2 (.inr (by simp))⟩
def LKE (m deep e:Int):AObj:=.pcells 3 [[.int .i64 m,.int .i64 deep,.int .i64 e]]
def SeenE (l:List GRow) (u:Int) (a b:Nat) (j:Nat) (ms:List AObj) (r:AV × List AObj):Prop :=
 (errR l a b=0∧∃ deep ms' es,r=(.p (.bool true),LK b deep::VK::ms')∧ms.length≤ms'.length∧ms'[j]? = some (.map es)∧KAll l u b es∧∀ j',j'<ms.length→j'≠j→ms'[j']? = ms[j']?)
 ∨ (errR l a b≠0∧∃ m deep ms',r=(.p (.bool false),LKE m deep (errR l a b)::VK::ms'))
theorem visE_loop {n N:Nat} (l:List GRow) (a b:Nat) (d:Int) (ks:List (List PV)) (hbt:BTs l a b ks) (hl:l.length≤1048576) (hs:standTo l l.length) (ha:a<l.length) (hd : -1000000≤d∧d≤1000000) (hN:ks.length<N) (ms0:List AObj) (deep0:Int)
    (ih:∀ m m' k es j deep ms,BT l m m' k→(∃ y,l[m]? = some y∧y.up=(a:Int)+1)→a<m→m'≤b→ms[j]? = some (.map es)→KAll l ((a:Int)+1) m es →
      ∃ r,acall T n 129 [.p (.agg k),.p (.int .i64 (d+1)),.map true (j+1+1),pL,pV] (LK m deep::VK::ms)=some r∧SeenE l ((a:Int)+1) m m' j ms r) :
    ∃ r, aexec (acall T n) N (.loop B129x0) (visS d ks ms0.length 0 (a + 1) deep0 (ms0 ++ [.map []])) = some r ∧ ((errR l (a + 1) b = 0 ∧ ∃ deep ms', r = (.exit 1, ⟨[], [], LK b deep :: VK :: ms'⟩) ∧ ms0.length ≤ ms'.length ∧ ∀ j', j' < ms0.length → ms'[j']? = ms0[j']?)
      ∨ (errR l (a+1) b≠0∧∃ m deep ms',r=(.ret,⟨[(8,.p (.bool false))],[],LKE m deep (errR l (a+1) b)::VK::ms'⟩))):=by
  have hbl:=hbt.lt ha
  refine loop_inv (σ := Nat × Nat × Int × List AObj) (S:=fun s=>visS d ks ms0.length s.1 s.2.1 s.2.2.1 s.2.2.2)
    (I:=fun s=>s.1≤ks.length∧BTs l a s.2.1 (ks.take s.1)∧ms0.length<s.2.2.2.length∧(∀ j',j'<ms0.length→s.2.2.2[j']? = ms0[j']?)∧errR l (a+1) s.2.1=0∧∃ es,s.2.2.2[ms0.length]? = some (.map es)∧KAll l ((a:Int)+1) s.2.1 es) (μ := fun s=>ks.length - s.1)
    (Q:=fun r=>(errR l (a+1) b=0∧∃ deep ms',r=(.exit 1,⟨[],[],LK b deep::VK::ms'⟩)∧ms0.length≤ms'.length∧∀ j',j'<ms0.length→ms'[j']? = ms0[j']?)
      ∨ (errR l (a+1) b≠0∧∃ m deep ms',r=(.ret,⟨[(8,.p (.bool false))],[],LKE m deep (errR l (a+1) b)::VK::ms'⟩))) ?_ (0,a+1,deep0,ms0++[.map []]) ⟨by omega,by simpa using BTs.nil,by simp,fun j' hj=>by simp [List.getElem?_append_left hj],errR_self l (a+1),[],by simp,⟨fun e he=>by simp at he,fun e he=>by simp at he,fun j y hj hy hu _=>by
      have:=hs j y (List.getElem?_eq_some_iff.1 hy).1 hy
      have hj:j<a+1:=hj
      omega⟩⟩ (by simp only;omega)
  rintro ⟨i,m,deep,ms⟩ ⟨h1,h2,h3,h4,h7,es,h5,h6⟩
  simp only at h1 h2 h3 h4 h5 h6 h7 ⊢
  by_cases hi:i<ks.length
  · obtain ⟨k,hk⟩:=get_some hi
    obtain ⟨q,q',y,p1,p2,p3,p4,p5,hle⟩:=hbt.at i k hk
    have hq:q=m:=p1.uniq h2 rfl
    subst hq
    have hlt:=(BTs.lt h2 ha)
    have hlt4:=p4.lt
    obtain ⟨r,hr,hse⟩:=ih q q' k es ms0.length deep ms p4 ⟨y,p2,p3⟩ (by omega) hle h5 h6
    have hg:ks.getD i []=k:=by rw [List.getD_eq_getElem?_getD,hk];rfl
    have hkl:=p4.len
    obtain ⟨c1,c2,c3,c4,c5,rfl⟩:∃ c1 c2 c3 c4 c5,k=[c1,c2,c3,c4,c5]:=by
      match k,hkl with
      | [c1,c2,c3,c4,c5],_=>exact ⟨c1,c2,c3,c4,c5,rfl⟩
    have k1:(i:Int)<(ks.length:Int):=by omega
    have k9:(i:Int)≤1048576:=by omega
    have hsp:=errR_split (l:=l) (q' - (a+1)) (a:=a+1) (m:=q') (b:=b) (by omega) hle (by omega)
    have hsq:=errR_split (l:=l) (q - (a+1)) (a:=a+1) (m:=q) (b:=q') (by omega) (by omega) (by omega)
    rw [h7,if_pos rfl] at hsq
    rcases hse with ⟨he0,deep',ms',es',rfl,s1,s2,s3,s4⟩ | ⟨he0,m',deep',ms',rfl⟩
    · left
      refine ⟨(i+1,q',deep',ms'), ?_,⟨by omega,p5,by simp only;omega,fun j' hj=>by simp only;rw [s4 j' (by omega) (by omega)];exact h4 j' hj,by simp only;rw [hsq];exact he0,es',s2,s3⟩,by simp only;omega⟩
      simp only [LK,VK,pL,pV] at hr
      simp only [visS,LK,VK]
      simp -implicitDefEqProofs (disch:=omega) only [Rx,simprocAttr,B129x0,k1,hg,hr]
    · right
      have hne:errR l (a+1) q'≠0:=by rw [hsq];exact he0
      have hb:errR l (a+1) b=errR l q q':=by rw [hsp,if_neg hne,hsq]
      refine ⟨(.ret,⟨[(8,.p (.bool false))],[],LKE m' deep' (errR l q q')::VK::ms'⟩), ?_,by simp,.inr ⟨by rw [hb];exact he0,m',deep',ms',by rw [hb]⟩⟩
      generalize errR l q q'=e at hr
      simp only [LK,LKE,VK,pL,pV] at hr ⊢
      simp only [visS,LK,VK]
      simp -implicitDefEqProofs (disch:=omega) only [Rx,simprocAttr,B129x0,k1,hg,hr]
  · right
    obtain rfl:i=ks.length:=by omega
    rw [List.take_length] at h2
    have hm:m=b:=h2.uniq hbt rfl
    subst hm
    have k1:¬ (ks.length:Int)<(ks.length:Int):=by omega
    refine ⟨(.exit 1,⟨[],[],LK m deep::VK::ms⟩), ?_,by simp,.inl ⟨h7,deep,ms,rfl,by omega,h4⟩⟩
    simp only [visS,LK,VK]
    simp -implicitDefEqProofs (disch:=omega) only [Rx,simprocAttr,B129x0,k1]
theorem visE_run (l : List GRow) (hl : l.length ≤ 1048576) (hs : standTo l l.length) (hal : ∀ x ∈ l, x.attrs.length ≤ 1048577) : ∀ (D n a b : Nat) (p : List PV) (x : GRow) (es : List (PV × AV)) (j : Nat) (deep : Int) (ms : List AObj), b - a ≤ D → 1048577 < n → BT l a b p → l[a]? = some x → ms[j]? = some (.map es) → KAll l x.up a es →
    ∃ r,acall T (n+D+39) 129 [.p (.agg p),.p (.int .i64 (chain l (a+1)).length),.map true (j+1+1),pL,pV] (LK a deep::VK::ms)=some r∧SeenE l x.up a b j ms r:=by
  intro D
  induction D with
  | zero =>
    intro n a b p x es j deep ms hD hn hbt
    have:=hbt.lt
    omega
  | succ D ih =>
    intro n a b p x es j deep ms hD hn hbt hx hj hes
    have hlt:=hbt.lt
    have hinner:=hbt.inner
    cases hbt with
    | mk hx' hks=>
    rename_i x' ks
    rw [hx] at hx'
    cases hx'
    have ha:a<l.length:=by omega
    have hec:=errR_cons hx (show a<b by omega)
    have hgd:=hes.get (.str x.key)
    have hst:=hes.ok.strs x.key
    have hw:=wrong_run (n:=n+D+1) x ks [] (by have:=hal x (List.mem_of_getElem? hx);omega)
    rw [show n+D+1+38=n+D+39 by omega] at hw
    simp only [nodeCells] at hw
    have hjl:j<ms.length:=(List.getElem?_eq_some_iff.1 hj).1
    have hcl:(chain l (a+1)).length≤1048576:=by
      have:=chain_len hs (a+1) (a+1) (Nat.le_refl _) (show a+1≤l.length by omega)
      omega
    rw [show n+(D+1)+39=n+D+39+1 by omega,acall_code T129,run_code rfl rfl]
    generalize hcn:(chain l (a+1)).length=cn at hcl
    by_cases hre:rowErr l a x=0
    rotate_left
    · rw [if_neg hre] at hec
      refine ⟨(.p (.bool false),LKE a (if (cn:Int) > deep then (cn:Int) else deep) (errR l a b)::VK::ms), ?_,.inr ⟨by rw [hec];exact hre,_,_,_,rfl⟩⟩
      rw [hec]
      unfold rowErr at hre ⊢
      rw [hcn] at hre ⊢
      generalize hlk:mlk 2 es (.str x.key)=lk2 at hgd
      by_cases h1:a=4096
      · rw [if_pos h1]
        have k1:((a:Int)==4096)=true:=by simp;omega
        simp only [nodeCells,LK,LKE,VK,pL,pV]
        simp -implicitDefEqProofs (disch:=omega) only [Rx,simprocAttr,F129,k1,hlk,hgd,hst,hj]
      rw [if_neg h1] at hre ⊢
      have k1:((a:Int)==4096)=false:=by simp;omega
      by_cases h2:64<cn
      · rw [if_pos h2]
        have k2:(64:Int)<(cn:Int):=by omega
        simp only [nodeCells,LK,LKE,VK,pL,pV]
        simp -implicitDefEqProofs (disch:=omega) only [Rx,simprocAttr,F129,k1,k2,hlk,hgd,hst,hj]
      rw [if_neg h2] at hre ⊢
      have k2:¬ (64:Int)<(cn:Int):=by omega
      by_cases h3:aloneErr x=0
      rotate_left
      · rw [if_neg h3]
        have k3:(aloneErr x==0)=false:=by simpa using h3
        generalize aloneErr x=e at hw k3
        simp only [nodeCells,LK,LKE,VK,pL,pV]
        simp -implicitDefEqProofs (disch:=omega) only [Rx,simprocAttr,F129,k1,k2,k3,hw,hlk,hgd,hst,hj]
      rw [if_pos h3] at hre ⊢
      rw [h3] at hw
      have h4:dupB l a x=true:=by
        by_cases h4:dupB l a x=true
        · exact h4
        · rw [if_neg h4] at hre;exact absurd rfl hre
      rw [if_pos h4]
      have hsm:=hes.dup h4
      rw [hlk] at hsm
      simp only [nodeCells,LK,LKE,VK,pL,pV]
      simp -implicitDefEqProofs (disch:=omega) only [Rx,simprocAttr,F129,k1,k2,hw,hlk,hgd,hsm,hst,hj]
    rw [if_pos hre] at hec
    obtain ⟨h1,h2,h3,h4⟩:=rowErr_ok hre
    rw [hcn] at h2
    rw [h3] at hw
    have hlk:=hes.ok.none h4
    have k1:((a:Int)==4096)=false:=by simp;omega
    have k2:¬ (64:Int)<(cn:Int):=by omega
    have hes1:=hes.met hx
    have hcx:∀ m y,l[m]? = some y→y.up=(a:Int)+1→a<m→(chain l (m+1)).length=cn+1:=by
      intro m y hy hu ham
      have hm:m<l.length:=(List.getElem?_eq_some_iff.1 hy).1
      rw [chain_succ hs (Nat.le_refl _) hm]
      have:upAt l (m+1)=a+1:=by simp [upAt,hy,hu]
      rw [this,List.length_cons,hcn]
    have hks':=hks.lt ha
    have hup:=hs a x ha hx
    generalize he1:(if x.key=[] then es else es++[(PV.str x.key,AV.p (.agg []))])=es1 at hes1
    obtain ⟨r,hr,hres⟩:=visE_loop (n:=n+D+39) (N:=n+D+39) l a b cn ks hks hl hs ha (by omega) (by omega) (ms.set j (.map es1)) (if (cn:Int) > deep then (cn:Int) else deep) (fun m m' k es' j' deep' ms' hb1 hy ham hmb hj' hes'=>by
      obtain ⟨y,hy,hu⟩:=hy
      have:=hb1.lt
      have hc:=hcx m y hy hu ham
      have:=ih n m m' k y es' j' deep' ms' (by omega) hn hb1 hy hj' (by rw [hu];exact hes')
      rw [hc,hu] at this
      push_cast at this
      exact this)
    have fin:∀ r',acall T (n+D+39+1) 129 [.p (.agg (nodeCells x ks)),.p (.int .i64 cn),.map true (j+1+1),pL,pV] (LK a deep::VK::ms)=some r'→SeenE l x.up a b j ms r'→∃ r,br (acall T (n+D+39)) F129 (aexec (acall T (n+D+39)) (n+D+39) F129.body (enterSt [.p (.agg (nodeCells x ks)),.p (.int .i64 cn),.map true (j+1+1),pL,pV] (LK a deep::VK::ms)))=some r∧SeenE l x.up a b j ms r:=fun r' h1 h2=>by
      rw [acall_code T129,run_code rfl rfl] at h1
      exact ⟨r',h1,h2⟩
    have hset:x.key=[]→ms.set j (.map es1)=ms:=fun hk=>by
      rw [if_pos hk] at he1
      subst he1
      apply List.ext_getElem?
      intro q
      rw [List.getElem?_set]
      split
      · rename_i e;subst e;exact hj.symm
      · rfl
    simp only [visS,LK,VK,Int.natCast_add,Int.natCast_one,Int.natCast_zero] at hr
    rcases hres with ⟨he0,deep',ms',rfl,hml,hsame⟩ | ⟨he0,m',deep',ms',rfl⟩
    · refine fin (.p (.bool true),LK b deep'::VK::ms') ?_ (.inl ⟨by rw [hec];exact he0,deep',ms',es1,rfl,by simpa using hml, ?_, ?_,fun j' hj' hne => ?_⟩)
      rotate_left
      · rw [hsame j (by simpa using hjl),List.getElem?_set,if_pos rfl,if_pos hjl]
      · refine hes1.same (by omega) fun q y hq1 hq2 hy hu => ?_
        have:=hinner q y (by omega) hq2 hy
        omega
      · rw [hsame j' (by simpa using hj'),List.getElem?_set,if_neg (fun e=>hne e.symm)]
      rw [acall_code T129,run_code rfl rfl]
      simp only [nodeCells,LK,VK,pL,pV] at hr ⊢
      by_cases hk:x.key=[]
      · rw [hset hk] at hr
        rw [hk] at hw hlk hst
        simp -implicitDefEqProofs (disch:=omega) only [Rx,simprocAttr,F129,hk,k1,k2,hw,hlk,hst,hj,hr,Option.getD_none,Option.isSome_none]
      · have hk':(x.key==[])=false:=by simpa using hk
        rw [if_neg hk] at he1
        subst he1
        have hmp:=mput_none (v:=.p (.agg [])) hlk
        simp -implicitDefEqProofs (disch:=omega) only [Rx,simprocAttr,F129,hk',k1,k2,hw,hlk,hst,hmp,hj,hr,Option.getD_none,Option.isSome_none,Option.isSome_some]
    · refine fin (.p (.bool false),LKE m' deep' (errR l (a+1) b)::VK::ms') ?_ (.inr ⟨by rw [hec];exact he0,m',deep',ms',by rw [hec]⟩)
      rw [acall_code T129,run_code rfl rfl]
      generalize errR l (a+1) b=e at hr
      simp only [nodeCells,LK,LKE,VK,pL,pV] at hr ⊢
      by_cases hk:x.key=[]
      · rw [hset hk] at hr
        rw [hk] at hw hlk hst
        simp -implicitDefEqProofs (disch:=omega) only [Rx,simprocAttr,F129,hk,k1,k2,hw,hlk,hst,hj,hr,Option.getD_none,Option.isSome_none]
      · have hk':(x.key==[])=false:=by simpa using hk
        rw [if_neg hk] at he1
        subst he1
        have hmp:=mput_none (v:=.p (.agg [])) hlk
        simp -implicitDefEqProofs (disch:=omega) only [Rx,simprocAttr,F129,hk',k1,k2,hw,hlk,hst,hmp,hj,hr,Option.getD_none,Option.isSome_none,Option.isSome_some]
end Go.TA.Tryz


end
section
/- The tree of rows, as the program builds it, and where it ends. -/
set_option maxRecDepth 100000
set_option maxHeartbeats 8000000
namespace Go.TA.Tryz
def buildQE (l:List GRow) (a:Nat) (x:GRow) (r:Ex × St):Prop:=∃ nx ks,BTs l a nx ks∧nx=endOf l (a+1)∧r=(.exit 0,⟨[(4,.ptr false 4 5 1 0 0),(7,.ptr false 7 5 1 0 0),(8,.p (.int .i64 nx))],buildL x ks,kidsG ks⟩)
theorem buildE_loop {n N : Nat} (l : List GRow) (hl : l.length ≤ 1048576) (hs : sound l) (a : Nat) (x : GRow) (hx : l[a]? = some x) (hN : l.length - a < N)
    (ih:∀ m,a<m→m<l.length→∃ b p,BT l m b p∧b=endOf l (m+1)∧∀ g,acall T n 97 [.p (.list (l.map GRow.pv)),.p (.int .i64 m)] g=some (.tuple [.p (.agg p),.p (.int .i64 b)],g)) :
    ∃ r,aexec (acall T n) N (.loop B97x0) (buildS l a x (a+1) [])=some r∧buildQE l a x r:=by
  have ha:a<l.length:=(List.getElem?_eq_some_iff.1 hx).1
  refine loop_inv (σ := Nat × List (List PV)) (S:=fun s=>buildS l a x s.1 s.2) (I:=fun s=>BTs l a s.1 s.2∧s.1≤endOf l (a+1)∧(s.1=a+1∨∃ m,a+1≤m∧m<s.1∧s.1=endOf l (m+1)∧upAt l (m+1)=a+1)) (μ := fun s=>l.length - s.1) (Q:=buildQE l a x) ?_ (a+1,[]) ⟨.nil,(endOf_le (by omega)).1,.inl rfl⟩ (by simp only;omega)
  rintro ⟨nx,ks⟩ ⟨hI,hle,hcl⟩
  simp only at hI hle hcl ⊢
  have hel:=(endOf_le (l:=l) (h:=a+1) (by omega)).2
  have hlt:=hI.lt ha
  by_cases h:nx<l.length
  · obtain ⟨y,hy⟩:=get_some h
    have hg:=getD_map (f:=GRow.pv) hy
    have k1:(nx:Int)<(l.length:Int):=by omega
    cases hu:(y.up==(a:Int)+1) with
    | true =>
      obtain ⟨b,p,hbt,hbe,hrun⟩:=ih nx (by omega) h
      have hr:=hrun []
      have hp:=hbt.len
      have hb:=hbt.lt
      have hu':y.up=(a:Int)+1:=by simpa using hu
      left
      refine ⟨(b,ks++[p]), ?_,⟨.snoc hI hy hu' hbt, ?_,.inr ⟨nx,by omega,by simp only;omega,hbe,by simp [upAt,hy,hu']⟩⟩,by simp only;omega⟩
      rotate_left
      · simp only
        rw [hbe]
        refine end_mono (by omega) ?_ (by omega)
        rcases Nat.lt_or_ge nx (endOf l (a+1)) with h5 | h5
        · exact h5
        · have h6:nx=endOf l (a+1):=by omega
          have:=endOf_at (l:=l) (h:=a+1) (x:=y) (by omega) (by rw [← h6];exact hy)
          omega
      obtain ⟨c1,c2,c3,c4,c5,rfl⟩:∃ c1 c2 c3 c4 c5,p=[c1,c2,c3,c4,c5]:=by
        match p,hp with
        | [c1,c2,c3,c4,c5],_=>exact ⟨c1,c2,c3,c4,c5,rfl⟩
      cases ks with
      | nil =>
        simp only [buildS,buildL,kidsC,kidsG,List.nil_append]
        simp -implicitDefEqProofs (disch:=omega) only [Rx,simprocAttr,B97x0,k1,hg,GRow.pv,hu,hr]
      | cons k0 ks0 =>
        have hkl:(k0::ks0).length+1≤1048576:=by omega
        simp only [buildS,buildL,kidsC,kidsG,List.cons_append,List.length_cons,List.length_append,List.length_nil] at hkl ⊢
        simp -implicitDefEqProofs (disch:=omega) only [Rx,simprocAttr,B97x0,k1,hg,GRow.pv,hu,hr,List.length_append]
    | false =>
      right
      have hu':¬ y.up=(a:Int)+1:=by simpa using hu
      refine ⟨_, ?_, ?_,nx,ks,hI, ?_,rfl⟩
      rotate_right
      · rcases Nat.lt_or_ge nx (endOf l (a+1)) with h5 | h5
        · obtain ⟨z,hz,hzu⟩:=kid_next hs (h:=a+1) (cur:=nx) (by omega) h5 hcl (by omega)
          rw [hy] at hz
          cases hz
          exact absurd (by omega) hu'
        · omega
      · simp only [buildS,buildL]
        simp -implicitDefEqProofs (disch:=omega) only [Rx,simprocAttr,B97x0,k1,hg,GRow.pv,hu,kidsC_m]
      · simp
  · right
    have k1:¬ (nx:Int)<(l.length:Int):=by omega
    refine ⟨_, ?_, ?_,nx,ks,hI, ?_,rfl⟩
    · simp only [buildS,buildL]
      simp -implicitDefEqProofs (disch:=omega) only [Rx,simprocAttr,B97x0,k1,kidsC_m]
    · simp
    · omega
theorem buildE_run (l:List GRow) (hl:l.length≤1048576) (hs:sound l) (hal:∀ x ∈ l,x.attrs.length≤1048577):∀ (d a n:Nat),a<l.length→l.length - a≤d→∃ b p,BT l a b p∧b=endOf l (a+1)∧∀ g,acall T (n+d+3) 97 [.p (.list (l.map GRow.pv)),.p (.int .i64 a)] g=some (.tuple [.p (.agg p),.p (.int .i64 b)],g):=by
  intro d
  induction d with
  | zero=>intro a n ha hd;omega
  | succ d ih =>
    intro a n ha hd
    obtain ⟨x,hx⟩:=get_some ha
    have hg:=getD_map (f:=GRow.pv) hx
    have k1:(a:Int)<(l.length:Int):=by omega
    obtain ⟨r,hr,nx,ks,hbt,hlast,rfl⟩:=buildE_loop (n:=n+d+3) (N:=n+d+3) l hl hs a x hx (by omega) (fun m h1 h2=>by
      obtain ⟨b,p,q1,q2,q3⟩:=ih m n h2 (by omega)
      exact ⟨b,p,q1,q2,q3⟩)
    refine ⟨nx,nodeCells x ks,.mk hx hbt,hlast,fun g => ?_⟩
    rw [show n+(d+1)+3=n+d+3+1 by omega,acall_code T97,run_pure rfl rfl rfl]
    have hcl:=fun g=>cloneA_run x.attrs (hal x (List.mem_of_getElem? hx)) g (n+d+2)
    cases ks with
    | nil =>
      simp only [buildS,buildL,kidsC,kidsG,Int.natCast_add,Int.natCast_one] at hr
      simp only [nodeCells]
      simp -implicitDefEqProofs (disch:=omega) only [Rx,simprocAttr,F97,k1,hg,GRow.pv,attrsPV,hcl,hr,attrs_same]
    | cons k0 ks0 =>
      simp only [buildS,buildL,kidsC,kidsG,Int.natCast_add,Int.natCast_one] at hr
      simp only [nodeCells]
      simp -implicitDefEqProofs (disch:=omega) only [Rx,simprocAttr,F97,k1,hg,GRow.pv,attrsPV,hcl,hr,attrs_same]
end Go.TA.Tryz


end
section
/- Rows that are right for the document's answer are right for the program. -/
set_option maxRecDepth 100000
set_option maxHeartbeats 8000000
namespace Go.TA.Tryz
theorem chain_one {l:List GRow} {x:GRow} (hs:standTo l l.length) (hx:l[0]? = some x):chain l 1=[1]:=by
 have hlt:0<l.length:=(List.getElem?_eq_some_iff.1 hx).1
 rw [chain_succ hs (Nat.le_refl _) hlt]
 have:=upAt_le hs hlt hlt
 have:upAt l 1=0:=by simpa using this
 rw [this];rfl
theorem check_run (l:List GRow) (hl:l.length≤1048576) (hs:standTo l l.length) (hok:allOk l) (hal:∀ x ∈ l,x.attrs.length≤1048577) {b:Nat} {p:List PV} (hbt:BT l 0 b p) {n:Nat} (hn:1048577<n) (g:List AObj) :
  ∃ deep,acall T (n+l.length+40) 119 [.p (.agg p)] g=some (.p (.agg [.int .i64 b,.int .i64 deep,.int .i64 0]),g):=by
 have hlt:=hbt.lt
 have hbt':=hbt
 cases hbt with
 | mk hx hks=>
 rename_i x ks
 obtain ⟨r,hr,deep,ms',es,rfl,_,_,_,_⟩:=vis_run l hl hs hok hal l.length n 0 b (nodeCells x ks) x [] 0 0 [.map []] (by omega) hn hbt' hx rfl (fun e he=>by simp at he)
 refine ⟨deep, ?_⟩
 rw [acall_code T119,run_pure rfl rfl rfl]
 have hc:=chain_one hs hx
 simp only [Nat.zero_add,hc,List.length_singleton,Int.natCast_one,Int.natCast_zero,LK,VK,pL,pV,nodeCells] at hr
 simp only [nodeCells]
 simp -implicitDefEqProofs (disch:=omega) only [Rx,simprocAttr,F119,hr]
theorem vcheck_run (l:List GRow) (hl:l.length≤1048576) (hs:standTo l l.length) (hok:allOk l) (hal:∀ x ∈ l,x.attrs.length≤1048577) {b:Nat} {p:List PV} (hbt:BT l 0 b p) {n:Nat} (hn:1048577<n) (g:List AObj) :
  acall T (n+l.length+41) 98 [.p (.agg p)] g=some (.tuple [.p (.int .i64 0),.p (.int .i64 0)],g):=by
 obtain ⟨deep,hr⟩:=check_run l hl hs hok hal hbt hn []
 cases hbt with
 | mk hx hks=>
 rename_i x ks
 rw [acall_code T98,run_pure rfl rfl rfl]
 simp only [nodeCells] at hr ⊢
 simp -implicitDefEqProofs (disch:=omega) only [Rx,simprocAttr,F98,hr]
end Go.TA.Tryz


end
section
/- Rows that are right for the document's answer are right for the program. -/
set_option maxRecDepth 100000
set_option maxHeartbeats 8000000
namespace Go.TA.Tryz
theorem tree_run (l:List GRow) (hl:l.length≤1048576) (hne:l≠[]) (hf:formedB l=true) (hok:allOk l) (hal:∀ x ∈ l,x.attrs.length≤1048577) {n:Nat} (hn:1048577<n) (g:List AObj) :
  ∃ p,(∃ c1 c2 c3 c4 c5,p=[c1,c2,c3,c4,c5])∧acall T (n+l.length+42) 61 [.p (.list (l.map GRow.pv))] g=some (.tuple [.p (.agg p),.p (.int .i64 0)],g):=by
 have hs:=formed_stands hf
 have hlen:0<l.length:=List.length_pos_iff.2 hne
 have hsh:shallow l:=fun i hi=>by
  obtain ⟨x,hx⟩:=get_some hi
  exact (rowErr_ok (hok i x hx)).2.1
 have h4:l.length≤4096:=by
  rcases Nat.lt_or_ge 4096 l.length with h | h
  ·obtain ⟨i,hi⟩:∃ i:Nat,i=4096:=⟨4096,rfl⟩
   rw [← hi] at h
   obtain ⟨x,hx⟩:=get_some h
   exact absurd hi (rowErr_ok (hok i x hx)).1
  ·exact h
 obtain ⟨b,p,hbt,_,hb⟩:=build_run l hl hal l.length 0 (n+38) hlen (by omega)
 have hb:=hb []
 rw [show n+38+l.length+3=n+l.length+41 by omega] at hb
 have hv:=vcheck_run l hl hs hok hal hbt hn []
 have hfr:=formP_run l hl [] (n:=n+l.length+40) (by omega)
 rw [hf] at hfr
 have hdr:=deep_run l hs hsh h4 [] (n:=n+l.length+40) (by omega)
 cases hbt with
 | @mk _ _ x ks hx hks=>
 refine ⟨nodeCells x ks,⟨_,_,_,_,_,rfl⟩, ?_⟩
 rw [acall_code T61,run_pure rfl rfl rfl]
 simp only [nodeCells,Int.natCast_zero] at hb hv ⊢
 have k0:((l.length:Int)==0)=false:=by simp;omega
 simp -implicitDefEqProofs (disch:=omega) only [Rx,simprocAttr,F61,k0,hfr,hdr,hb,hv]
theorem flatCheck_ok (l:List GRow) {m:Nat} (hl:Rows.small m l) (hm:m≤1048577) (h:check13 l=0) {n:Nat} (hn:1048577<n) (g:List AObj):acall T (n+l.length+43) 36 [.p (.list (l.map GRow.pv))] g=some (.p (.int .i64 0),g):=by
 obtain ⟨hf,hok⟩:=check13_ok h
 have hlen:=hl.len
 rw [acall_code T36,run_pure rfl rfl rfl]
 by_cases hne:l=[]
 ·subst hne
  simp -implicitDefEqProofs (disch:=omega) only [Rx,simprocAttr,F36,Int.natCast_zero]
 ·obtain ⟨p,hp,hr⟩:=tree_run l (by omega) hne hf hok (fun x hx=>by have:=(hl.row x hx).attrs;omega) hn []
  have hlen0:0<l.length:=List.length_pos_iff.2 hne
  have k0:((l.length:Int)==0)=false:=by simp;omega
  obtain ⟨c1,c2,c3,c4,c5,rfl⟩:=hp
  simp -implicitDefEqProofs (disch:=omega) only [Rx,simprocAttr,F36,k0,hr]
end Go.TA.Tryz


end
