/- Part 13 of 16 of a proof; joined from CalOpsPA, CalOpsPB, CalMDo, CalMDo2, CalMDo3, CalMRun, CalMRows, CalMKeep, CalSimStart, CalCheck13, CalVisit, CalVisitE, CalBuildE, CalFlatA, CalFlat. Rows that are right for the document's answer are right for the program. -/
import Derived.Test.YtnjblmbobmbgkaaGreatDoorCa11
import Derived.Test.YtnjblmbobmbgkaaGreatDoorCa1
import Derived.Test.YtnjblmbobmbgkaaGreatDoorCa12
import Derived.Test.YtnjblmbobmbgkaaGreatDoorCa10
import Derived.Test.YtnjblmbobmbgkaaGreatDoorCa6
set_option linter.unusedSimpArgs false
set_option linter.unusedVariables false
set_option linter.defProp false
set_option maxRecDepth 100000
set_option maxHeartbeats 8000000
section
/- What is wrong with an operation: the program. -/
namespace Go.TA.Tryz
theorem g9c {x:GOp} (h1:1≤x.kind) (h7:x.kind≤7) (hx:d0o x):d0o (b5m x):=by
 have z:d5w 0:=⟨by omega,by omega⟩
 unfold b5m
 split
 ·exact ⟨hx.kind,z,z,z⟩
 split
 ·exact ⟨hx.kind,hx.node,hx.up,hx.before⟩
 split
 ·exact ⟨hx.kind,hx.node,z,hx.before⟩
 split
 ·exact ⟨hx.kind,hx.node,z,z⟩
 split
 ·exact ⟨hx.kind,hx.node,z,z⟩
 split
 ·exact ⟨hx.kind,hx.node,z,z⟩
 split
 ·exact ⟨hx.kind,hx.node,z,z⟩
 ·exact hx
theorem j0q (l:List Attr):decide (l=[]) = !nzA l:=by
  cases l with
  | nil=>simp [nzA]
  | cons a l =>
    have:(0:Int)<((a::l).length:Int):=by simp
    simp [nzA,this]
theorem g9y {x:GOp} (h1:1≤x.kind) (h7:x.kind≤7) (hx:d0o x):c8o x (b5m x) = !b5v x:=by
 have zn:=c9p hx.node.1
 have zu:=c9p hx.up.1
 have zb:=c9p hx.before.1
 have za:=j0q x.attrs
 by_cases k1:x.kind=1
 ·simp only [b5m,b5v,k1,if_true,if_false,Int.reduceEq,c8o,h5q,g6e,zn,zu,zb,za,nzI,nzS,beq_self_eq_true,decide_true,Bool.true_and,Bool.and_true,Bool.not_or,Bool.not_not]
  all_goals (cases x.tag==[] <;> cases x.key==[] <;> cases x.name==[] <;> cases x.text==[] <;> cases nzA x.attrs <;> cases x.node==0 <;> cases x.up==0 <;> cases x.before==0 <;> rfl)
 by_cases k2:x.kind=2
 ·have q1:(x.kind=1)=False:=by simp;omega
  simp only [b5m,b5v,k2,if_true,if_false,Int.reduceEq,c8o,h5p,h1j,zn,zu,zb,za,nzI,nzS,beq_self_eq_true,decide_true,Bool.true_and,Bool.and_true,Bool.not_or,Bool.not_not]
  all_goals (cases x.tag==[] <;> cases x.key==[] <;> cases x.name==[] <;> cases x.text==[] <;> cases nzA x.attrs <;> cases x.node==0 <;> cases x.up==0 <;> cases x.before==0 <;> rfl)
 by_cases k3:x.kind=3
 ·have q1:(x.kind=1)=False:=by simp;omega
  have q2:(x.kind=2)=False:=by simp;omega
  simp only [b5m,b5v,k3,if_true,if_false,Int.reduceEq,c8o,h5o,g6d,zn,zu,zb,za,nzI,nzS,beq_self_eq_true,decide_true,Bool.true_and,Bool.and_true,Bool.not_or,Bool.not_not]
  all_goals (cases x.tag==[] <;> cases x.key==[] <;> cases x.name==[] <;> cases x.text==[] <;> cases nzA x.attrs <;> cases x.node==0 <;> cases x.up==0 <;> cases x.before==0 <;> rfl)
 by_cases k4:x.kind=4
 ·have q1:(x.kind=1)=False:=by simp;omega
  have q2:(x.kind=2)=False:=by simp;omega
  have q3:(x.kind=3)=False:=by simp;omega
  simp only [b5m,b5v,k4,if_true,if_false,Int.reduceEq,c8o,h5n,g6c,zn,zu,zb,za,nzI,nzS,beq_self_eq_true,decide_true,Bool.true_and,Bool.and_true,Bool.not_or,Bool.not_not]
  all_goals (cases x.tag==[] <;> cases x.key==[] <;> cases x.name==[] <;> cases x.text==[] <;> cases nzA x.attrs <;> cases x.node==0 <;> cases x.up==0 <;> cases x.before==0 <;> rfl)
 by_cases k5:x.kind=5
 ·have q1:(x.kind=1)=False:=by simp;omega
  have q2:(x.kind=2)=False:=by simp;omega
  have q3:(x.kind=3)=False:=by simp;omega
  have q4:(x.kind=4)=False:=by simp;omega
  simp only [b5m,b5v,k5,if_true,if_false,Int.reduceEq,c8o,h5m,g6b,zn,zu,zb,za,nzI,nzS,beq_self_eq_true,decide_true,Bool.true_and,Bool.and_true,Bool.not_or,Bool.not_not]
  all_goals (cases x.tag==[] <;> cases x.key==[] <;> cases x.name==[] <;> cases x.text==[] <;> cases nzA x.attrs <;> cases x.node==0 <;> cases x.up==0 <;> cases x.before==0 <;> rfl)
 by_cases k6:x.kind=6
 ·have q1:(x.kind=1)=False:=by simp;omega
  have q2:(x.kind=2)=False:=by simp;omega
  have q3:(x.kind=3)=False:=by simp;omega
  have q4:(x.kind=4)=False:=by simp;omega
  have q5:(x.kind=5)=False:=by simp;omega
  simp only [b5m,b5v,k6,if_true,if_false,Int.reduceEq,c8o,h5l,g6a,zn,zu,zb,za,nzI,nzS,beq_self_eq_true,decide_true,Bool.true_and,Bool.and_true,Bool.not_or,Bool.not_not]
  all_goals (cases x.tag==[] <;> cases x.key==[] <;> cases x.name==[] <;> cases x.text==[] <;> cases nzA x.attrs <;> cases x.node==0 <;> cases x.up==0 <;> cases x.before==0 <;> rfl)
 by_cases k7:x.kind=7
 ·have q1:(x.kind=1)=False:=by simp;omega
  have q2:(x.kind=2)=False:=by simp;omega
  have q3:(x.kind=3)=False:=by simp;omega
  have q4:(x.kind=4)=False:=by simp;omega
  have q5:(x.kind=5)=False:=by simp;omega
  have q6:(x.kind=6)=False:=by simp;omega
  simp only [b5m,b5v,k7,if_true,if_false,Int.reduceEq,c8o,h5k,g5z,zn,zu,zb,za,nzI,nzS,beq_self_eq_true,decide_true,Bool.true_and,Bool.and_true,Bool.not_or,Bool.not_not]
  all_goals (cases x.tag==[] <;> cases x.key==[] <;> cases x.name==[] <;> cases x.text==[] <;> cases nzA x.attrs <;> cases x.node==0 <;> cases x.up==0 <;> cases x.before==0 <;> rfl)
 omega
theorem j1d {x:GOp} (h1:¬ x.kind<1) (h7:¬ 7<x.kind) (hn:hOk x.node=true) (hu:hOk x.up=true) (hb:hOk x.before=true):d0o x:=by
 simp only [hOk,Bool.and_eq_true,decide_eq_true_eq] at hn hu hb
 exact ⟨⟨by omega,by omega⟩,hn,hu,hb⟩
end Go.TA.Tryz


end
section
/- What is wrong with an operation: the program. -/
namespace Go.TA.Tryz
theorem g3h (x:GOp) (g:List AObj) {n:Nat} (hl:x.attrs.length<n) (hb:x.attrs.length≤1048576):b0f T (n+38) 41 [.p (.agg x.pv)] g=some (.p (.int .i64 (b0u x)),g):=by
 rw [b0a T41,run_pure rfl rfl rfl]
 have ha:=fun (k:Int) g=>g6p k g (n+36)
 have tg:=fun s g=>c8l s g (n+1)
 have nm:=fun s g=>b9n s g (n+1)
 have fi:=fun s g=>b7q s g (n+36)
 have at_:=fun g=>h9l x.attrs g (n:=n) (by omega)
 by_cases k1:x.kind<1
 ·have e:b0u x=6:=by simp [b0u,b2c,b1g,k1]
  rw [e]
  simp -implicitDefEqProofs (disch:=omega) only [Rx,simprocAttr,F41,GOp.pv,b0b,k1]
 by_cases k7:7<x.kind
 ·have e:b0u x=6:=by simp [b0u,b2c,b1g,k1,k7]
  rw [e]
  simp -implicitDefEqProofs (disch:=omega) only [Rx,simprocAttr,F41,GOp.pv,b0b,k1,k7]
 cases hnode:hOk x.node
 ·have e:b0u x=5:=by simp [b0u,b2c,b1g,k1,k7,hnode]
  rw [e]
  simp -implicitDefEqProofs (disch:=omega) only [Rx,simprocAttr,F41,GOp.pv,b0b,ha,k1,k7,hnode]
 cases hup:hOk x.up
 ·have e:b0u x=5:=by simp [b0u,b2c,b1g,k1,k7,hnode,hup]
  rw [e]
  simp -implicitDefEqProofs (disch:=omega) only [Rx,simprocAttr,F41,GOp.pv,b0b,ha,k1,k7,hnode,hup]
 cases hbefore:hOk x.before
 ·have e:b0u x=5:=by simp [b0u,b2c,b1g,k1,k7,hnode,hup,hbefore]
  rw [e]
  simp -implicitDefEqProofs (disch:=omega) only [Rx,simprocAttr,F41,GOp.pv,b0b,ha,k1,k7,hnode,hup,hbefore]
 have us:=fun g=>h5j x (by omega) (by omega) g (n+36)
 have hf:=j1d k1 k7 hnode hup hbefore
 have sa:=fun g=>g5x x (b5m x) hf (g9c (by omega) (by omega) hf) g (n:=n+34) (by omega) hb
 rw [g9y (by omega) (by omega) hf] at sa
 generalize b5m x=u at us sa
 simp only [GOp.pv,b0b] at us sa
 cases hn:b5v x
 rotate_left
 ·rw [hn] at sa
  have e:b0u x=2:=by simp [b0u,b2c,b1g,k1,k7,hnode,hup,hbefore,hn]
  rw [e]
  simp -implicitDefEqProofs (disch:=omega) only [Rx,simprocAttr,F41,GOp.pv,b0b,ha,us,sa,k1,k7,hnode,hup,hbefore]
 rw [hn] at sa
 cases e1:(x.kind==1)
 rotate_left
 ·have e1':x.kind=1:=by simpa using e1
  have e5:(x.kind==5)=false:=by rw [e1'];rfl
  have e6:(x.kind==6)=false:=by rw [e1'];rfl
  cases t1:b2i false x.tag
  ·have e:b0u x=7:=by simp [b0u,b2c,b1g,k1,k7,hnode,hup,hbefore,hn,e1,e5,e6,t1]
   rw [e]
   simp -implicitDefEqProofs (disch:=omega) only [Rx,simprocAttr,F41,GOp.pv,b0b,ha,us,sa,tg,k1,k7,hnode,hup,hbefore,e1,t1]
  by_cases l1:(x.key.length:Int)≤65536
  rotate_left
  ·have l1':65536<(x.key.length:Int):=by omega
   have e:b0u x=3:=by simp [b0u,b2c,b1g,k1,k7,hnode,hup,hbefore,hn,e1,e5,e6,t1,l1,l1']
   rw [e]
   simp -implicitDefEqProofs (disch:=omega) only [Rx,simprocAttr,F41,GOp.pv,b0b,ha,us,sa,tg,fi,k1,k7,hnode,hup,hbefore,e1,e5,e6,t1,l1]
  have l1':¬ 65536<(x.key.length:Int):=by omega
  by_cases l2:(x.text.length:Int)≤65536
  rotate_left
  ·have l2':65536<(x.text.length:Int):=by omega
   have e:b0u x=3:=by simp [b0u,b2c,b1g,k1,k7,hnode,hup,hbefore,hn,e1,e5,e6,t1,l1,l1',l2,l2']
   rw [e]
   simp -implicitDefEqProofs (disch:=omega) only [Rx,simprocAttr,F41,GOp.pv,b0b,ha,us,sa,tg,fi,k1,k7,hnode,hup,hbefore,e1,e5,e6,t1,l1,l2]
  have l2':¬ 65536<(x.text.length:Int):=by omega
  have e:b0u x=b2o x.attrs:=by simp [b0u,b2c,b1g,k1,k7,hnode,hup,hbefore,hn,e1,e5,e6,t1,l1,l1',l2,l2']
  rw [e]
  simp -implicitDefEqProofs (disch:=omega) only [Rx,simprocAttr,F41,GOp.pv,b0b,ha,us,sa,tg,fi,at_,k1,k7,hnode,hup,hbefore,e1,e5,e6,t1,l1,l2]
 cases e5:(x.kind==5)
 rotate_left
 ·cases t2:b2i true x.name
  ·have e:b0u x=8:=by simp [b0u,b2c,b1g,k1,k7,hnode,hup,hbefore,hn,e1,e5,t2]
   rw [e]
   simp -implicitDefEqProofs (disch:=omega) only [Rx,simprocAttr,F41,GOp.pv,b0b,ha,us,sa,nm,k1,k7,hnode,hup,hbefore,e1,e5,t2]
  by_cases l1:(x.key.length:Int)≤65536
  rotate_left
  ·have l1':65536<(x.key.length:Int):=by omega
   have e:b0u x=3:=by simp [b0u,b2c,b1g,k1,k7,hnode,hup,hbefore,hn,e1,e5,t2,l1,l1']
   rw [e]
   simp -implicitDefEqProofs (disch:=omega) only [Rx,simprocAttr,F41,GOp.pv,b0b,ha,us,sa,nm,fi,k1,k7,hnode,hup,hbefore,e1,e5,t2,l1]
  have l1':¬ 65536<(x.key.length:Int):=by omega
  by_cases l2:(x.text.length:Int)≤65536
  rotate_left
  ·have l2':65536<(x.text.length:Int):=by omega
   have e:b0u x=3:=by simp [b0u,b2c,b1g,k1,k7,hnode,hup,hbefore,hn,e1,e5,t2,l1,l1',l2,l2']
   rw [e]
   simp -implicitDefEqProofs (disch:=omega) only [Rx,simprocAttr,F41,GOp.pv,b0b,ha,us,sa,nm,fi,k1,k7,hnode,hup,hbefore,e1,e5,t2,l1,l2]
  have l2':¬ 65536<(x.text.length:Int):=by omega
  have e:b0u x=b2o x.attrs:=by simp [b0u,b2c,b1g,k1,k7,hnode,hup,hbefore,hn,e1,e5,t2,l1,l1',l2,l2']
  rw [e]
  simp -implicitDefEqProofs (disch:=omega) only [Rx,simprocAttr,F41,GOp.pv,b0b,ha,us,sa,nm,fi,at_,k1,k7,hnode,hup,hbefore,e1,e5,t2,l1,l2]
 cases e6:(x.kind==6)
 rotate_left
 ·cases t2:b2i true x.name
  ·have e:b0u x=8:=by simp [b0u,b2c,b1g,k1,k7,hnode,hup,hbefore,hn,e1,e5,e6,t2]
   rw [e]
   simp -implicitDefEqProofs (disch:=omega) only [Rx,simprocAttr,F41,GOp.pv,b0b,ha,us,sa,nm,k1,k7,hnode,hup,hbefore,e1,e5,e6,t2]
  by_cases l1:(x.key.length:Int)≤65536
  rotate_left
  ·have l1':65536<(x.key.length:Int):=by omega
   have e:b0u x=3:=by simp [b0u,b2c,b1g,k1,k7,hnode,hup,hbefore,hn,e1,e5,e6,t2,l1,l1']
   rw [e]
   simp -implicitDefEqProofs (disch:=omega) only [Rx,simprocAttr,F41,GOp.pv,b0b,ha,us,sa,nm,fi,k1,k7,hnode,hup,hbefore,e1,e5,e6,t2,l1]
  have l1':¬ 65536<(x.key.length:Int):=by omega
  by_cases l2:(x.text.length:Int)≤65536
  rotate_left
  ·have l2':65536<(x.text.length:Int):=by omega
   have e:b0u x=3:=by simp [b0u,b2c,b1g,k1,k7,hnode,hup,hbefore,hn,e1,e5,e6,t2,l1,l1',l2,l2']
   rw [e]
   simp -implicitDefEqProofs (disch:=omega) only [Rx,simprocAttr,F41,GOp.pv,b0b,ha,us,sa,nm,fi,k1,k7,hnode,hup,hbefore,e1,e5,e6,t2,l1,l2]
  have l2':¬ 65536<(x.text.length:Int):=by omega
  have e:b0u x=b2o x.attrs:=by simp [b0u,b2c,b1g,k1,k7,hnode,hup,hbefore,hn,e1,e5,e6,t2,l1,l1',l2,l2']
  rw [e]
  simp -implicitDefEqProofs (disch:=omega) only [Rx,simprocAttr,F41,GOp.pv,b0b,ha,us,sa,nm,fi,at_,k1,k7,hnode,hup,hbefore,e1,e5,e6,t2,l1,l2]
 by_cases l1:(x.key.length:Int)≤65536
 rotate_left
 ·have l1':65536<(x.key.length:Int):=by omega
  have e:b0u x=3:=by simp [b0u,b2c,b1g,k1,k7,hnode,hup,hbefore,hn,e1,e5,e6,l1,l1']
  rw [e]
  simp -implicitDefEqProofs (disch:=omega) only [Rx,simprocAttr,F41,GOp.pv,b0b,ha,us,sa,fi,k1,k7,hnode,hup,hbefore,e1,e5,e6,l1]
 have l1':¬ 65536<(x.key.length:Int):=by omega
 by_cases l2:(x.text.length:Int)≤65536
 rotate_left
 ·have l2':65536<(x.text.length:Int):=by omega
  have e:b0u x=3:=by simp [b0u,b2c,b1g,k1,k7,hnode,hup,hbefore,hn,e1,e5,e6,l1,l1',l2,l2']
  rw [e]
  simp -implicitDefEqProofs (disch:=omega) only [Rx,simprocAttr,F41,GOp.pv,b0b,ha,us,sa,fi,k1,k7,hnode,hup,hbefore,e1,e5,e6,l1,l2]
 have l2':¬ 65536<(x.text.length:Int):=by omega
 have e:b0u x=b2o x.attrs:=by simp [b0u,b2c,b1g,k1,k7,hnode,hup,hbefore,hn,e1,e5,e6,l1,l1',l2,l2']
 rw [e]
 simp -implicitDefEqProofs (disch:=omega) only [Rx,simprocAttr,F41,GOp.pv,b0b,ha,us,sa,fi,at_,k1,k7,hnode,hup,hbefore,e1,e5,e6,l1,l2]
end Go.TA.Tryz


end
section
/- What an operation does to a machine: the functions change, insert, move. -/
namespace Go.TA.Tryz
theorem g7w {R:Nat} {S:MS} (hS:S.Ok R) (av:Nat→AV) (rest:List AObj) (h:Nat) (hh:h<S.N) (x:GOp) {n:Nat} (hn:1048580<n) :
  b0f T (n+5) 47 [MP,.ptr true 0 7 S.N h 0,.p (.agg x.pv)] (b0o S.N S.st av rest)=some (.p (.int .i64 (b3i S h x).1),b0o S.N (b3i S h x).2.st av rest):=by
 have len1:∀ st av,(b0z S.N st av).length=S.N:=fun _ _=>b1y
 have hgh:(b0z S.N S.st av).getD h []=b1s (S.st h) (av h):=b1w hh
 have ha:=hS.attrs h hh
 have hw:=fun g=>h5g (S.st h).attrs x.name x.text ha g (n:=n+2) (by omega)
 have ho:=fun g=>d9o (S.st h).attrs x.name ha g (n:=n) (by omega)
 have hset:∀ (t:Bs) (a:List Attr),(b0z S.N S.st av).set h [.p (.bool (S.st h).live),.p (.int .i64 (S.st h).up),av h,.p (.str (S.st h).tag),.p (.str (S.st h).key),.p (.str t),.p (.list (a.map Attr.pv))]=b0z S.N (upd S.st h { S.st h with text:=t,attrs:=a }) av:=fun t a=>by
  have:=b6o (N:=S.N) (st:=S.st) (av:=av) hh { S.st h with text:=t,attrs:=a } (av h)
  simp only [b1s] at this
  rw [this]
  refine b3w fun k hk=>⟨rfl, ?_⟩
  by_cases e:k=h
  ·subst e;rw [b0l]
  ·rw [b0k e]
 have wl:((c0g (S.st h).attrs x.name x.text).map Attr.pv).length=(c0g (S.st h).attrs x.name x.text).length:=by simp
 have hset1:=fun a=>hset (S.st h).text a
 have hset2:=fun t=>hset t (S.st h).attrs
 rw [b0a T47,b0g rfl rfl]
 unfold b3i
 simp only [b1s] at hgh
 by_cases k5:x.kind=5
 ·rw [if_pos k5]
  have e5:(x.kind==5)=true:=by simpa using k5
  by_cases h64:64<((c0g (S.st h).attrs x.name x.text).length:Int)
  ·rw [if_pos h64]
   simp only [b0o]
   simp -implicitDefEqProofs (disch:=omega) only [Rx,simprocAttr,F47,GOp.pv,b0b,k5,len1,hgh,hw,wl,h64]
  ·rw [if_neg h64]
   simp only [b0o,setM]
   simp -implicitDefEqProofs (disch:=omega) only [Rx,simprocAttr,F47,GOp.pv,b0b,k5,len1,hgh,hw,wl,h64,hset1]
 rw [if_neg k5]
 have e5:(x.kind==5)=false:=by simpa using k5
 by_cases k6:x.kind=6
 ·rw [if_pos k6]
  have e6:(x.kind==6)=true:=by simpa using k6
  by_cases hlt:(b3t (S.st h).attrs x.name).length<(S.st h).attrs.length
  ·rw [if_pos hlt]
   have ed:decide ((b3t (S.st h).attrs x.name).length<(S.st h).attrs.length)=true:=by simpa using hlt
   simp only [ed] at ho
   simp only [b0o,setM]
   simp -implicitDefEqProofs (disch:=omega) only [Rx,simprocAttr,F47,GOp.pv,b0b,k6,len1,hgh,ho,hset1]
  ·rw [if_neg hlt]
   have ed:decide ((b3t (S.st h).attrs x.name).length<(S.st h).attrs.length)=false:=by simpa using hlt
   simp only [ed] at ho
   simp only [b0o]
   simp -implicitDefEqProofs (disch:=omega) only [Rx,simprocAttr,F47,GOp.pv,b0b,k6,len1,hgh,ho]
 rw [if_neg k6]
 have e6:(x.kind==6)=false:=by simpa using k6
 by_cases k7:x.kind=7
 ·rw [if_pos k7]
  have e7:(x.kind==7)=true:=by simpa using k7
  simp only [b0o,textM]
  simp -implicitDefEqProofs (disch:=omega) only [Rx,simprocAttr,F47,GOp.pv,b0b,k7,len1,hgh,hset2]
 ·rw [if_neg k7]
  have e7:(x.kind==7)=false:=by simpa using k7
  simp only [b0o]
  simp -implicitDefEqProofs (disch:=omega) only [Rx,simprocAttr,F47,GOp.pv,b0b,e5,e6,e7]
end Go.TA.Tryz


end
section
/- What an operation does to a machine: the functions insert, move, Do, Run. -/
namespace Go.TA.Tryz
theorem g1g {R:Nat} {S:MS} (hS:S.Ok R) (hN:S.N≤4194304) (av:Nat→AV) (rest:List AObj) (hM:MOk S.N av S.kd rest) (x:GOp) (hx0:x.node≠0) {n:Nat} (hn:S.N+R+3<n) :
  ∃ av' rest',b0f T (n+3) 42 [MP,.p (.agg x.pv)] (b0o S.N S.st av rest)=some (.p (.int .i64 (b2s S x).1),b0o (b2s S x).2.N (b2s S x).2.st av' rest')∧MOk (b2s S x).2.N av' (b2s S x).2.kd rest'∧Fr S.N av rest (b2s S x).2.N av' rest':=by
 have len1:∀ st av,(b0z S.N st av).length=S.N:=fun _ _=>b1y
 have hlv:=fun h=>c9l S av rest h (n+1)
 unfold b2s
 by_cases hl:(b1j S x.node && (b1j S x.up && b1j S x.before))=false
 ·rw [if_pos hl]
  refine ⟨av,rest, ?_,hM,Fr.refl _ _ _⟩
  rw [b0a T42,b0g rfl rfl]
  cases a1:b1j S x.node
  ·simp only [b0o] at hlv ⊢
   simp -implicitDefEqProofs (disch:=omega) only [Rx,simprocAttr,F42,GOp.pv,b0b,hlv,a1]
  cases a2:b1j S x.up
  ·simp only [b0o] at hlv ⊢
   simp -implicitDefEqProofs (disch:=omega) only [Rx,simprocAttr,F42,GOp.pv,b0b,hlv,a1,a2]
  cases a3:b1j S x.before
  ·simp only [b0o] at hlv ⊢
   simp -implicitDefEqProofs (disch:=omega) only [Rx,simprocAttr,F42,GOp.pv,b0b,hlv,a1,a2,a3]
  rw [a1,a2,a3] at hl;cases hl
 rw [if_neg hl]
 simp only [Bool.not_eq_false,Bool.and_eq_true] at hl
 obtain ⟨a1,a2,a3⟩:=hl
 obtain ⟨c,hc,hcN,hcl⟩:=b5f a1
 obtain ⟨u,hu,huN,hul⟩:=b5f a2
 obtain ⟨b,hb,hbN,hbl⟩:=b5f a3
 have hlv1:=hlv x.node
 have hlv2:=hlv x.up
 have hlv3:=hlv x.before
 rw [a1] at hlv1
 rw [a2] at hlv2
 rw [a3] at hlv3
 have hgc:(b0z S.N S.st av).getD c []=b1s (S.st c) (av c):=b1w hcN
 have hgb:(b0z S.N S.st av).getD b []=b1s (S.st b) (av b):=b1w hbN
 have k1:(c:Int)<(S.N:Int):=by omega
 have k3:(b:Int)<(S.N:Int):=by omega
 have un:=g9l hS av rest c u huN (n:=n+1) (by omega)
 rw [hc] at hlv1 hx0 ⊢
 rw [hu] at hlv2 ⊢
 rw [hb] at hlv3 ⊢
 have uo:upOf S (c:Int)=(S.st c).up:=rfl
 have ub:upOf S (b:Int)=(S.st b).up:=rfl
 rw [uo,ub]
 simp only [Int.toNat_natCast]
 simp only [b1s] at hgc hgb
 by_cases h15:0≤(S.st c).up
 ·rw [if_pos h15]
  refine ⟨av,rest, ?_,hM,Fr.refl _ _ _⟩
  rw [b0a T42,b0g rfl rfl]
  simp only [b0o] at hlv1 hlv2 hlv3 ⊢
  simp -implicitDefEqProofs (disch:=omega) only [Rx,simprocAttr,F42,GOp.pv,b0b,hc,hu,hb,hlv1,hlv2,hlv3,len1,hgc,k1,h15]
 rw [if_neg h15]
 by_cases h17:b2t S (u:Int) (c:Int)=true
 ·rw [if_pos h17]
  rw [h17] at un
  refine ⟨av,rest, ?_,hM,Fr.refl _ _ _⟩
  rw [b0a T42,b0g rfl rfl]
  simp only [b0o] at hlv1 hlv2 hlv3 un ⊢
  simp -implicitDefEqProofs (disch:=omega) only [Rx,simprocAttr,F42,GOp.pv,b0b,hc,hu,hb,hlv1,hlv2,hlv3,len1,hgc,k1,h15,un]
 rw [if_neg h17]
 simp only [Bool.not_eq_true] at h17
 rw [h17] at un
 by_cases h18:(b:Int)≠0∧(S.st b).up≠(u:Int)
 ·rw [if_pos h18]
  refine ⟨av,rest, ?_,hM,Fr.refl _ _ _⟩
  have e1:((b:Int)==0)=false:=by simpa using h18.1
  have e2:((S.st b).up==(u:Int))=false:=by simpa using h18.2
  rw [b0a T42,b0g rfl rfl]
  simp only [b0o] at hlv1 hlv2 hlv3 un ⊢
  simp -implicitDefEqProofs (disch:=omega) only [Rx,simprocAttr,F42,GOp.pv,b0b,hc,hu,hb,hlv1,hlv2,hlv3,len1,hgc,hgb,k1,k3,h15,un,e1,e2]
 rw [if_neg h18]
 have hbk:(b:Int)=0∨(b:Int) ∈ S.kd u:=by
  by_cases e:(b:Int)=0
  ·exact .inl e
  ·right
   by_cases e2:(S.st b).up=(u:Int)
   ·exact g3r hS hbN e2
   ·exact absurd ⟨e,e2⟩ h18
 obtain ⟨av',rest',hp,hM',hfr⟩:=d6s hS hN av rest hM c u (b:Int) hcN huN hbk (n:=n) (by omega)
 refine ⟨av',rest', ?_,hM',hfr⟩
 simp only
 rw [show (b2h S c u (b:Int)).N=S.N from rfl]
 generalize (b2h S c u (b:Int)).st=st' at hp ⊢
 rw [b0a T42,b0g rfl rfl]
 by_cases e:(b:Int)=0
 ·have e1:((b:Int)==0)=true:=by simpa using e
  simp only [b0o] at hlv1 hlv2 hlv3 un hp ⊢
  simp -implicitDefEqProofs (disch:=omega) only [Rx,simprocAttr,F42,GOp.pv,b0b,hc,hu,hb,hlv1,hlv2,hlv3,len1,hgc,k1,h15,un,e1,hp]
 ·have e1:((b:Int)==0)=false:=by simpa using e
  have e2:((S.st b).up==(u:Int))=true:=by
   by_cases e2:(S.st b).up=(u:Int)
   ·simpa using e2
   ·exact absurd ⟨e,e2⟩ h18
  simp only [b0o] at hlv1 hlv2 hlv3 un hp ⊢
  simp -implicitDefEqProofs (disch:=omega) only [Rx,simprocAttr,F42,GOp.pv,b0b,hc,hu,hb,hlv1,hlv2,hlv3,len1,hgc,hgb,k1,k3,h15,un,e1,e2,hp]
theorem h1r {R : Nat} {S : MS} (hS : S.Ok R) (hN : S.N ≤ 4194304) (av : Nat → AV) (rest : List AObj) (hM : MOk S.N av S.kd rest) (x : GOp) (hx0 : x.node ≠ 0) {n : Nat} (hn : S.N + R + 3 < n) :
    ∃ av' rest',b0f T (n+5) 43 [MP,.p (.agg x.pv)] (b0o S.N S.st av rest)=some (.p (.int .i64 (b6t S x).1),b0o (b6t S x).2.N (b6t S x).2.st av' rest')∧MOk (b6t S x).2.N av' (b6t S x).2.kd rest'∧Fr S.N av rest (b6t S x).2.N av' rest':=by
  have len1:∀ st av,(b0z S.N st av).length=S.N:=fun _ _=>b1y
  have hlv:=fun h=>c9l S av rest h (n+3)
  unfold b6t
  by_cases a1:b1j S x.node=false
  · rw [if_pos (by rw [a1];rfl)]
    refine ⟨av,rest, ?_,hM,Fr.refl _ _ _⟩
    rw [b0a T43,b0g rfl rfl]
    simp only [b0o] at hlv ⊢
    simp -implicitDefEqProofs (disch:=omega) only [Rx,simprocAttr,F43,GOp.pv,b0b,hlv,a1]
  simp only [Bool.not_eq_false] at a1
  obtain ⟨c,hc,hcN,hcl⟩:=b5f a1
  have hgc:(b0z S.N S.st av).getD c []=b1s (S.st c) (av c):=b1w hcN
  have k1:(c:Int)<(S.N:Int):=by omega
  have hlv1:=hlv x.node
  have hlv3:=hlv x.before
  rw [a1] at hlv1
  simp only [b1s] at hgc
  by_cases a3:b1j S x.before=false
  · rw [if_pos (by rw [a1,a3];rfl)]
    rw [a3] at hlv3
    rw [hc] at hlv1
    refine ⟨av,rest, ?_,hM,Fr.refl _ _ _⟩
    rw [b0a T43,b0g rfl rfl]
    simp only [b0o] at hlv1 hlv3 ⊢
    simp -implicitDefEqProofs (disch:=omega) only [Rx,simprocAttr,F43,GOp.pv,b0b,hc,hlv1,hlv3,len1,hgc,k1]
  simp only [Bool.not_eq_false] at a3
  rw [if_neg (by rw [a1,a3];simp)]
  rw [a3] at hlv3
  obtain ⟨b,hb,hbN,hbl⟩:=b5f a3
  have hgb:(b0z S.N S.st av).getD b []=b1s (S.st b) (av b):=b1w hbN
  have k3:(b:Int)<(S.N:Int):=by omega
  simp only [b1s] at hgb
  rw [hc] at hlv1 hx0 ⊢
  rw [hb] at hlv3 ⊢
  have uo:upOf S (c:Int)=(S.st c).up:=rfl
  have ub:upOf S (b:Int)=(S.st b).up:=rfl
  rw [uo,ub]
  simp only [Int.toNat_natCast]
  by_cases h16:(S.st c).up<0
  · rw [if_pos h16]
    refine ⟨av,rest, ?_,hM,Fr.refl _ _ _⟩
    rw [b0a T43,b0g rfl rfl]
    simp only [b0o] at hlv1 hlv3 ⊢
    simp -implicitDefEqProofs (disch:=omega) only [Rx,simprocAttr,F43,GOp.pv,b0b,hc,hb,hlv1,hlv3,len1,hgc,k1,h16]
  rw [if_neg h16]
  obtain ⟨u,hu,huN,hul,hkid⟩:=hS.up_nat hcN (by omega)
  rw [hu] at h16 hgc ⊢
  by_cases e0:(b:Int)=(c:Int)
  · rw [if_pos (.inl e0)]
    have q1:((b:Int)==(c:Int))=true:=by simpa using e0
    refine ⟨av,rest, ?_,hM,Fr.refl _ _ _⟩
    rw [b0a T43,b0g rfl rfl]
    simp only [b0o] at hlv1 hlv3 ⊢
    simp -implicitDefEqProofs (disch:=omega) only [Rx,simprocAttr,F43,GOp.pv,b0b,hc,hb,hlv1,hlv3,len1,hgc,k1,h16,q1]
  have q1:((b:Int)==(c:Int))=false:=by simpa using e0
  by_cases h18:(b:Int)≠0∧(S.st b).up≠(u:Int)
  · rw [if_pos (.inr h18)]
    have e1:((b:Int)==0)=false:=by simpa using h18.1
    have e2:((S.st b).up==(u:Int))=false:=by simpa using h18.2
    refine ⟨av,rest, ?_,hM,Fr.refl _ _ _⟩
    rw [b0a T43,b0g rfl rfl]
    simp only [b0o] at hlv1 hlv3 ⊢
    simp -implicitDefEqProofs (disch:=omega) only [Rx,simprocAttr,F43,GOp.pv,b0b,hc,hb,hlv1,hlv3,len1,hgc,hgb,k1,k3,h16,q1,e1,e2]
  rw [if_neg (fun h=>h.elim e0 h18)]
  obtain ⟨hT,hTup⟩:=hS.take hcN hcl
  have hTN:=b5i S c
  obtain ⟨av1,rest1,ht,hM1,hfr1⟩:=g2p hS hN av rest hM c hcN (n:=n) (by omega)
  rw [← hTN] at hM1
  have hbk:(b:Int)=0∨(b:Int) ∈ (b2f S c).kd u:=by
    by_cases e:(b:Int)=0
    · exact .inl e
    · right
      by_cases e2:(S.st b).up=(u:Int)
      · have hk:=g3r hS hbN e2
        unfold b2f
        rw [if_neg (by omega),hu,Int.toNat_natCast]
        simp only
        rw [b0l,List.mem_filter]
        exact ⟨hk,by simp;omega⟩
      · exact absurd ⟨e,e2⟩ h18
  obtain ⟨av',rest',hp,hM',hfr2⟩:=d6s hT (by omega) av1 rest1 hM1 c u (b:Int) (by omega) (by omega) hbk (n:=n+2) (by omega)
  refine ⟨av',rest', ?_,by simpa [b2h] using hM',by simpa [b2h] using (show Fr S.N av rest (b2f S c).N av1 rest1 by rw [hTN];exact hfr1).trans hfr2⟩
  simp only [Int.toNat_natCast]
  rw [show (b2h (b2f S c) c u (b:Int)).N=(b2f S c).N from rfl,hTN]
  rw [hTN] at hp
  generalize (b2h (b2f S c) c u (b:Int)).st=st' at hp ⊢
  generalize (b2f S c).st=st1 at ht hp
  rw [b0a T43,b0g rfl rfl]
  by_cases e:(b:Int)=0
  · have e1:((b:Int)==0)=true:=by simpa using e
    simp only [b0o] at hlv1 hlv3 ht hp ⊢
    simp -implicitDefEqProofs (disch:=omega) only [Rx,simprocAttr,F43,GOp.pv,b0b,hc,hb,hlv1,hlv3,len1,hgc,k1,h16,q1,e1,ht,hp]
  · have e1:((b:Int)==0)=false:=by simpa using e
    have e2:((S.st b).up==(u:Int))=true:=by
      by_cases e2:(S.st b).up=(u:Int)
      · simpa using e2
      · exact absurd ⟨e,e2⟩ h18
    simp only [b0o] at hlv1 hlv3 ht hp ⊢
    simp -implicitDefEqProofs (disch:=omega) only [Rx,simprocAttr,F43,GOp.pv,b0b,hc,hb,hlv1,hlv3,len1,hgc,hgb,k1,k3,h16,q1,e1,e2,ht,hp]
end Go.TA.Tryz


end
section
/- What an operation does to a machine: the functions Do, Run. -/
namespace Go.TA.Tryz
theorem j3n {R:Nat} {S:MS} (hS:S.Ok R) (hN:S.N≤4194303) (av:Nat→AV) (rest:List AObj) (hM:MOk S.N av S.kd rest) (x:GOp) (hx:x.attrs.length≤1048576) {n:Nat} (hn:S.N+R+1048580<n) :
  ∃ av' rest',b0f T (n+R+61) 15 [MP,.p (.agg x.pv)] (b0o S.N S.st av rest)=some (.p (.int .i64 (doE S x).1),b0o (doE S x).2.N (doE S x).2.st av' rest')∧MOk (doE S x).2.N av' (doE S x).2.kd rest'∧Fr S.N av rest (doE S x).2.N av' rest':=by
 have len1:∀ st av,(b0z S.N st av).length=S.N:=fun _ _=>b1y
 have hck:=g3h x [] (n:=n+R+22) (by omega) hx
 rw [show n+R+22+38=n+R+60 by omega] at hck
 have k0:((S.N:Int)==0)=false:=by have:=hS.pos;simp;omega
 unfold doE
 by_cases he:b0u x=0
 rotate_left
 ·rw [if_neg he]
  have e1:(b0u x==0)=false:=by simpa using he
  refine ⟨av,rest, ?_,hM,Fr.refl _ _ _⟩
  rw [b0a T15,b0g rfl rfl]
  simp only [GOp.pv,b0b] at hck
  generalize b0u x=e at hck e1 ⊢
  simp only [b0o]
  simp -implicitDefEqProofs (disch:=omega) only [Rx,simprocAttr,F15,GOp.pv,b0b,hck,k0,e1]
 rw [if_pos he]
 rw [he] at hck
 unfold doM
 by_cases h1:x.kind=1
 ·rw [if_pos h1]
  have e1:(x.kind==1)=true:=by simpa using h1
  have hcl:=b5q x.attrs (by omega) [] (n+R+59)
  have hpush:=c8s (N:=S.N) (st:=S.st) (av:=av) ⟨true, -1,x.tag,x.key,x.text,x.attrs⟩ .nils
  simp only [b1s] at hpush
  refine ⟨upd av S.N .nils,rest, ?_,hM.push,Fr.push _ _ _⟩
  have len2:(b0z (S.N+1) (upd S.st S.N ⟨true, -1,x.tag,x.key,x.text,x.attrs⟩) (upd av S.N .nils)).length=S.N+1:=b1y
  rw [b0a T15,b0g rfl rfl]
  simp only [GOp.pv,b0b] at hck
  simp only [b0o,MS.create]
  generalize b0z (S.N+1) (upd S.st S.N ⟨true, -1,x.tag,x.key,x.text,x.attrs⟩) (upd av S.N .nils)=rows' at hpush len2 ⊢
  simp -implicitDefEqProofs (disch:=omega) only [Rx,simprocAttr,F15,GOp.pv,b0b,hck,k0,len1,len2,e1,hcl,hpush]
 rw [if_neg h1]
 have e1:(x.kind==1)=false:=by simpa using h1
 by_cases h0:x.node=0
 ·rw [if_pos h0]
  have e0:(x.node==0)=true:=by simpa using h0
  refine ⟨av,rest, ?_,hM,Fr.refl _ _ _⟩
  rw [b0a T15,b0g rfl rfl]
  simp only [GOp.pv,b0b] at hck
  simp only [b0o]
  simp -implicitDefEqProofs (disch:=omega) only [Rx,simprocAttr,F15,GOp.pv,b0b,hck,k0,e1,e0]
 rw [if_neg h0]
 have e0:(x.node==0)=false:=by simpa using h0
 by_cases h2:x.kind=2
 ·rw [if_pos h2]
  have e2:(x.kind==2)=true:=by simpa using h2
  obtain ⟨av',rest',hp,hM',hfr⟩:=g1g hS (by omega) av rest hM x h0 (n:=n+R+57) (by omega)
  refine ⟨av',rest', ?_,hM',hfr⟩
  rw [show n+R+57+3=n+R+60 by omega] at hp
  generalize b2s S x=q at hp ⊢
  rw [b0a T15,b0g rfl rfl]
  simp only [GOp.pv,b0b] at hck hp
  simp only [b0o] at hp ⊢
  simp -implicitDefEqProofs (disch:=omega) only [Rx,simprocAttr,F15,GOp.pv,b0b,hck,k0,e1,e0,e2,hp]
 rw [if_neg h2]
 have e2:(x.kind==2)=false:=by simpa using h2
 by_cases h3:x.kind=3
 ·rw [if_pos h3]
  have e3:(x.kind==3)=true:=by simpa using h3
  obtain ⟨av',rest',hp,hM',hfr⟩:=h1r hS (by omega) av rest hM x h0 (n:=n+R+55) (by omega)
  refine ⟨av',rest', ?_,hM',hfr⟩
  rw [show n+R+55+5=n+R+60 by omega] at hp
  generalize b6t S x=q at hp ⊢
  rw [b0a T15,b0g rfl rfl]
  simp only [GOp.pv,b0b] at hck hp
  simp only [b0o] at hp ⊢
  simp -implicitDefEqProofs (disch:=omega) only [Rx,simprocAttr,F15,GOp.pv,b0b,hck,k0,e1,e0,e2,e3,hp]
 rw [if_neg h3]
 have e3:(x.kind==3)=false:=by simpa using h3
 have hft:=fun av rest=>j1c S av rest x.node (n+R+58)
 by_cases hl:b1j S x.node=false
 ·rw [if_pos hl]
  have ef:fitE S x.node=13:=by simp [fitE,h0,hl]
  rw [ef] at hft
  refine ⟨av,rest, ?_,hM,Fr.refl _ _ _⟩
  rw [b0a T15,b0g rfl rfl]
  simp only [GOp.pv,b0b] at hck
  simp only [b0o] at hft ⊢
  simp -implicitDefEqProofs (disch:=omega) only [Rx,simprocAttr,F15,GOp.pv,b0b,hck,k0,e1,e0,e2,e3,hft]
 rw [if_neg hl]
 simp only [Bool.not_eq_false] at hl
 have ef:fitE S x.node=0:=by simp [fitE,h0,hl]
 rw [ef] at hft
 obtain ⟨c,hc,hcN,hcl⟩:=b5f hl
 have k1:(c:Int)<(S.N:Int):=by omega
 rw [hc] at hft e0
 by_cases h4:x.kind=4
 ·rw [if_pos h4]
  have e4:(x.kind==4)=true:=by simpa using h4
  obtain ⟨hT,hTup⟩:=hS.take hcN hcl
  have hTN:=b5i S c
  obtain ⟨av1,rest1,ht,hM1,hfr1⟩:=g2p hS (by omega) av rest hM c hcN (n:=n+R+56) (by omega)
  rw [← hTN] at hM1
  obtain ⟨av2,hp,hM2,hfr2⟩:=j1i hT (by omega) av1 rest1 hM1 c (by omega) (n:=n+59) (by omega)
  rw [show n+59+R+1=n+R+60 by omega] at hp
  rw [show n+R+56+4=n+R+60 by omega] at ht
  rw [hc]
  simp only [Int.toNat_natCast]
  refine ⟨av2,rest1, ?_,hM2,(show Fr S.N av rest (b2f S c).N av1 rest1 by rw [hTN];exact hfr1).trans hfr2⟩
  rw [show (endM (b2f S c) (c:Int)).N=(b2f S c).N from rfl,hTN]
  rw [hTN] at hp
  generalize (endM (b2f S c) (c:Int)).st=st2 at hp ⊢
  generalize (b2f S c).st=st1 at ht hp
  rw [b0a T15,b0g rfl rfl]
  simp only [GOp.pv,b0b,hc] at hck
  simp only [b0o] at hft ht hp ⊢
  simp -implicitDefEqProofs (disch:=omega) only [Rx,simprocAttr,F15,GOp.pv,b0b,hc,hck,k0,e1,e0,e2,e3,e4,hft,ht,hp]
 rw [if_neg h4]
 have e4:(x.kind==4)=false:=by simpa using h4
 have hp:=g7w hS av rest c hcN x (n:=n+R+55) (by omega)
 rw [show n+R+55+5=n+R+60 by omega] at hp
 obtain ⟨_,hcn⟩:=d2u hS hcN x
 have hck2:(b3i S c x).2.kd=S.kd:=by
  unfold b3i
  split
  ·split <;> rfl
  split
  ·split <;> rfl
  split <;> rfl
 rw [hc]
 simp only [Int.toNat_natCast]
 refine ⟨av,rest, ?_,by rw [hcn,hck2];exact hM,by rw [hcn];exact Fr.refl _ _ _⟩
 rw [hcn]
 generalize b3i S c x=q at hp ⊢
 rw [b0a T15,b0g rfl rfl]
 simp only [GOp.pv,b0b,hc] at hck hp
 simp only [b0o] at hft hp ⊢
 simp -implicitDefEqProofs (disch:=omega) only [Rx,simprocAttr,F15,GOp.pv,b0b,hc,hck,k0,k1,len1,e1,e0,e2,e3,e4,hft,hp]
end Go.TA.Tryz


end
section
/- A script is run. -/
namespace Go.TA.Tryz
structure Mem (S:MS) (g:List AObj) (av:Nat→AV) (rest:List AObj):Prop where
 is:g=b0o S.N S.st av rest
 ok:MOk S.N av S.kd rest
theorem h6s {R : Nat} {S : MS} (hS : S.Ok R) (L : List GOp) (hL : ∀ x ∈ L, x.attrs.length ≤ 1048576) (hN : S.N + L.length ≤ 4194303) (av : Nat → AV) (rest : List AObj) (hM : MOk S.N av S.kd rest) {F : Nat} (hF : S.N + L.length + bnd R L.length + bnd R L.length + 1048700 < F) :
    ∃ av' rest' R', b0f T (F + 1) 14 [MP, .p (.list (L.map GOp.pv))] (b0o S.N S.st av rest) = some (.tuple [.p (.int .i64 (runM S L 0).1), .p (.int .i64 (runM S L 0).2.1)], b0o (runM S L 0).2.2.N (runM S L 0).2.2.st av' rest')
      ∧ MOk (runM S L 0).2.2.N av' (runM S L 0).2.2.kd rest'∧(runM S L 0).2.2.Ok R'∧R'≤bnd R L.length∧(runM S L 0).2.2.N≤S.N+L.length∧Fr S.N av rest (runM S L 0).2.2.N av' rest':=by
  have len1:(b0z S.N S.st av).length=S.N:=b1y
  have k0:((S.N:Int)==0)=false:=by have:=hS.pos;simp;omega
  have key:=b1i (C:=b0f T F) (N:=F) (B:=h5e) (σ := Nat × MS × (Nat→AV) × List AObj) (S:=fun s=>⟨[(0,MP),(1,.p (.list (L.map GOp.pv))),(19,.p (.list (L.map GOp.pv))),(20,.p (.int .i64 L.length)),(21,.p (.int .i64 s.1))],[],b0o s.2.1.N s.2.1.st s.2.2.1 s.2.2.2⟩)
    (I:=fun s=>s.1≤L.length∧s.2.1.Ok (bnd R s.1)∧MOk s.2.1.N s.2.2.1 s.2.1.kd s.2.2.2∧s.2.1.N≤S.N+s.1∧runM S L 0=runM s.2.1 (L.drop s.1) s.1∧Fr S.N av rest s.2.1.N s.2.2.1 s.2.2.2) (μ := fun s=>L.length - s.1)
    (Q:=fun q=>∃ av' rest' R',(((runM S L 0).2.1=0∧(runM S L 0).1=L.length∧q=(.exit 0,⟨[(1,.p (.list (L.map GOp.pv)))],[],b0o (runM S L 0).2.2.N (runM S L 0).2.2.st av' rest'⟩))∨q=(.ret,⟨[(4,.p (.int .i64 (runM S L 0).1)),(5,.p (.int .i64 (runM S L 0).2.1))],[],b0o (runM S L 0).2.2.N (runM S L 0).2.2.st av' rest'⟩))
      ∧ MOk (runM S L 0).2.2.N av' (runM S L 0).2.2.kd rest'∧(runM S L 0).2.2.Ok R'∧R'≤bnd R L.length∧(runM S L 0).2.2.N≤S.N+L.length∧Fr S.N av rest (runM S L 0).2.2.N av' rest') ?_ (0,S,av,rest) ⟨by simp,hS,hM,by simp,by simp,Fr.refl _ _ _⟩ (by simp only;omega)
  · obtain ⟨q,hq,av',rest',R',hq2,h2⟩:=key
    refine ⟨av',rest',R', ?_,h2⟩
    rw [b0a T14,b0g rfl rfl]
    simp only [Int.natCast_zero] at hq
    rcases hq2 with ⟨z1,z2,rfl⟩ | rfl
    · simp only [b0o] at hq ⊢
      rw [z1,z2]
      simp -implicitDefEqProofs (disch:=omega) only [Rx,simprocAttr,F14,k0,hq]
    · simp only [b0o] at hq ⊢
      simp -implicitDefEqProofs (disch:=omega) only [Rx,simprocAttr,F14,k0,hq]
  rintro ⟨i,S1,av1,rest1⟩ ⟨h1,h2,h3,h4,h5,h6⟩
  simp only at h1 h2 h3 h4 h5 h6 ⊢
  have hb:=b9w R h1
  by_cases hi:i<L.length
  · obtain ⟨x,hx⟩:∃ x,L[i]? = some x:=⟨_,List.getElem?_eq_getElem hi⟩
    have hxm:=hL x (List.mem_of_getElem? hx)
    have k1:(i:Int)<(L.length:Int):=by omega
    have hg:=b0s (f:=GOp.pv) hx
    obtain ⟨av2,rest2,hd,hM2,hfr⟩:=j3n h2 (by omega) av1 rest1 h3 x hxm (n:=F - bnd R i - 61) (by omega)
    rw [show F - bnd R i - 61+bnd R i+61=F by omega] at hd
    obtain ⟨hok,hn1,hn2⟩:=h3k h2 x (by omega)
    have hr:=d6f hx S1
    by_cases e:(doE S1 x).1=0
    · left
      rw [if_pos e] at hr
      rw [hr] at h5
      refine ⟨(i+1,(doE S1 x).2,av2,rest2), ?_,⟨by simp only;omega,hok,hM2,by simp only;omega,h5,h6.trans hfr⟩,by simp only;omega⟩
      rw [e] at hd
      generalize doE S1 x=q at hd ⊢
      simp only [GOp.pv,b0b] at hd
      simp only [b0o] at hd ⊢
      simp -implicitDefEqProofs (disch:=omega) only [Rx,simprocAttr,h5e,k1,hg,GOp.pv,b0b,hd]
    · right
      rw [if_neg e] at hr
      rw [hr] at h5
      rw [h5]
      simp only
      refine ⟨_, ?_, ?_,av2,rest2,bnd R (i+1),.inr rfl,hM2,hok,b9w R (by omega),by omega,h6.trans hfr⟩
      · have e1:((doE S1 x).1==0)=false:=by simpa using e
        generalize doE S1 x=q at hd e1 ⊢
        simp only [GOp.pv,b0b] at hd
        simp only [b0o] at hd ⊢
        simp -implicitDefEqProofs (disch:=omega) only [Rx,simprocAttr,h5e,k1,hg,GOp.pv,b0b,hd,e1]
      · simp
  · right
    obtain rfl:i=L.length:=by omega
    have k1:¬ (L.length:Int)<(L.length:Int):=by omega
    have hr:runM S1 (L.drop L.length) L.length=(L.length,0,S1):=by rw [List.drop_length];rfl
    rw [hr] at h5
    rw [h5]
    simp only
    refine ⟨_, ?_, ?_,av1,rest1,bnd R L.length,.inl ⟨trivial,trivial,rfl⟩,h3,h2,Nat.le_refl _,h4,h6⟩
    · simp -implicitDefEqProofs (disch:=omega) only [Rx,simprocAttr,h5e,k1]
    · simp
end Go.TA.Tryz


end
section
/- The rows of a machine. -/
namespace Go.TA.Tryz
def memR (S:MS) (av:Nat→AV) (rest:List AObj) (q:Nat) (out:List GRow):List AObj:=b0o S.N S.st av (rest.set q (.pcells 6 (out.map GRow.pv)))
theorem d2e {R : Nat} {S : MS} (hS : S.Ok R) (hN : S.N ≤ 4194304) (av : Nat → AV) (rest : List AObj) (hM : MOk S.N av S.kd rest) (q : Nat) (hq : q < rest.length) (hqf : ∀ k, k < S.N → b1z (av k) ≠ some (q + 1 + 1)) (m : Nat) (hm : S.N + 1 < m) (d h : Nat) (up : Int) (out : List GRow) (hh : h < S.N) (hp : PreO S out h) (hol : out.length ≤ S.N)
    (ih:∀ c:Nat,c<S.N→(S.st c).up=(h:Int)→∀ (out:List GRow) (up:Int),out.length≤S.N→PreO S out c→b0f T m 48 [MP,.own true (q+1+1) out.length,.p (.int .i64 c),.p (.int .i64 up)] (memR S av rest q out)=some (.own true (q+1+1) (b1t S d out (c:Int) up).length,memR S av rest q (b1t S d out (c:Int) up))) :
    b0f T (m+1) 48 [MP,.own true (q+1+1) out.length,.p (.int .i64 h),.p (.int .i64 up)] (memR S av rest q out)=some (.own true (q+1+1) (b1t S (d+1) out (h:Int) up).length,memR S av rest q (b1t S (d+1) out (h:Int) up)):=by
  have hK:=hM.kids h hh
  have hkl:=hS.kids_len hh
  have len1:(b0z S.N S.st av).length=S.N:=b1y
  have k1:(h:Int)<(S.N:Int):=by omega
  have hgh:(b0z S.N S.st av).getD h []=b1s (S.st h) (av h):=b1w hh
  have il:=b0v (S.kd h)
  have hinv:=g3f hS (d:=d) (up:=up) hh hp
  have hloop:b0t (b0f T m) m (.loop d1d) ⟨[(0,MP),(1,.own true (q+1+1) out.length),(3,.p (.int .i64 up)),(19,av h),(20,.p (.int .i64 (S.kd h).length)),(21,.p (.int .i64 0))],[],memR S av rest q out⟩=some (.exit 0,⟨[(1,.own true (q+1+1) (b1t S (d+1) out (h:Int) up).length)],[],memR S av rest q (b1t S (d+1) out (h:Int) up)⟩):=by
    have key:=b1i (C:=b0f T m) (N:=m) (B:=d1d) (σ := Nat) (S:=fun i=>⟨[(0,MP),(1,.own true (q+1+1) (outI S d out h up i).length),(3,.p (.int .i64 up)),(19,av h),(20,.p (.int .i64 (S.kd h).length)),(21,.p (.int .i64 i))],[],memR S av rest q (outI S d out h up i)⟩)
      (I:=fun i=>i≤(S.kd h).length) (μ := fun i=>(S.kd h).length - i) (Q:=fun z=>z=(.exit 0,⟨[(1,.own true (q+1+1) (b1t S (d+1) out (h:Int) up).length)],[],memR S av rest q (b1t S (d+1) out (h:Int) up)⟩)) ?_ 0 (by omega) (by omega)
    · obtain ⟨z,hz,rfl⟩:=key
      rw [b8x] at hz
      exact hz
    intro i hi
    by_cases hil:i<(S.kd h).length
    · left
      obtain ⟨k,hk⟩:∃ k,(S.kd h)[i]? = some k:=⟨_,List.getElem?_eq_getElem hil⟩
      have hkm:=List.mem_of_getElem? hk
      obtain ⟨c,rfl,hc,_,hcu⟩:=hS.kids h hh k hkm
      obtain ⟨hpo,hpm⟩:=hinv i hi
      have hpre:=g1d hS up hh hp hpo hpm hk hc hcu
      have hol1:=hpo.len
      have ho:=b6b (S:=S) (d:=d) (out:=out) (up:=up) hk
      have hol2:(outI S d out h up i++[rowM S (c:Int) up]).length≤S.N:=by
        have:=c0v S.N _ hpre.nodup (fun k hk=>by
          obtain ⟨x,hx,rfl⟩:=List.mem_map.1 hk
          exact hpre.rng x hx)
        rwa [List.length_map] at this
      have ihc:=ih c hc hcu _ (((outI S d out h up i).length:Int)+1) hol2 hpre
      rw [← ho] at ihc
      refine ⟨i+1, ?_,by omega,by omega⟩
      generalize outI S d out h up i=o1 at hol1 hol2 ihc ⊢
      generalize outI S d out h up (i+1)=o2 at ihc ⊢
      have k2:(i:Int)<((S.kd h).length:Int):=by omega
      have k3:(c:Int)<(S.N:Int):=by omega
      have hg:=b4e hk
      have hgc:(b0z S.N S.st av).getD c []=b1s (S.st c) (av c):=b1w hc
      have hcl:=b5q (S.st c).attrs (hS.attrs c hc) [] (m - 1)
      rw [show m - 1+1=m by omega] at hcl
      have os:o1.map GRow.pv++[[.int .i64 (c:Int),.int .i64 up,.str (S.st c).tag,.str (S.st c).key,.str (S.st c).text,.list ((S.st c).attrs.map Attr.pv)]]=(o1++[rowM S (c:Int) up]).map GRow.pv:=by
        rw [List.map_append];rfl
      have ol1:(o1.map GRow.pv).length=o1.length:=by simp
      have ol2:(o1++[rowM S (c:Int) up]).length=o1.length+1:=by simp
      rw [ol2] at ihc
      have ol3:((o1++[rowM S (c:Int) up]).map GRow.pv).length=o1.length+1:=by simp
      generalize o1++[rowM S (c:Int) up]=o3 at os ihc ol3
      have hgq:(rest.set q (.pcells 6 (o1.map GRow.pv)))[q]? = some (.pcells 6 (o1.map GRow.pv)):=by rw [List.getElem?_set,if_pos rfl,if_pos hq]
      have hss:∀ o o':AObj,(rest.set q o).set q o'=rest.set q o':=fun o o'=>by simp
      simp only [b1s] at hgc
      rcases hK.inv with ⟨_,hk0⟩ | ⟨r,hav,hr⟩ | hav
      · rw [hk0] at hil;simp at hil
      · have hrq:r≠q:=fun e=>hqf h hh (by rw [hav,e];rfl)
        have hgr:(rest.set q (.pcells 6 (o1.map GRow.pv)))[r]? = some (.pcells 1 (b0j (S.kd h))):=by rw [List.getElem?_set,if_neg (fun e=>hrq e.symm)];exact hr
        rcases (hM.kids c hc).inv with ⟨hav2,_⟩ | ⟨r2,hav2,_⟩ | hav2
        all_goals
          simp only [hav2] at hgc
          simp only [memR,b0o,hav] at ihc ⊢
          simp -implicitDefEqProofs (disch:=omega) only [Rx,simprocAttr,d1d,k2,k3,hg,hgc,len1,hgq,hgr,il,hss,hcl,os,ol1,ol3,ihc]
      · rcases (hM.kids c hc).inv with ⟨hav2,_⟩ | ⟨r2,hav2,_⟩ | hav2
        all_goals
          simp only [hav2] at hgc
          simp only [memR,b0o,hav] at ihc ⊢
          simp -implicitDefEqProofs (disch:=omega) only [Rx,simprocAttr,d1d,k2,k3,hg,hgc,len1,hgq,il,hss,hcl,os,ol1,ol3,ihc]
    · right
      obtain rfl:i=(S.kd h).length:=by omega
      have k2:¬ ((S.kd h).length:Int)<((S.kd h).length:Int):=by omega
      refine ⟨_, ?_, ?_,rfl⟩
      · rw [b7p]
        generalize b1t S (d+1) out (h:Int) up=o1
        rcases hK.inv with ⟨hav,_⟩ | ⟨r,hav,_⟩ | hav
        all_goals
          simp only [hav]
          simp -implicitDefEqProofs (disch:=omega) only [Rx,simprocAttr,d1d,k2]
      · simp
  rw [b0a T48,b0g rfl rfl]
  simp only [b1s] at hgh
  generalize b1t S (d+1) out (h:Int) up=o2 at hloop ⊢
  rcases hK.inv with ⟨hav,hk0⟩ | ⟨r,hav,hr⟩ | hav
  · simp only [hk0,List.length_nil,Int.natCast_zero] at hloop
    simp only [memR,b0o,hav] at hloop hgh ⊢
    simp -implicitDefEqProofs (disch:=omega) only [Rx,simprocAttr,F48,k1,len1,hgh,hloop]
  · have hrq:r≠q:=fun e=>hqf h hh (by rw [hav,e];rfl)
    have hgr:(rest.set q (.pcells 6 (out.map GRow.pv)))[r]? = some (.pcells 1 (b0j (S.kd h))):=by rw [List.getElem?_set,if_neg (fun e=>hrq e.symm)];exact hr
    simp only [memR,b0o,hav] at hloop hgh ⊢
    simp -implicitDefEqProofs (disch:=omega) only [Rx,simprocAttr,F48,k1,len1,hgh,hloop]
  · simp only [memR,b0o,hav] at hloop hgh ⊢
    simp -implicitDefEqProofs (disch:=omega) only [Rx,simprocAttr,F48,k1,len1,hgh,il,hloop]
theorem h1q {R:Nat} {S:MS} (hS:S.Ok R) (hN:S.N≤4194304) (av:Nat→AV) (rest:List AObj) (hM:MOk S.N av S.kd rest) (q:Nat) (hq:q<rest.length) (hqf:∀ k,k<S.N→b1z (av k)≠some (q+1+1)) {r:Nat→Nat} (hr1:∀ c,c<S.N→r c≤R) (hr2:∀ c p:Nat,c<S.N→(S.st c).up=(p:Int)→r p<r c) (n:Nat) (hn:S.N+1<n) :
    ∀ (d h : Nat) (up : Int) (out : List GRow), h < S.N → R ≤ r h + d → out.length ≤ S.N → PreO S out h →
      b0f T (n+d+1) 48 [MP,.own true (q+1+1) out.length,.p (.int .i64 h),.p (.int .i64 up)] (memR S av rest q out)=some (.own true (q+1+1) (b1t S (d+1) out (h:Int) up).length,memR S av rest q (b1t S (d+1) out (h:Int) up)):=by
  intro d
  induction d with
  | zero =>
    intro h up out hh hR hol hp
    exact d2e hS hN av rest hM q hq hqf n hn 0 h up out hh hp hol (fun c hc hcu=>by
      have:=hr1 c hc
      have:=hr2 c h hc hcu
      omega)
  | succ d ih =>
    intro h up out hh hR hol hp
    exact d2e hS hN av rest hM q hq hqf (n+d+1) (by omega) (d+1) h up out hh hp hol (fun c hc hcu out up hol hp=>by
      have:=hr2 c h hc hcu
      exact ih c up out hc (by omega) hol hp)
theorem g4z {R:Nat} {S:MS} (hS:S.Ok R) (hN:S.N≤4194304) (av:Nat→AV) (rest:List AObj) (hM:MOk S.N av S.kd rest) {n:Nat} (hn:S.N+1<n) :
  b0f T (n+R+2) 16 [MP] (b0o S.N S.st av rest)=some (.own true (rest.length+1+1) (b2j S R).length,b0o S.N S.st av (rest++[.pcells 6 ((b2j S R).map GRow.pv)])):=by
 have hM':MOk S.N av S.kd (rest++[.pcells 6 []]):=⟨fun h hh=>(hM.kids h hh).more _,hM.disj⟩
 obtain ⟨r,hr1,hr2⟩:=hS.rank
 have hr:=h1q hS hN av (rest++[.pcells 6 []]) hM' rest.length (by simp) (fun k hk e=>by
  have:=(hM.kids k hk).ref_lt e
  omega) hr1 hr2 n hn R 0 0 [] hS.pos (by omega) (by simp) d3p
 have hset:∀ o o':AObj,(rest++[o]).set rest.length o'=rest++[o']:=fun o o'=>by simp [List.set_append]
 have len1:(b0z S.N S.st av).length=S.N:=b1y
 have k0:((S.N:Int)==0)=false:=by have:=hS.pos;simp;omega
 simp only [memR,hset,Int.natCast_zero,List.map_nil,List.length_nil] at hr
 rw [b0a T16,b0g rfl rfl]
 unfold b2j
 generalize b1t S (R+1) [] 0 0=o at hr ⊢
 simp only [b0o] at hr ⊢
 simp -implicitDefEqProofs (disch:=omega) only [Rx,simprocAttr,F16,k0,hr]
end Go.TA.Tryz


end
section
/- What stays as it was, whatever a script does; what a machine's rows tell. Plain. -/
namespace Go.TA.Tryz
def g8m (S S':MS):Prop:=S.N≤S'.N∧∀ y:Nat,y<S.N→(S'.st y).live=true→(S.st y).live=true∧(S'.st y).tag=(S.st y).tag∧(S'.st y).key=(S.st y).key∧(0≤(S.st y).up→(S'.st y).up=(S.st y).up)
theorem g8m.refl (S:MS):g8m S S:=⟨Nat.le_refl _,fun y _ h=>⟨h,rfl,rfl,fun _=>rfl⟩⟩
theorem g8m.trans {S S' S'':MS} (h1:g8m S S') (h2:g8m S' S''):g8m S S'':=by
 refine ⟨Nat.le_trans h1.1 h2.1,fun y hy hl => ?_⟩
 obtain ⟨a1,a2,a3,a4⟩:=h2.2 y (Nat.lt_of_lt_of_le hy h1.1) hl
 obtain ⟨b1,b2,b3,b4⟩:=h1.2 y hy a1
 refine ⟨b1,by rw [a2,b2],by rw [a3,b3],fun h => ?_⟩
 have:=b4 h
 rw [a4 (by omega),this]
structure h4n (S:MS) (out:List GRow) (i:Nat) (x:GRow) (c:Nat):Prop where
 id:x.id=(c:Int)
 pos:0<c
 lt:c<S.N
 live:(S.st c).live=true
 tag:x.tag=(S.st c).tag
 key:x.key=(S.st c).key
 up:(x.up=0∧(S.st c).up=0)∨∃ j y,j<i∧x.up=(j:Int)+1∧out[j]? = some y∧y.id=(S.st c).up
def Good (S:MS) (out:List GRow):Prop:=∀ i x,out[i]? = some x→∃ c,h4n S out i x c
def Link (out:List GRow) (h:Nat) (up:Int):Prop:=(h=0∧up=0)∨∃ (j:Nat) (y:GRow),up=(j:Int)+1∧out[j]? = some y∧y.id=(h:Int)
theorem Link.more {out:List GRow} {h:Nat} {up:Int} (l:Link out h up) (r:List GRow):Link (out++r) h up:=by
 rcases l with l | ⟨j,y,h1,h2,h3⟩
 ·exact .inl l
 ·refine .inr ⟨j,y,h1, ?_,h3⟩
  rw [List.getElem?_append_left (List.getElem?_eq_some_iff.1 h2).1];exact h2
section
variable {R:Nat} {S:MS} (hS:S.Ok R)
include hS
theorem h2r {out:List GRow} {h c:Nat} {up:Int} (hg:Good S out) (hl:Link out h up) (hc:c<S.N) (hcl:(S.st c).live=true) (hu:(S.st c).up=(h:Int)):Good S (out++[rowM S (c:Int) up]):=by
 have hc0:0<c:=by
  rcases Nat.eq_zero_or_pos c with e | e
  ·subst e;have:=hS.top.2;omega
  ·exact e
 intro i x hx
 by_cases hi:i<out.length
 ·rw [List.getElem?_append_left hi] at hx
  obtain ⟨c',g⟩:=hg i x hx
  refine ⟨c',g.id,g.pos,g.lt,g.live,g.tag,g.key, ?_⟩
  rcases g.up with h1 | ⟨j,y,h1,h2,h3,h4⟩
  ·exact .inl h1
  ·refine .inr ⟨j,y,h1,h2, ?_,h4⟩
   rw [List.getElem?_append_left (by omega)];exact h3
 ·have hi2:i=out.length:=by
   have:=(List.getElem?_eq_some_iff.1 hx).1
   simp at this;omega
  subst hi2
  rw [List.getElem?_append_right (Nat.le_refl _),Nat.sub_self] at hx
  simp only [List.getElem?_cons_zero,Option.some.injEq] at hx
  subst hx
  refine ⟨c,rfl,hc0,hc,hcl,rfl,rfl, ?_⟩
  rcases hl with ⟨h1,h2⟩ | ⟨j,y,h1,h2,h3⟩
  ·exact .inl ⟨h2,by rw [hu,h1];rfl⟩
  ·have hj:=(List.getElem?_eq_some_iff.1 h2).1
   exact .inr ⟨j,y,hj,h1,by rw [List.getElem?_append_left hj];exact h2,by rw [h3,hu]⟩
theorem d2z : ∀ (d : Nat) (out : List GRow) (h : Nat) (up : Int), h < S.N → Good S out → Link out h up → Good S (b1t S d out (h : Int) up) ∧ ∃ more, b1t S d out (h : Int) up = out ++ more
  | 0,out,h,up,hh,hg,hl=>⟨hg,[],by simp [b1t]⟩
  | d + 1, out, h, up, hh, hg, hl => by
    rw [← b7p]
    have key:∀ i,i≤(S.kd h).length→Good S (outI S d out h up i)∧∃ more,outI S d out h up i=out++more:=by
      intro i
      induction i with
      | zero=>exact fun _=>⟨hg,[],by simp [b8x]⟩
      | succ i ih =>
        intro hi
        obtain ⟨h1,more,h2⟩:=ih (by omega)
        obtain ⟨k,hk⟩:∃ k,(S.kd h)[i]? = some k:=⟨_,List.getElem?_eq_getElem (by omega)⟩
        obtain ⟨c,rfl,hc,hcl,hu⟩:=hS.kids h hh k (List.mem_of_getElem? hk)
        have hl1:Link (outI S d out h up i) h up:=by rw [h2];exact hl.more more
        have hg1:=h2r hS h1 hl1 hc hcl hu
        rw [b6b hk]
        obtain ⟨r1,more2,r2⟩:=d2z d _ c (((outI S d out h up i).length:Int)+1) hc hg1 (.inr ⟨(outI S d out h up i).length,rowM S (c:Int) up,rfl,by simp,rfl⟩)
        exact ⟨r1,more++[rowM S (c:Int) up]++more2,by rw [r2,h2];simp⟩
    exact key _ (Nat.le_refl _)
theorem d1s (R':Nat):Good S (b2j S R'):=(d2z hS (R'+1) [] 0 0 hS.pos (fun i x h=>by simp at h) (.inl ⟨rfl,rfl⟩)).1
end
end Go.TA.Tryz


end
section
/- The machine of a machine's rows, beside that machine. Plain. -/
namespace Go.TA
def phi (mid:List GRow) (made h:Nat):Nat:=if h=0 then 0 else if h≤mid.length then ((mid[h - 1]?).map fun x=>x.id.toNat).getD 0 else made+(h - mid.length)
theorem g0p {mid:List GRow} {made i c:Nat} {x:GRow} (hx:mid[i]? = some x) (hc:x.id=(c:Int)):phi mid made (i+1)=c:=by
 have:=(List.getElem?_eq_some_iff.1 hx).1
 unfold phi
 rw [if_neg (by omega),if_pos (by omega),Nat.add_sub_cancel,hx]
 simp [hc]
theorem h7g {l:List GRow} {made:Nat} (hid:∀ x ∈ l,0≤x.id) (h:Nat):∀ i,i≤l.length→(kd0 l i h).map (img (phi l made))=b4i (l.take i) (h:Int):=by
  intro i
  induction i with
  | zero=>exact fun _=>by simp [h7f,b4i]
  | succ i ih =>
    intro hi
    obtain ⟨x,hx⟩:=b0m (show i<l.length by omega)
    have h0:=hid x (List.mem_of_getElem? hx)
    have hp:img (phi l made) ((i:Int)+1)=x.id:=by
      have:=g0p (made:=made) (c:=x.id.toNat) hx (by omega)
      have e:=b2n (phi l made) (i+1)
      rw [this] at e
      push_cast at e
      rw [e];omega
    have ht:l.take (i+1)=l.take i++[x]:=by rw [List.take_add_one,hx];rfl
    rw [c1t hx,ht,b8u]
    by_cases e:x.up=(h:Int)
    · rw [if_pos e,List.map_append,ih (by omega)]
      simp [b4i,e,hp]
    · rw [if_neg e,ih (by omega)]
      simp [b4i,e]
namespace Tryz
theorem g9w {R : Nat} {S : MS} (hS : S.Ok R) (h0 : S.st 0 = b7c) (hl : b3r S = []) : Sim (phi (b2j S R) (S.N - 1)) (S0 (b2j S R)) S := by
  have hpos:=hS.pos
  have hgood:=d1s hS R
  have hnd:=(c2a hS (R+1) [] 0 0 hS.pos d3p).nodup
  obtain ⟨hk0,hk1⟩:=g5p hS
  have hcont:∀ x ∈ b2j S R,∃ k u,x=rowM S k u:=fun x hx=>by
    rcases belowM_mem _ _ _ _ x hx with h | h
    · simp at h
    · exact h
  have hid:∀ x ∈ b2j S R,0≤x.id:=fun x hx=>by
    obtain ⟨i,hi⟩:=List.getElem?_of_mem hx
    obtain ⟨c,g⟩:=hgood i x hi
    rw [g.id];omega
  change (List.map GRow.id (b2j S R)).Nodup at hnd
  have hrow:∀ i,i<(b2j S R).length→∃ x c,(b2j S R)[i]? = some x∧h4n S (b2j S R) i x c∧phi (b2j S R) (S.N - 1) (i+1)=c:=fun i hi=>by
    obtain ⟨x,hx⟩:=b0m hi
    obtain ⟨c,g⟩:=hgood i x hx
    exact ⟨x,c,hx,g,g0p hx g.id⟩
  have hkd:=h7g (made:=S.N - 1) hid
  generalize hmid:b2j S R=mid at *
  have z0:phi mid (S.N - 1) 0=0:=rfl
  have hnext:∀ j,phi mid (S.N - 1) (mid.length+1+j)=S.N+j:=fun j=>by
    unfold phi
    rw [if_neg (by omega),if_neg (by omega)]
    omega
  have hkdd:∀ h,h<mid.length+1→S.kd (phi mid (S.N - 1) h)=(kd0 mid mid.length h).map (img (phi mid (S.N - 1))):=fun h hh=>by
    rw [hkd h _ (Nat.le_refl _),List.take_length]
    cases h with
    | zero=>rw [z0];exact hk0.symm
    | succ i =>
      obtain ⟨x,c,hx,g,hp⟩:=hrow i (by omega)
      rw [hp]
      have:=hk1 i x hx
      rw [g.id,Int.toNat_natCast] at this
      rw [← this]
      push_cast
      rfl
  exact {
    pos:=by simp [S0]
    zero:=z0
    next:=hnext
    lt:=fun h hh=>by
      simp only [S0] at hh
      cases h with
      | zero=>rw [z0];exact hpos
      | succ i =>
        obtain ⟨x,c,hx,g,hp⟩:=hrow i (by omega)
        rw [hp];exact g.lt
    inj := fun h k hh hk e => by
      simp only [S0] at hh hk
      cases h with
      | zero =>
        cases k with
        | zero=>rfl
        | succ j =>
          obtain ⟨x,c,hx,g,hp⟩:=hrow j (by omega)
          rw [hp,z0] at e
          have:=g.pos;omega
      | succ i =>
        obtain ⟨x,c,hx,g,hp⟩:=hrow i (by omega)
        cases k with
        | zero =>
          rw [hp,z0] at e
          have:=g.pos;omega
        | succ j =>
          obtain ⟨y,c',hy,g',hp'⟩:=hrow j (by omega)
          rw [hp,hp'] at e
          have e1:(mid.map GRow.id)[i]? = (mid.map GRow.id)[j]? := by
            rw [List.getElem?_map,List.getElem?_map,hx,hy]
            simp only [Option.map_some,g.id,g'.id,e]
          have:=(List.getElem?_inj (by simpa using (List.getElem?_eq_some_iff.1 hx).1) hnd).1 e1
          omega
    node := fun h hh => by
      simp only [S0] at hh ⊢
      cases h with
      | zero=>rw [z0,h0];rfl
      | succ i =>
        obtain ⟨x,c,hx,g,hp⟩:=hrow i (by omega)
        obtain ⟨k,u,hku⟩:=hcont x (List.mem_of_getElem? hx)
        have hkc:k=(c:Int):=by rw [← g.id,hku];rfl
        have hup:(S.st c).up=img (phi mid (S.N - 1)) x.up:=by
          rcases g.up with ⟨q1,q2⟩ | ⟨j,y,q1,q2,q3,q4⟩
          · rw [q1,q2];rfl
          · obtain ⟨c2,g2⟩:=hgood j y q3
            have:=g0p (made:=S.N - 1) q3 g2.id
            rw [q2, ← q4,g2.id]
            have e:=b2n (phi mid (S.N - 1)) (j+1)
            push_cast at e
            rw [e,this]
        have hst:st0 mid (i+1)=b5o x:=by simp [st0,hx]
        rw [hp,hst]
        have t1:x.tag=(S.st c).tag:=by rw [hku,hkc];simp [rowM]
        have t2:x.key=(S.st c).key:=by rw [hku,hkc];simp [rowM]
        have t3:x.text=(S.st c).text:=by rw [hku,hkc];simp [rowM]
        have t4:x.attrs=(S.st c).attrs:=by rw [hku,hkc];simp [rowM]
        have hl:=g.live
        simp only [b5o]
        rw [← hup,t1,t2,t3,t4, ← hl]
    kd:=fun h hh=>by
      simp only [S0] at hh ⊢
      exact hkdd h hh
    onto := by
      obtain ⟨r,_,hr⟩:=hS.rank
      have key:∀ (n k:Nat),r k≤n→k<S.N→(S.st k).live=true→∃ h,h<(S0 mid).N∧phi mid (S.N - 1) h=k:=by
        intro n
        induction n with
        | zero =>
          intro k hrk hk hlv
          by_cases e:k=0
          · exact ⟨0,by simp [S0],by rw [z0,e]⟩
          · exfalso
            rcases hS.up k hk with hu | ⟨p,hp,hu,_,_⟩
            · have:(k:Int) ∈ b3r S:=by
                unfold b3r
                refine List.mem_map.2 ⟨k,List.mem_filter.2 ⟨b1m.2 ⟨hk,hlv⟩, ?_⟩,rfl⟩
                simp [e,hu]
              rw [hl] at this;simp at this
            · have:=hr k p hk hu;omega
        | succ n ih =>
          intro k hrk hk hlv
          by_cases e:k=0
          · exact ⟨0,by simp [S0],by rw [z0,e]⟩
          rcases hS.up k hk with hu | ⟨p,hp,hu,hpl,hkm⟩
          · exfalso
            have:(k:Int) ∈ b3r S:=by
              unfold b3r
              refine List.mem_map.2 ⟨k,List.mem_filter.2 ⟨b1m.2 ⟨hk,hlv⟩, ?_⟩,rfl⟩
              simp [e,hu]
            rw [hl] at this;simp at this
          · have hrp:=hr k p hk hu
            obtain ⟨h,hh,rfl⟩:=ih p (by omega) hp hpl
            simp only [S0] at hh
            rw [hkdd h hh] at hkm
            obtain ⟨j,hj,ej⟩:=List.mem_map.1 hkm
            obtain ⟨i,x,hi,hx,_,rfl⟩:=d4e.1 hj
            have e2:=b2n (phi mid (S.N - 1)) (i+1)
            push_cast at e2
            rw [e2] at ej
            exact ⟨i+1,by simp only [S0];omega,by omega⟩
      exact fun k hk hlv=>key (r k) k (Nat.le_refl _) hk hlv }
theorem c5y {mid:List GRow} (hid:∀ x ∈ mid,0≤x.id) (made:Nat) {h:Int} (h0:0≤h):b3a mid (made:Int) h=img (phi mid made) h:=by
 obtain ⟨n,rfl⟩:∃ n:Nat,h=(n:Int):=⟨h.toNat,by omega⟩
 rw [b2n]
 unfold b3a phi
 by_cases e:n=0
 ·subst e;rfl
 rw [if_neg (by omega),if_neg e]
 by_cases hle:n≤mid.length
 ·rw [if_pos (by omega),if_pos hle]
  obtain ⟨x,hx⟩:=b0m (show n - 1<mid.length by omega)
  have:=hid x (List.mem_of_getElem? hx)
  rw [show ((n:Int) - 1).toNat=n - 1 by omega,hx]
  simp only [Option.map_some,Option.getD_some]
  omega
 ·rw [if_neg (by omega),if_neg hle]
  omega
end Tryz
end Go.TA


end
section
/- What is wrong with rows: the document's answer. -/
namespace Go.TA.Tryz
def c8f (x y:GRow):Bool:=(y.up==x.up) && (y.key==x.key)
def dupB (l:List GRow) (i:Nat) (x:GRow):Bool := !(x.key==[]) && (l.take i).any (c8f x)
def b3n (l:List GRow) (i:Nat) (x:GRow):Int:=if i=4096 then 12 else if 64<(b3o l (i+1)).length then 11 else if b2a x=0 then (if dupB l i x=true then 10 else 0) else b2a x
def b2w (l:List GRow):Nat→List GRow→Int
 | _,[]=>0
 | i,x::r=>if b3n l i x=0 then b2w l (i+1) r else b3n l i x
def b0r (l:List GRow):Int:=if b4h l=true then b2w l 0 l else 2
def c2i (l:List GRow) (i:Nat) (r:Bool):Ex × St:=if r=true then (.ret,⟨[(2,.p (.int .i64 10))],[],[]⟩) else (.exit 2,⟨[(0,.p (.list (l.map GRow.pv))),(10,.p (.int .i64 l.length)),(11,.p (.int .i64 i))],[],[]⟩)
theorem h7s {n N : Nat} (l : List GRow) (i : Nat) (x : GRow) (hx : l[i]? = some x) (hl : l.length ≤ 1048576) (hN : l.length < N) :
    b0t (b0f T n) N (.loop d9f) ⟨[(0,.p (.list (l.map GRow.pv))),(3,.p (.int .i64 i)),(10,.p (.int .i64 l.length)),(11,.p (.int .i64 i)),(46,.p (.int .i64 i)),(47,.p (.int .i64 ((0:Nat):Int)))],[],[]⟩=some (c2i l i (dupB l i x)):=by
  have hlt:i<l.length:=(List.getElem?_eq_some_iff.1 hx).1
  have hg:=b0s (f:=GRow.pv) hx
  have:=b1k (C:=b0f T n) (N:=N) (B:=d9f) (σ := Nat) (S:=fun k=>⟨[(0,.p (.list (l.map GRow.pv))),(3,.p (.int .i64 i)),(10,.p (.int .i64 l.length)),(11,.p (.int .i64 i)),(46,.p (.int .i64 i)),(47,.p (.int .i64 k))],[],[]⟩) (I:=fun k=>k≤i) (μ := fun k=>i - k)
    (Φ := fun k=>c2i l i (!(x.key==[]) && ((l.take i).drop k).any (c8f x))) ?_ 0 (by omega) (by omega)
  · simpa [dupB] using this
  intro k hk
  by_cases h:k<i
  · have k1 : (k : Int) < (i : Int) := by omega
    have k2:(i:Int)<(l.length:Int):=by omega
    have k3:(k:Int)<(l.length:Int):=by omega
    obtain ⟨y,hy⟩:=b0m (show k<l.length by omega)
    have hgy:=b0s (f:=GRow.pv) hy
    have hd:(l.take i).drop k=y::(l.take i).drop (k+1):=by
      rw [List.drop_eq_getElem?_toList_append,List.getElem?_take,if_pos h,hy];rfl
    have next:(!(x.key==[]) && c8f x y)=false→c2i l i (!(x.key==[]) && ((l.take i).drop k).any (c8f x))=c2i l i (!(x.key==[]) && ((l.take i).drop (k+1)).any (c8f x)):=fun h=>by
      rw [hd,List.any_cons,Bool.and_or_distrib_left,h,Bool.false_or]
    cases hk0:(x.key==[]) with
    | true =>
      refine .inl ⟨k+1, ?_,by omega,by omega,by rw [hk0] at next;exact next rfl⟩
      simp -implicitDefEqProofs (disch:=omega) only [Rx,simprocAttr,d9f,k1,k2,hg,GRow.pv,hk0]
    | false =>
      cases hu:(y.up==x.up) with
      | false =>
        refine .inl ⟨k+1, ?_,by omega,by omega,by rw [hk0] at next;exact next (by simp [c8f,hu])⟩
        simp -implicitDefEqProofs (disch:=omega) only [Rx,simprocAttr,d9f,k1,k2,k3,hg,hgy,GRow.pv,hk0,hu]
      | true =>
        cases hke:(y.key==x.key) with
        | false =>
          refine .inl ⟨k+1, ?_,by omega,by omega,by rw [hk0] at next;exact next (by simp [c8f,hke])⟩
          simp -implicitDefEqProofs (disch:=omega) only [Rx,simprocAttr,d9f,k1,k2,k3,hg,hgy,GRow.pv,hk0,hu,hke]
        | true =>
          have e:c2i l i (!false && ((l.take i).drop k).any (c8f x))=(.ret,⟨[(2,.p (.int .i64 10))],[],[]⟩):=by
            rw [hd,List.any_cons];simp [c8f,hu,hke,c2i]
          refine .inr ?_
          rw [e]
          refine ⟨?_,by simp⟩
          simp -implicitDefEqProofs (disch:=omega) only [Rx,simprocAttr,d9f,k1,k2,k3,hg,hgy,GRow.pv,hk0,hu,hke]
  · have k1:¬ (k:Int)<(i:Int):=by omega
    have e:(l.take i).drop k=[]:=List.drop_eq_nil_of_le (by rw [List.length_take];omega)
    refine .inr ?_
    rw [e,List.any_nil,Bool.and_false]
    have e2:c2i l i false=(.exit 2,⟨[(0,.p (.list (l.map GRow.pv))),(10,.p (.int .i64 l.length)),(11,.p (.int .i64 i))],[],[]⟩):=by simp [c2i]
    rw [e2]
    refine ⟨?_,by simp⟩
    simp -implicitDefEqProofs (disch:=omega) only [Rx,simprocAttr,d9f,k1]
def c7a (r:Int):Ex × St:=if r=0 then (.exit 0,⟨[],[],[]⟩) else (.ret,⟨[(2,.p (.int .i64 r))],[],[]⟩)
theorem h7o {n N m:Nat} (l:List GRow) (hl:Rows.mid m l) (hm:m≤1048577) (hs:b1r l l.length) (hN:m≤N) (hn:1048577≤n) :
    b0t (b0f T (n+37)) N (.loop d5m) ⟨[(0,.p (.list (l.map GRow.pv))),(10,.p (.int .i64 l.length)),(11,.p (.int .i64 ((0:Nat):Int)))],[],[]⟩=some (c7a (b2w l 0 l)):=by
  have hlen:=hl.len
  have:=b1k (C:=b0f T (n+37)) (N:=N) (B:=d5m) (σ := Nat) (S:=fun i=>⟨[(0,.p (.list (l.map GRow.pv))),(10,.p (.int .i64 l.length)),(11,.p (.int .i64 i))],[],[]⟩) (I:=fun i=>i≤l.length∧i≤4096) (μ := fun i=>l.length - i)
    (Φ := fun i=>c7a (b2w l i (l.drop i))) ?_ 0 ⟨by omega,by omega⟩ (by omega)
  · simpa using this
  rintro i ⟨hi,hi4⟩
  by_cases h:i<l.length
  · have k1:(i:Int)<(l.length:Int):=by omega
    obtain ⟨x,hx⟩:=b0m h
    have hg:=b0s (f:=GRow.pv) hx
    have hsm:=hl.row x (List.mem_of_getElem? hx)
    have hd:l.drop i=x::l.drop (i+1):=by rw [List.drop_eq_getElem?_toList_append,hx];rfl
    rw [hd]
    have bad:∀ e:Int,b3n l i x=e→e≠0→c7a (b2w l i (x::l.drop (i+1)))=(.ret,⟨[(2,.p (.int .i64 e))],[],[]⟩):=fun e h1 h2=>by
      simp only [b2w,h1,if_neg h2,c7a]
    by_cases h4:i=4096
    · refine .inr ?_
      rw [bad 12 (by simp [b3n,h4]) (by decide)]
      refine ⟨?_,by simp⟩
      have k2:((i:Int)==4096)=true:=by simp;omega
      simp -implicitDefEqProofs (disch:=omega) only [Rx,simprocAttr,d5m,k1,k2]
    have k2:((i:Int)==4096)=false:=by simp;omega
    have hdep:=h3l (n:=n+36) l (i+1) (hs.mono (by omega)) (by omega) (by omega) [] (by omega)
    simp only [Int.natCast_add,Int.natCast_one] at hdep
    by_cases h64:64<(b3o l (i+1)).length
    · refine .inr ?_
      rw [bad 11 (by simp [b3n,h4,h64]) (by decide)]
      refine ⟨?_,by simp⟩
      have k3:(64:Int)<((b3o l (i+1)).length:Int):=by omega
      simp -implicitDefEqProofs (disch:=omega) only [Rx,simprocAttr,d5m,k1,k2,hdep,k3]
    have k3:¬ (64:Int)<((b3o l (i+1)).length:Int):=by omega
    have hal:=h4g (n:=n) x [] hsm.small [] (by have:=hsm.attrs;omega) (by omega)
    simp only [b1b] at hal
    by_cases ha:b2a x=0
    rotate_left
    · refine .inr ?_
      rw [bad (b2a x) (by simp [b3n,h4,h64,ha]) ha]
      refine ⟨?_,by simp⟩
      have ha':(b2a x==0)=false:=by simpa using ha
      simp -implicitDefEqProofs (disch:=omega) only [Rx,simprocAttr,d5m,k1,k2,hdep,k3,hg,GRow.pv,b0b,hal,ha']
    have hdl:=h7s (n:=n+37) (N:=N) l i x hx (by omega) (by omega)
    simp only [Int.natCast_zero] at hdl
    rw [ha] at hal
    cases hdup:dupB l i x with
    | true =>
      refine .inr ?_
      rw [bad 10 (by simp [b3n,h4,h64,ha,hdup]) (by decide)]
      refine ⟨?_,by simp⟩
      rw [hdup] at hdl
      simp only [c2i,if_true] at hdl
      simp -implicitDefEqProofs (disch:=omega) only [Rx,simprocAttr,d5m,k1,k2,hdep,k3,hg,GRow.pv,b0b,hal,hdl]
    | false =>
      have e:b3n l i x=0:=by simp [b3n,h4,h64,ha,hdup]
      refine .inl ⟨i+1, ?_,⟨by omega,by omega⟩,by omega,by simp only [b2w,e,if_true]⟩
      rw [hdup] at hdl
      simp only [c2i,Bool.false_eq_true,if_false] at hdl
      simp -implicitDefEqProofs (disch:=omega) only [Rx,simprocAttr,d5m,k1,k2,hdep,k3,hg,GRow.pv,b0b,hal,hdl]
  · have k1:¬ (i:Int)<(l.length:Int):=by omega
    have e:l.drop i=[]:=List.drop_eq_nil_of_le (by omega)
    refine .inr ⟨?_,by rw [e];simp [b2w,c7a]⟩
    rw [e]
    simp -implicitDefEqProofs (disch:=omega) only [Rx,simprocAttr,d5m,k1,b2w,c7a]
theorem c3m (l:List GRow) {m n:Nat} (hl:Rows.mid m l) (hm:m≤1048577) (hn:1048577≤n) (g:List AObj):b0f T (n+38) 13 [.p (.list (l.map GRow.pv))] g=some (.p (.int .i64 (b0r l)),g):=by
  rw [b0a T13,run_pure rfl rfl rfl]
  have hlen:=hl.len
  have hf:=g6s (n:=n+35) l (by omega) [] (by omega)
  cases hb:b4h l with
  | false =>
    rw [hb] at hf
    have e:b0r l=2:=by simp [b0r,hb]
    rw [e]
    simp -implicitDefEqProofs (disch:=omega) only [Rx,simprocAttr,F13,hf]
  | true =>
    rw [hb] at hf
    have hloop:=h7o (n:=n) (N:=n+37) (m:=m) l hl hm (b9q hb) (by omega) hn
    simp only [Int.natCast_zero] at hloop
    have e:b0r l=b2w l 0 l:=by simp [b0r,hb]
    rw [e]
    by_cases h0:b2w l 0 l=0
    · rw [h0] at hloop ⊢
      simp only [c7a,if_true] at hloop
      simp -implicitDefEqProofs (disch:=omega) only [Rx,simprocAttr,F13,hf,hloop]
    · simp only [c7a,if_neg h0] at hloop
      simp -implicitDefEqProofs (disch:=omega) only [Rx,simprocAttr,F13,hf,hloop]
theorem g1x (l:List GRow) {m n:Nat} (hl:Rows.small m l) (hm:m≤1048577) (hn:1048577≤n) (g:List AObj):b0f T (n+38) 13 [.p (.list (l.map GRow.pv))] g=some (.p (.int .i64 (b0r l)),g):=c3m l hl.mid hm hn g
end Go.TA.Tryz


end
section
/- The program's look at the tree of rows that are right. -/
namespace Go.TA.Tryz
def h8m (l:List GRow):Prop:=∀ (i:Nat) x,l[i]? = some x→b3n l i x=0
theorem g7f {l:List GRow}:∀ {i:Nat},b2w l i (l.drop i)=0→∀ (j:Nat) x,i≤j→l[j]? = some x→b3n l j x=0:=by
  intro i h j x hij hj
  obtain ⟨d,rfl⟩:∃ d,j=i+d:=⟨j - i,by omega⟩
  induction d generalizing i with
  | zero =>
    have e:l.drop i=x::l.drop (i+1):=by rw [List.drop_eq_getElem?_toList_append];simp at hj;rw [hj];rfl
    rw [e] at h
    simp only [b2w] at h
    by_cases h0:b3n l i x=0
    · simpa using h0
    · rw [if_neg h0] at h;exact absurd h h0
  | succ d ih =>
    have hlt:i<l.length:=by
      have:=(List.getElem?_eq_some_iff.1 hj).1
      omega
    obtain ⟨y,hy⟩:=b0m hlt
    have e:l.drop i=y::l.drop (i+1):=by rw [List.drop_eq_getElem?_toList_append,hy];rfl
    rw [e] at h
    simp only [b2w] at h
    have h0:b3n l i y=0:=by
      by_cases h0:b3n l i y=0
      · exact h0
      · rw [if_neg h0] at h;exact absurd h h0
    rw [if_pos h0] at h
    have:=ih h (by omega) (by rw [← hj];congr 1;omega)
    rw [show i+(d+1)=i+1+d by omega]
    exact this
theorem b5s {l:List GRow} (h:b0r l=0):b4h l=true∧h8m l:=by
 unfold b0r at h
 split at h
 ·rename_i hf
  exact ⟨hf,fun i x hx=>g7f (i:=0) (by simpa using h) i x (by omega) hx⟩
 ·omega
theorem h0f {l : List GRow} {i : Nat} {x : GRow} (h : b3n l i x = 0) : i ≠ 4096 ∧ (b3o l (i + 1)).length ≤ 64 ∧ b2a x = 0 ∧ dupB l i x = false := by
  unfold b3n at h
  split at h
  · omega
  · rename_i h1
    split at h
    · omega
    · rename_i h2
      split at h
      · rename_i h3
        split at h
        · omega
        · rename_i h4
          exact ⟨h1,by omega,h3,by simpa using h4⟩
      · rename_i h3
        exact absurd h h3
def KOk (l:List GRow) (u:Int) (b:Nat) (es:List (PV × AV)):Prop:=∀ e ∈ es,∃ k:Bs,e.1 = .str k∧k≠[]∧∃ (j:Nat) (y:GRow),j<b∧l[j]? = some y∧y.up=u∧y.key=k
theorem KOk.mono {l:List GRow} {u:Int} {b b':Nat} {es:List (PV × AV)} (h:KOk l u b es) (hb:b≤b'):KOk l u b' es:=fun e he=>by
 obtain ⟨k,h1,h2,j,y,h3,h4⟩:=h e he
 exact ⟨k,h1,h2,j,y,by omega,h4⟩
theorem KOk.strs {l:List GRow} {u:Int} {b:Nat} {es:List (PV × AV)} (h:KOk l u b es) (k:Bs):(es.all fun e=>(b0x 2 e.1 (.str k)).isSome)=true:=by
 rw [List.all_eq_true]
 intro e he
 obtain ⟨k',h1,_⟩:=h e he
 rw [h1];rfl
theorem KOk.none {l:List GRow} {x:GRow} {b:Nat} {es:List (PV × AV)} (h:KOk l x.up b es) (hd:dupB l b x=false):mlk 2 es (.str x.key)=none:=by
  have key:∀ e ∈ es,b0x 2 e.1 (.str x.key)≠some true:=by
    intro e he hc
    obtain ⟨k,h1,h2,j,y,h3,h4,h5,h6⟩:=h e he
    rw [h1] at hc
    have hk:k=x.key:=by simpa [b0x] using hc
    have:dupB l b x=true:=by
      simp only [dupB,Bool.and_eq_true,Bool.not_eq_true',List.any_eq_true]
      refine ⟨by rw [← hk];simpa using h2,y, ?_,by simp [c8f,h5,h6,hk]⟩
      rw [List.mem_iff_getElem?]
      exact ⟨j,by rw [List.getElem?_take,if_pos h3];exact h4⟩
    rw [this] at hd
    cases hd
  induction es with
  | nil=>rfl
  | cons e es ih =>
    obtain ⟨a,v⟩:=e
    simp only [mlk]
    rw [if_neg (key (a,v) (by simp))]
    exact ih (fun e he=>h e (by simp [he])) (fun e he=>key e (by simp [he]))
theorem d7d {es:List (PV × AV)} {k:PV} {v:AV} (h:mlk 2 es k=none):mput 2 es k v=es++[(k,v)]:=by
  induction es with
  | nil=>rfl
  | cons e es ih =>
    obtain ⟨a,w⟩:=e
    simp only [mlk,mput] at h ⊢
    by_cases hc:b0x 2 a k=some true
    · rw [if_pos hc] at h;cases h
    · rw [if_neg hc] at h
      rw [if_neg hc,ih h];rfl
theorem KOk.more {l:List GRow} {x:GRow} {b:Nat} {es:List (PV × AV)} (h:KOk l x.up b es) (hx:l[b]? = some x) (hk:x.key≠[]) (v:AV):KOk l x.up (b+1) (es++[(.str x.key,v)]):=by
 intro e he
 rcases List.mem_append.1 he with he | he
 ·exact (h.mono (by omega)) e he
 ·simp only [List.mem_singleton] at he
  subst he
  exact ⟨x.key,rfl,hk,b,x,by omega,hx,rfl,rfl⟩
def LK (m:Nat) (deep:Int):AObj:=.pcells 3 [[.int .i64 m,.int .i64 deep,.int .i64 0]]
def VK:AObj:=.cells 1 [[.func 129 [.ptr true 0 3 1 0 0,.ptr true 1 1 1 0 0]]]
def pL:AV:=.ptr true 0 3 1 0 0
def pV:AV:=.ptr true 1 1 1 0 0
def Seen (l:List GRow) (u:Int) (b:Nat) (j:Nat) (ms:List AObj) (r:AV × List AObj):Prop :=
 ∃ deep ms' es,r=(.p (.bool true),LK b deep::VK::ms')∧ms.length≤ms'.length∧ms'[j]? = some (.map es)∧KOk l u b es∧∀ j',j'<ms.length→j'≠j→ms'[j']? = ms[j']?
def visS (d:Int) (ks:List (List PV)) (jb i m:Nat) (deep:Int) (ms:List AObj):St:=⟨[(1,.p (.int .i64 d)),(4,.ptr true 1 1 1 0 0),(11,.map true (jb+1+1)),(61,.p (.list ks)),(62,.p (.int .i64 ks.length)),(63,.p (.int .i64 i))],[],LK m deep::VK::ms⟩
end Go.TA.Tryz


end
section
/- The program's look at the tree of any rows that stand as a tree's do: what is wrong first. -/
namespace Go.TA.Tryz
theorem c5a {l:List GRow} (hs:b1r l l.length):∀ (d x:Nat),x≤d→x≤l.length→(b3o l x).length≤x
  | 0, x, h, _ => by
    obtain rfl:x=0:=by omega
    simp [b4x]
  | d + 1, x, h, hx => by
    cases x with
    | zero=>simp [b4x]
    | succ x =>
      have hlt:x<l.length:=by omega
      have hu:=b5w hs hlt hlt
      rw [b3l hs (Nat.le_refl _) hlt,List.length_cons]
      have:=c5a hs d (upAt l (x+1)) (by omega) (by omega)
      omega
def errR (l:List GRow) (a b:Nat):Int:=b2w l a ((l.take b).drop a)
theorem d7z (l:List GRow) (a:Nat):errR l a a=0:=by
 have:(l.take a).drop a=[]:=List.drop_eq_nil_of_le (by rw [List.length_take];omega)
 rw [errR,this];rfl
theorem b9e {l:List GRow} {a b:Nat} {x:GRow} (hx:l[a]? = some x) (hab:a<b):errR l a b=if b3n l a x=0 then errR l (a+1) b else b3n l a x:=by
 have h1:(l.take b)[a]? = some x:=by rw [List.getElem?_take,if_pos hab];exact hx
 have:(l.take b).drop a=x::(l.take b).drop (a+1):=by rw [List.drop_eq_getElem?_toList_append,h1];rfl
 rw [errR,this];rfl
theorem b9d {l:List GRow}:∀ (d:Nat) {a m b:Nat},m=a+d→m≤b→b≤l.length→errR l a b=if errR l a m=0 then errR l m b else errR l a m
  | 0, a, m, b, hm, hb, hl => by
    obtain rfl:m=a:=by omega
    rw [d7z,if_pos rfl]
  | d + 1, a, m, b, hm, hb, hl => by
    obtain ⟨x,hx⟩:=b0m (show a<l.length by omega)
    rw [b9e hx (show a<b by omega),b9e hx (show a<m by omega)]
    by_cases h:b3n l a x=0
    · rw [if_pos h,if_pos h]
      exact b9d d (by omega) hb hl
    · rw [if_neg h,if_neg h,if_neg h]
theorem g4c {l:List GRow}:errR l 0 l.length=b2w l 0 l:=by rw [errR,List.take_length,List.drop_zero]
mutual
theorem BT.inner {l:List GRow} {a b:Nat} {p:List PV}:BT l a b p→∀ (j:Nat) y,a<j→j<b→l[j]? = some y→(a:Int)+1≤y.up
 | .mk hx h=>BTs.inner h (List.getElem?_eq_some_iff.1 hx).1
theorem BTs.inner {l : List GRow} {a b : Nat} {ks : List (List PV)} : BTs l a b ks → a < l.length → ∀ (j : Nat) y, a < j → j < b → l[j]? = some y → (a : Int) + 1 ≤ y.up
  | .nil,ha=>fun j y h1 h2=>by omega
  | .snoc (m := m) h hy hu h2, ha => fun j y h1 h3 hj => by
    have hm:=(BTs.lt h ha).1
    by_cases e:j<m
    · exact BTs.inner h ha j y h1 e hj
    · by_cases e2:j=m
      · subst e2
        rw [hy] at hj
        cases hj
        omega
      · have:=BT.inner h2 j y (by omega) h3 hj
        omega
end
structure KAll (l:List GRow) (u:Int) (b:Nat) (es:List (PV × AV)):Prop where
 ok:KOk l u b es
 vals:∀ e ∈ es,e.2 = .p (.agg [])
 all:∀ (j:Nat) (y:GRow),j<b→l[j]? = some y→y.up=u→y.key≠[]→∃ v,(PV.str y.key,v) ∈ es
theorem KAll.get {l:List GRow} {u:Int} {b:Nat} {es:List (PV × AV)} (h:KAll l u b es) (k:PV):(mlk 2 es k).getD (.p (.agg [])) = .p (.agg []):=by
  have hv:=h.vals
  clear h
  induction es with
  | nil=>rfl
  | cons e es ih =>
    obtain ⟨a,v⟩:=e
    simp only [mlk]
    split
    · simpa using hv (a,v) (by simp)
    · exact ih (fun e he=>hv e (by simp [he]))
theorem j0s {es : List (PV × AV)} {k : Bs} {v : AV} (hs : ∀ e ∈ es, ∃ s, e.1 = PV.str s) (h : (PV.str k, v) ∈ es) : (mlk 2 es (.str k)).isSome = true := by
  induction es with
  | nil=>simp at h
  | cons e es ih =>
    obtain ⟨a,w⟩:=e
    simp only [mlk]
    split
    · rfl
    · rename_i hne
      rcases List.mem_cons.1 h with h1 | h1
      · cases h1
        exact absurd (by simp [b0x]) hne
      · exact ih (fun e he=>hs e (by simp [he])) h1
theorem KAll.dup {l:List GRow} {x:GRow} {b:Nat} {es:List (PV × AV)} (h:KAll l x.up b es) (hd:dupB l b x=true):(mlk 2 es (.str x.key)).isSome=true:=by
 simp only [dupB,Bool.and_eq_true,Bool.not_eq_true',List.any_eq_true] at hd
 obtain ⟨hk,y,hy,ht⟩:=hd
 simp only [c8f,Bool.and_eq_true,beq_iff_eq] at ht
 obtain ⟨j,hj⟩:=List.mem_iff_getElem?.1 hy
 rw [List.getElem?_take] at hj
 split at hj
 ·rename_i hjb
  obtain ⟨v,hv⟩:=h.all j y hjb hj ht.1 (by rw [ht.2];simpa using hk)
  rw [ht.2] at hv
  exact j0s (fun e he=>by obtain ⟨k,h1,_⟩:=h.ok e he;exact ⟨k,h1⟩) hv
 ·cases hj
theorem KAll.same {l:List GRow} {u:Int} {b b':Nat} {es:List (PV × AV)} (h:KAll l u b es) (hb:b≤b') (hn:∀ (j:Nat) (y:GRow),b≤j→j<b'→l[j]? = some y→y.up≠u):KAll l u b' es where
 ok:=h.ok.mono hb
 vals:=h.vals
 all j y hj hy hu hk:=by
  by_cases e:j<b
  ·exact h.all j y e hy hu hk
  ·exact absurd hu (hn j y (by omega) hj hy)
theorem KAll.met {l : List GRow} {x : GRow} {b : Nat} {es : List (PV × AV)} (h : KAll l x.up b es) (hx : l[b]? = some x) : KAll l x.up (b + 1) (if x.key = [] then es else es ++ [(.str x.key, .p (.agg []))]) := by
  split
  · rename_i hk
    refine ⟨h.ok.mono (by omega),h.vals,fun j y hj hy hu hk2 => ?_⟩
    by_cases e:j<b
    · exact h.all j y e hy hu hk2
    · obtain rfl:j=b:=by omega
      rw [hx] at hy
      cases hy
      exact absurd hk hk2
  · rename_i hk
    refine ⟨h.ok.more hx hk _,fun e he => ?_,fun j y hj hy hu hk2 => ?_⟩
    · rcases List.mem_append.1 he with h1 | h1
      · exact h.vals e h1
      · simp only [List.mem_singleton] at h1
        subst h1;rfl
    · by_cases e:j<b
      · obtain ⟨v,hv⟩:=h.all j y e hy hu hk2
        exact ⟨v,List.mem_append.2 (.inl hv)⟩
      · obtain rfl:j=b:=by omega
        rw [hx] at hy
        cases hy
        exact ⟨.p (.agg []),List.mem_append.2 (.inr (by simp))⟩
def LKE (m deep e:Int):AObj:=.pcells 3 [[.int .i64 m,.int .i64 deep,.int .i64 e]]
def h8r (l:List GRow) (u:Int) (a b:Nat) (j:Nat) (ms:List AObj) (r:AV × List AObj):Prop :=
 (errR l a b=0∧∃ deep ms' es,r=(.p (.bool true),LK b deep::VK::ms')∧ms.length≤ms'.length∧ms'[j]? = some (.map es)∧KAll l u b es∧∀ j',j'<ms.length→j'≠j→ms'[j']? = ms[j']?)
 ∨ (errR l a b≠0∧∃ m deep ms',r=(.p (.bool false),LKE m deep (errR l a b)::VK::ms'))
theorem g9a {n N:Nat} (l:List GRow) (a b:Nat) (d:Int) (ks:List (List PV)) (hbt:BTs l a b ks) (hl:l.length≤1048576) (hs:b1r l l.length) (ha:a<l.length) (hd : -1000000≤d∧d≤1000000) (hN:ks.length<N) (ms0:List AObj) (deep0:Int)
    (ih:∀ m m' k es j deep ms,BT l m m' k→(∃ y,l[m]? = some y∧y.up=(a:Int)+1)→a<m→m'≤b→ms[j]? = some (.map es)→KAll l ((a:Int)+1) m es →
      ∃ r,b0f T n 129 [.p (.agg k),.p (.int .i64 (d+1)),.map true (j+1+1),pL,pV] (LK m deep::VK::ms)=some r∧h8r l ((a:Int)+1) m m' j ms r) :
    ∃ r, b0t (b0f T n) N (.loop d9g) (visS d ks ms0.length 0 (a + 1) deep0 (ms0 ++ [.map []])) = some r ∧ ((errR l (a + 1) b = 0 ∧ ∃ deep ms', r = (.exit 1, ⟨[], [], LK b deep :: VK :: ms'⟩) ∧ ms0.length ≤ ms'.length ∧ ∀ j', j' < ms0.length → ms'[j']? = ms0[j']?)
      ∨ (errR l (a+1) b≠0∧∃ m deep ms',r=(.ret,⟨[(8,.p (.bool false))],[],LKE m deep (errR l (a+1) b)::VK::ms'⟩))):=by
  have hbl:=hbt.lt ha
  refine b1i (σ := Nat × Nat × Int × List AObj) (S:=fun s=>visS d ks ms0.length s.1 s.2.1 s.2.2.1 s.2.2.2)
    (I:=fun s=>s.1≤ks.length∧BTs l a s.2.1 (ks.take s.1)∧ms0.length<s.2.2.2.length∧(∀ j',j'<ms0.length→s.2.2.2[j']? = ms0[j']?)∧errR l (a+1) s.2.1=0∧∃ es,s.2.2.2[ms0.length]? = some (.map es)∧KAll l ((a:Int)+1) s.2.1 es) (μ := fun s=>ks.length - s.1)
    (Q:=fun r=>(errR l (a+1) b=0∧∃ deep ms',r=(.exit 1,⟨[],[],LK b deep::VK::ms'⟩)∧ms0.length≤ms'.length∧∀ j',j'<ms0.length→ms'[j']? = ms0[j']?)
      ∨ (errR l (a+1) b≠0∧∃ m deep ms',r=(.ret,⟨[(8,.p (.bool false))],[],LKE m deep (errR l (a+1) b)::VK::ms'⟩))) ?_ (0,a+1,deep0,ms0++[.map []]) ⟨by omega,by simpa using BTs.nil,by simp,fun j' hj=>by simp [List.getElem?_append_left hj],d7z l (a+1),[],by simp,⟨fun e he=>by simp at he,fun e he=>by simp at he,fun j y hj hy hu _=>by
      have:=hs j y (List.getElem?_eq_some_iff.1 hy).1 hy
      have hj:j<a+1:=hj
      omega⟩⟩ (by simp only;omega)
  rintro ⟨i,m,deep,ms⟩ ⟨h1,h2,h3,h4,h7,es,h5,h6⟩
  simp only at h1 h2 h3 h4 h5 h6 h7 ⊢
  by_cases hi:i<ks.length
  · obtain ⟨k,hk⟩:=b0m hi
    obtain ⟨q,q',y,p1,p2,p3,p4,p5,hle⟩:=hbt.at i k hk
    have hq:q=m:=p1.uniq h2 rfl
    subst hq
    have hlt:=(BTs.lt h2 ha)
    have hlt4:=p4.lt
    obtain ⟨r,hr,hse⟩:=ih q q' k es ms0.length deep ms p4 ⟨y,p2,p3⟩ (by omega) hle h5 h6
    have hg:ks.getD i []=k:=by rw [List.getD_eq_getElem?_getD,hk];rfl
    have hkl:=p4.len
    obtain ⟨c1,c2,c3,c4,c5,rfl⟩:∃ c1 c2 c3 c4 c5,k=[c1,c2,c3,c4,c5]:=by
      match k,hkl with
      | [c1,c2,c3,c4,c5],_=>exact ⟨c1,c2,c3,c4,c5,rfl⟩
    have k1:(i:Int)<(ks.length:Int):=by omega
    have k9:(i:Int)≤1048576:=by omega
    have hsp:=b9d (l:=l) (q' - (a+1)) (a:=a+1) (m:=q') (b:=b) (by omega) hle (by omega)
    have hsq:=b9d (l:=l) (q - (a+1)) (a:=a+1) (m:=q) (b:=q') (by omega) (by omega) (by omega)
    rw [h7,if_pos rfl] at hsq
    rcases hse with ⟨he0,deep',ms',es',rfl,s1,s2,s3,s4⟩ | ⟨he0,m',deep',ms',rfl⟩
    · left
      refine ⟨(i+1,q',deep',ms'), ?_,⟨by omega,p5,by simp only;omega,fun j' hj=>by simp only;rw [s4 j' (by omega) (by omega)];exact h4 j' hj,by simp only;rw [hsq];exact he0,es',s2,s3⟩,by simp only;omega⟩
      simp only [LK,VK,pL,pV] at hr
      simp only [visS,LK,VK]
      simp -implicitDefEqProofs (disch:=omega) only [Rx,simprocAttr,d9g,k1,hg,hr]
    · right
      have hne:errR l (a+1) q'≠0:=by rw [hsq];exact he0
      have hb:errR l (a+1) b=errR l q q':=by rw [hsp,if_neg hne,hsq]
      refine ⟨(.ret,⟨[(8,.p (.bool false))],[],LKE m' deep' (errR l q q')::VK::ms'⟩), ?_,by simp,.inr ⟨by rw [hb];exact he0,m',deep',ms',by rw [hb]⟩⟩
      generalize errR l q q'=e at hr
      simp only [LK,LKE,VK,pL,pV] at hr ⊢
      simp only [visS,LK,VK]
      simp -implicitDefEqProofs (disch:=omega) only [Rx,simprocAttr,d9g,k1,hg,hr]
  · right
    obtain rfl:i=ks.length:=by omega
    rw [List.take_length] at h2
    have hm:m=b:=h2.uniq hbt rfl
    subst hm
    have k1:¬ (ks.length:Int)<(ks.length:Int):=by omega
    refine ⟨(.exit 1,⟨[],[],LK m deep::VK::ms⟩), ?_,by simp,.inl ⟨h7,deep,ms,rfl,by omega,h4⟩⟩
    simp only [visS,LK,VK]
    simp -implicitDefEqProofs (disch:=omega) only [Rx,simprocAttr,d9g,k1]
theorem h5i (l : List GRow) (hl : l.length ≤ 1048576) (hs : b1r l l.length) (hal : ∀ x ∈ l, x.attrs.length ≤ 1048577) : ∀ (D n a b : Nat) (p : List PV) (x : GRow) (es : List (PV × AV)) (j : Nat) (deep : Int) (ms : List AObj), b - a ≤ D → 1048577 < n → BT l a b p → l[a]? = some x → ms[j]? = some (.map es) → KAll l x.up a es →
    ∃ r,b0f T (n+D+39) 129 [.p (.agg p),.p (.int .i64 (b3o l (a+1)).length),.map true (j+1+1),pL,pV] (LK a deep::VK::ms)=some r∧h8r l x.up a b j ms r:=by
  intro D
  induction D with
  | zero =>
    intro n a b p x es j deep ms hD hn hbt
    have:=hbt.lt
    omega
  | succ D ih =>
    intro n a b p x es j deep ms hD hn hbt hx hj hes
    have hlt:=hbt.lt
    have hinner:=hbt.inner
    cases hbt with
    | mk hx' hks=>
    rename_i x' ks
    rw [hx] at hx'
    cases hx'
    have ha:a<l.length:=by omega
    have hec:=b9e hx (show a<b by omega)
    have hgd:=hes.get (.str x.key)
    have hst:=hes.ok.strs x.key
    have hw:=g8y (n:=n+D+1) x ks [] (by have:=hal x (List.mem_of_getElem? hx);omega)
    rw [show n+D+1+38=n+D+39 by omega] at hw
    simp only [b1b] at hw
    have hjl:j<ms.length:=(List.getElem?_eq_some_iff.1 hj).1
    have hcl:(b3o l (a+1)).length≤1048576:=by
      have:=c5a hs (a+1) (a+1) (Nat.le_refl _) (show a+1≤l.length by omega)
      omega
    rw [show n+(D+1)+39=n+D+39+1 by omega,b0a T129,b0g rfl rfl]
    generalize hcn:(b3o l (a+1)).length=cn at hcl
    by_cases hre:b3n l a x=0
    rotate_left
    · rw [if_neg hre] at hec
      refine ⟨(.p (.bool false),LKE a (if (cn:Int) > deep then (cn:Int) else deep) (errR l a b)::VK::ms), ?_,.inr ⟨by rw [hec];exact hre,_,_,_,rfl⟩⟩
      rw [hec]
      unfold b3n at hre ⊢
      rw [hcn] at hre ⊢
      generalize hlk:mlk 2 es (.str x.key)=lk2 at hgd
      by_cases h1:a=4096
      · rw [if_pos h1]
        have k1:((a:Int)==4096)=true:=by simp;omega
        simp only [b1b,LK,LKE,VK,pL,pV]
        simp -implicitDefEqProofs (disch:=omega) only [Rx,simprocAttr,F129,k1,hlk,hgd,hst,hj]
      rw [if_neg h1] at hre ⊢
      have k1:((a:Int)==4096)=false:=by simp;omega
      by_cases h2:64<cn
      · rw [if_pos h2]
        have k2:(64:Int)<(cn:Int):=by omega
        simp only [b1b,LK,LKE,VK,pL,pV]
        simp -implicitDefEqProofs (disch:=omega) only [Rx,simprocAttr,F129,k1,k2,hlk,hgd,hst,hj]
      rw [if_neg h2] at hre ⊢
      have k2:¬ (64:Int)<(cn:Int):=by omega
      by_cases h3:b2a x=0
      rotate_left
      · rw [if_neg h3]
        have k3:(b2a x==0)=false:=by simpa using h3
        generalize b2a x=e at hw k3
        simp only [b1b,LK,LKE,VK,pL,pV]
        simp -implicitDefEqProofs (disch:=omega) only [Rx,simprocAttr,F129,k1,k2,k3,hw,hlk,hgd,hst,hj]
      rw [if_pos h3] at hre ⊢
      rw [h3] at hw
      have h4:dupB l a x=true:=by
        by_cases h4:dupB l a x=true
        · exact h4
        · rw [if_neg h4] at hre;exact absurd rfl hre
      rw [if_pos h4]
      have hsm:=hes.dup h4
      rw [hlk] at hsm
      simp only [b1b,LK,LKE,VK,pL,pV]
      simp -implicitDefEqProofs (disch:=omega) only [Rx,simprocAttr,F129,k1,k2,hw,hlk,hgd,hsm,hst,hj]
    rw [if_pos hre] at hec
    obtain ⟨h1,h2,h3,h4⟩:=h0f hre
    rw [hcn] at h2
    rw [h3] at hw
    have hlk:=hes.ok.none h4
    have k1:((a:Int)==4096)=false:=by simp;omega
    have k2:¬ (64:Int)<(cn:Int):=by omega
    have hes1:=hes.met hx
    have hcx:∀ m y,l[m]? = some y→y.up=(a:Int)+1→a<m→(b3o l (m+1)).length=cn+1:=by
      intro m y hy hu ham
      have hm:m<l.length:=(List.getElem?_eq_some_iff.1 hy).1
      rw [b3l hs (Nat.le_refl _) hm]
      have:upAt l (m+1)=a+1:=by simp [upAt,hy,hu]
      rw [this,List.length_cons,hcn]
    have hks':=hks.lt ha
    have hup:=hs a x ha hx
    generalize he1:(if x.key=[] then es else es++[(PV.str x.key,AV.p (.agg []))])=es1 at hes1
    obtain ⟨r,hr,hres⟩:=g9a (n:=n+D+39) (N:=n+D+39) l a b cn ks hks hl hs ha (by omega) (by omega) (ms.set j (.map es1)) (if (cn:Int) > deep then (cn:Int) else deep) (fun m m' k es' j' deep' ms' hb1 hy ham hmb hj' hes'=>by
      obtain ⟨y,hy,hu⟩:=hy
      have:=hb1.lt
      have hc:=hcx m y hy hu ham
      have:=ih n m m' k y es' j' deep' ms' (by omega) hn hb1 hy hj' (by rw [hu];exact hes')
      rw [hc,hu] at this
      push_cast at this
      exact this)
    have fin:∀ r',b0f T (n+D+39+1) 129 [.p (.agg (b1b x ks)),.p (.int .i64 cn),.map true (j+1+1),pL,pV] (LK a deep::VK::ms)=some r'→h8r l x.up a b j ms r'→∃ r,br (b0f T (n+D+39)) F129 (b0t (b0f T (n+D+39)) (n+D+39) F129.body (b4b [.p (.agg (b1b x ks)),.p (.int .i64 cn),.map true (j+1+1),pL,pV] (LK a deep::VK::ms)))=some r∧h8r l x.up a b j ms r:=fun r' h1 h2=>by
      rw [b0a T129,b0g rfl rfl] at h1
      exact ⟨r',h1,h2⟩
    have hset:x.key=[]→ms.set j (.map es1)=ms:=fun hk=>by
      rw [if_pos hk] at he1
      subst he1
      apply List.ext_getElem?
      intro q
      rw [List.getElem?_set]
      split
      · rename_i e;subst e;exact hj.symm
      · rfl
    simp only [visS,LK,VK,Int.natCast_add,Int.natCast_one,Int.natCast_zero] at hr
    rcases hres with ⟨he0,deep',ms',rfl,hml,hsame⟩ | ⟨he0,m',deep',ms',rfl⟩
    · refine fin (.p (.bool true),LK b deep'::VK::ms') ?_ (.inl ⟨by rw [hec];exact he0,deep',ms',es1,rfl,by simpa using hml, ?_, ?_,fun j' hj' hne => ?_⟩)
      rotate_left
      · rw [hsame j (by simpa using hjl),List.getElem?_set,if_pos rfl,if_pos hjl]
      · refine hes1.same (by omega) fun q y hq1 hq2 hy hu => ?_
        have:=hinner q y (by omega) hq2 hy
        omega
      · rw [hsame j' (by simpa using hj'),List.getElem?_set,if_neg (fun e=>hne e.symm)]
      rw [b0a T129,b0g rfl rfl]
      simp only [b1b,LK,VK,pL,pV] at hr ⊢
      by_cases hk:x.key=[]
      · rw [hset hk] at hr
        rw [hk] at hw hlk hst
        simp -implicitDefEqProofs (disch:=omega) only [Rx,simprocAttr,F129,hk,k1,k2,hw,hlk,hst,hj,hr,Option.getD_none,Option.isSome_none]
      · have hk':(x.key==[])=false:=by simpa using hk
        rw [if_neg hk] at he1
        subst he1
        have hmp:=d7d (v:=.p (.agg [])) hlk
        simp -implicitDefEqProofs (disch:=omega) only [Rx,simprocAttr,F129,hk',k1,k2,hw,hlk,hst,hmp,hj,hr,Option.getD_none,Option.isSome_none,Option.isSome_some]
    · refine fin (.p (.bool false),LKE m' deep' (errR l (a+1) b)::VK::ms') ?_ (.inr ⟨by rw [hec];exact he0,m',deep',ms',by rw [hec]⟩)
      rw [b0a T129,b0g rfl rfl]
      generalize errR l (a+1) b=e at hr
      simp only [b1b,LK,LKE,VK,pL,pV] at hr ⊢
      by_cases hk:x.key=[]
      · rw [hset hk] at hr
        rw [hk] at hw hlk hst
        simp -implicitDefEqProofs (disch:=omega) only [Rx,simprocAttr,F129,hk,k1,k2,hw,hlk,hst,hj,hr,Option.getD_none,Option.isSome_none]
      · have hk':(x.key==[])=false:=by simpa using hk
        rw [if_neg hk] at he1
        subst he1
        have hmp:=d7d (v:=.p (.agg [])) hlk
        simp -implicitDefEqProofs (disch:=omega) only [Rx,simprocAttr,F129,hk',k1,k2,hw,hlk,hst,hmp,hj,hr,Option.getD_none,Option.isSome_none,Option.isSome_some]
end Go.TA.Tryz


end
section
/- The tree of rows, as the program builds it, and where it ends. -/
namespace Go.TA.Tryz
def h3z (l:List GRow) (a:Nat) (x:GRow) (r:Ex × St):Prop:=∃ nx ks,BTs l a nx ks∧nx=b2l l (a+1)∧r=(.exit 0,⟨[(4,.ptr false 4 5 1 0 0),(7,.ptr false 7 5 1 0 0),(8,.p (.int .i64 nx))],c5c x ks,g1b ks⟩)
theorem g2a {n N : Nat} (l : List GRow) (hl : l.length ≤ 1048576) (hs : b5x l) (a : Nat) (x : GRow) (hx : l[a]? = some x) (hN : l.length - a < N)
    (ih:∀ m,a<m→m<l.length→∃ b p,BT l m b p∧b=b2l l (m+1)∧∀ g,b0f T n 97 [.p (.list (l.map GRow.pv)),.p (.int .i64 m)] g=some (.tuple [.p (.agg p),.p (.int .i64 b)],g)) :
    ∃ r,b0t (b0f T n) N (.loop g8o) (c7e l a x (a+1) [])=some r∧h3z l a x r:=by
  have ha:a<l.length:=(List.getElem?_eq_some_iff.1 hx).1
  refine b1i (σ := Nat × List (List PV)) (S:=fun s=>c7e l a x s.1 s.2) (I:=fun s=>BTs l a s.1 s.2∧s.1≤b2l l (a+1)∧(s.1=a+1∨∃ m,a+1≤m∧m<s.1∧s.1=b2l l (m+1)∧upAt l (m+1)=a+1)) (μ := fun s=>l.length - s.1) (Q:=h3z l a x) ?_ (a+1,[]) ⟨.nil,(b4k (by omega)).1,.inl rfl⟩ (by simp only;omega)
  rintro ⟨nx,ks⟩ ⟨hI,hle,hcl⟩
  simp only at hI hle hcl ⊢
  have hel:=(b4k (l:=l) (h:=a+1) (by omega)).2
  have hlt:=hI.lt ha
  by_cases h:nx<l.length
  · obtain ⟨y,hy⟩:=b0m h
    have hg:=b0s (f:=GRow.pv) hy
    have k1:(nx:Int)<(l.length:Int):=by omega
    cases hu:(y.up==(a:Int)+1) with
    | true =>
      obtain ⟨b,p,hbt,hbe,hrun⟩:=ih nx (by omega) h
      have hr:=hrun []
      have hp:=hbt.len
      have hb:=hbt.lt
      have hu':y.up=(a:Int)+1:=by simpa using hu
      left
      refine ⟨(b,ks++[p]), ?_,⟨.snoc hI hy hu' hbt, ?_,.inr ⟨nx,by omega,by simp only;omega,hbe,by simp [upAt,hy,hu']⟩⟩,by simp only;omega⟩
      rotate_left
      · simp only
        rw [hbe]
        refine g4e (by omega) ?_ (by omega)
        rcases Nat.lt_or_ge nx (b2l l (a+1)) with h5 | h5
        · exact h5
        · have h6:nx=b2l l (a+1):=by omega
          have:=b9t (l:=l) (h:=a+1) (x:=y) (by omega) (by rw [← h6];exact hy)
          omega
      obtain ⟨c1,c2,c3,c4,c5,rfl⟩:∃ c1 c2 c3 c4 c5,p=[c1,c2,c3,c4,c5]:=by
        match p,hp with
        | [c1,c2,c3,c4,c5],_=>exact ⟨c1,c2,c3,c4,c5,rfl⟩
      cases ks with
      | nil =>
        simp only [c7e,c5c,g1c,g1b,List.nil_append]
        simp -implicitDefEqProofs (disch:=omega) only [Rx,simprocAttr,g8o,k1,hg,GRow.pv,hu,hr]
      | cons k0 ks0 =>
        have hkl:(k0::ks0).length+1≤1048576:=by omega
        simp only [c7e,c5c,g1c,g1b,List.cons_append,List.length_cons,List.length_append,List.length_nil] at hkl ⊢
        simp -implicitDefEqProofs (disch:=omega) only [Rx,simprocAttr,g8o,k1,hg,GRow.pv,hu,hr,List.length_append]
    | false =>
      right
      have hu':¬ y.up=(a:Int)+1:=by simpa using hu
      refine ⟨_, ?_, ?_,nx,ks,hI, ?_,rfl⟩
      rotate_right
      · rcases Nat.lt_or_ge nx (b2l l (a+1)) with h5 | h5
        · obtain ⟨z,hz,hzu⟩:=g3q hs (h:=a+1) (cur:=nx) (by omega) h5 hcl (by omega)
          rw [hy] at hz
          cases hz
          exact absurd (by omega) hu'
        · omega
      · simp only [c7e,c5c]
        simp -implicitDefEqProofs (disch:=omega) only [Rx,simprocAttr,g8o,k1,hg,GRow.pv,hu,h2h]
      · simp
  · right
    have k1:¬ (nx:Int)<(l.length:Int):=by omega
    refine ⟨_, ?_, ?_,nx,ks,hI, ?_,rfl⟩
    · simp only [c7e,c5c]
      simp -implicitDefEqProofs (disch:=omega) only [Rx,simprocAttr,g8o,k1,h2h]
    · simp
    · omega
theorem g7y (l:List GRow) (hl:l.length≤1048576) (hs:b5x l) (hal:∀ x ∈ l,x.attrs.length≤1048577):∀ (d a n:Nat),a<l.length→l.length - a≤d→∃ b p,BT l a b p∧b=b2l l (a+1)∧∀ g,b0f T (n+d+3) 97 [.p (.list (l.map GRow.pv)),.p (.int .i64 a)] g=some (.tuple [.p (.agg p),.p (.int .i64 b)],g):=by
  intro d
  induction d with
  | zero=>intro a n ha hd;omega
  | succ d ih =>
    intro a n ha hd
    obtain ⟨x,hx⟩:=b0m ha
    have hg:=b0s (f:=GRow.pv) hx
    have k1:(a:Int)<(l.length:Int):=by omega
    obtain ⟨r,hr,nx,ks,hbt,hlast,rfl⟩:=g2a (n:=n+d+3) (N:=n+d+3) l hl hs a x hx (by omega) (fun m h1 h2=>by
      obtain ⟨b,p,q1,q2,q3⟩:=ih m n h2 (by omega)
      exact ⟨b,p,q1,q2,q3⟩)
    refine ⟨nx,b1b x ks,.mk hx hbt,hlast,fun g => ?_⟩
    rw [show n+(d+1)+3=n+d+3+1 by omega,b0a T97,run_pure rfl rfl rfl]
    have hcl:=fun g=>b5q x.attrs (hal x (List.mem_of_getElem? hx)) g (n+d+2)
    cases ks with
    | nil =>
      simp only [c7e,c5c,g1c,g1b,Int.natCast_add,Int.natCast_one] at hr
      simp only [b1b]
      simp -implicitDefEqProofs (disch:=omega) only [Rx,simprocAttr,F97,k1,hg,GRow.pv,b0b,hcl,hr,b9h]
    | cons k0 ks0 =>
      simp only [c7e,c5c,g1c,g1b,Int.natCast_add,Int.natCast_one] at hr
      simp only [b1b]
      simp -implicitDefEqProofs (disch:=omega) only [Rx,simprocAttr,F97,k1,hg,GRow.pv,b0b,hcl,hr,b9h]
end Go.TA.Tryz


end
section
/- Rows that are right for the document's answer are right for the program. -/
namespace Go.TA.Tryz
theorem h3t {l:List GRow} {x:GRow} (hs:b1r l l.length) (hx:l[0]? = some x):b3o l 1=[1]:=by
 have hlt:0<l.length:=(List.getElem?_eq_some_iff.1 hx).1
 rw [b3l hs (Nat.le_refl _) hlt]
 have:=b5w hs hlt hlt
 have:upAt l 1=0:=by simpa using this
 rw [this];rfl
end Go.TA.Tryz


end
section
/- Rows that are right for the document's answer are right for the program. -/
namespace Go.TA.Tryz
end Go.TA.Tryz


end
