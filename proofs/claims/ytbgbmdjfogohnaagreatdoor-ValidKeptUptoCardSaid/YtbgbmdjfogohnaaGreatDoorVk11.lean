/- Part 11 of 15 of a proof; joined from VkpOpsSame, VkpOps25, VkpDoE, MS0, VkpFew, VkpFewR, VkpSmallM, VkpCountG, VkpCheck13, VkpVisit, VkpVisitE, VkpBuildE, VkpFlatA, VkpFlat. Rows that are right for the document's answer are right for the program. -/
import Derived.Test.YtbgbmdjfogohnaaGreatDoorVk1
import Derived.Test.YtbgbmdjfogohnaaGreatDoorVk10
import Derived.Test.YtbgbmdjfogohnaaGreatDoorVk7
import Derived.Test.YtbgbmdjfogohnaaGreatDoorVk6
set_option linter.unusedSimpArgs false
set_option linter.unusedVariables false
set_option linter.defProp false
set_option maxRecDepth 100000
set_option maxHeartbeats 8000000
section
/- Whether an operation is what its kind uses of it: by texts, as the program does it. -/
namespace Go.TA.Tryz
def eqEnd (b:Bool):Ex × St:=if b=true then (.exit 0,⟨[],[],[]⟩) else (.ret,⟨[(4,.p (.bool false))],[],[]⟩)
theorem eqEnd_ne (b:Bool):(eqEnd b).1 ≠ .normal:=by cases b <;> simp [eqEnd]
theorem slicesEq_run (a b : List Attr) (g : List AObj) {n m : Nat} (ha : a.length < n) (hn : n ≤ 1048577) (hm : n ≤ m) :
    acall T (m+1) 165 [.p (attrsPV a),.p (attrsPV b)] g=some (.p (.bool (decide (a=b))),g):=by
  rw [acall_code T165,run_pure rfl rfl rfl]
  by_cases hlen:a.length=b.length
  · have hloop:aexec (acall T m) m (.loop B165x0) ⟨[(0,.p (.list (a.map Attr.pv))),(1,.p (.list (b.map Attr.pv))),(12,.p (.int .i64 a.length)),(13,.p (.int .i64 0))],[],[]⟩=some (eqEnd (decide (a.drop 0=b.drop 0))):=by
      refine loop_rule' (σ := Nat) (S:=fun i=>⟨[(0,.p (.list (a.map Attr.pv))),(1,.p (.list (b.map Attr.pv))),(12,.p (.int .i64 a.length)),(13,.p (.int .i64 i))],[],[]⟩) (I:=fun i=>i≤a.length) (μ := fun i=>a.length - i) (Φ := fun i=>eqEnd (decide (a.drop i=b.drop i))) ?_ 0 (by omega) (by omega)
      intro i hi
      by_cases h:i<a.length
      · obtain ⟨x,hx⟩:=get_some h
        obtain ⟨y,hy⟩:=get_some (l:=b) (i:=i) (by omega)
        have hgx:=getD_map (f:=Attr.pv) hx
        have hgy:=getD_map (f:=Attr.pv) hy
        have hdx:a.drop i=x::a.drop (i+1):=by rw [List.drop_eq_getElem?_toList_append,hx];rfl
        have hdy:b.drop i=y::b.drop (i+1):=by rw [List.drop_eq_getElem?_toList_append,hy];rfl
        by_cases hxy:x=y
        · subst hxy
          refine .inl ⟨i+1, ?_,by omega,by omega,by rw [hdx,hdy];simp⟩
          simp -implicitDefEqProofs (disch:=omega) only [Rx,simprocAttr,B165x0,hgx,hgy,Attr.pv]
        · refine .inr ⟨?_,eqEnd_ne _⟩
          have e:decide (a.drop i=b.drop i)=false:=by rw [hdx,hdy];simp [hxy]
          have e2:(x.name==y.name && x.value==y.value)=false:=by
            rw [← Bool.not_eq_true,Bool.and_eq_true,beq_iff_eq,beq_iff_eq]
            rintro ⟨h1,h2⟩
            apply hxy
            cases x;cases y;simp only at h1 h2;subst h1 h2;rfl
          rw [e]
          simp -implicitDefEqProofs (disch:=omega) only [Rx,simprocAttr,B165x0,hgx,hgy,Attr.pv,e2,eqEnd]
      · have e:decide (a.drop i=b.drop i)=true:=by rw [List.drop_eq_nil_of_le (by omega),List.drop_eq_nil_of_le (by omega)];simp
        refine .inr ⟨?_,eqEnd_ne _⟩
        rw [e]
        simp -implicitDefEqProofs (disch:=omega) only [Rx,simprocAttr,B165x0,eqEnd]
    rw [List.drop_zero,List.drop_zero] at hloop
    have hl2:((a.length:Int)==(b.length:Int))=true:=by simp [hlen]
    cases hd:decide (a=b) with
    | false =>
      rw [hd] at hloop
      simp only [eqEnd,Bool.false_eq_true,if_false] at hloop
      simp -implicitDefEqProofs (disch:=omega) only [Rx,simprocAttr,F165,attrsPV,hl2,hloop]
    | true =>
      rw [hd] at hloop
      simp only [eqEnd,if_true] at hloop
      simp -implicitDefEqProofs (disch:=omega) only [Rx,simprocAttr,F165,attrsPV,hl2,hloop]
  · have hl2:((a.length:Int)==(b.length:Int))=false:=by rw [beq_eq_false_iff_ne];omega
    have hd:decide (a=b)=false:=by rw [decide_eq_false_iff_not];intro hh;exact hlen (by rw [hh])
    rw [hd]
    simp -implicitDefEqProofs (disch:=omega) only [Rx,simprocAttr,F165,attrsPV,hl2]
def hOk (n:Int):Bool:=decide (0≤n) && decide (n≤4294967295)
theorem handle_run (k:Int) (g:List AObj) (n:Nat):acall T (n+1) 113 [.p (.int .i64 k)] g=some (.p (.bool (hOk k)),g):=by
 rw [acall_code T113,run_pure rfl rfl rfl]
 by_cases h1:0≤k
 ·by_cases h2:k≤4294967295
  ·simp -implicitDefEqProofs (disch:=omega) only [Rx,simprocAttr,F113,hOk,h1,h2]
  ·simp -implicitDefEqProofs (disch:=omega) only [Rx,simprocAttr,F113,hOk,h1,h2]
 ·simp -implicitDefEqProofs (disch:=omega) only [Rx,simprocAttr,F113,hOk,h1]
theorem over_run (k:Int) (g:List AObj) (n:Nat):acall T (n+1) 61 [.p (.int .i64 k)] g=some (.p (.bool (!hOk k)),g):=by
 rw [acall_code T61,run_pure rfl rfl rfl]
 by_cases h1:k<0
 ·have h1':¬ 0≤k:=by omega
  simp -implicitDefEqProofs (disch:=omega) only [Rx,simprocAttr,F61,hOk,h1,h1']
 ·have h1':0≤k:=by omega
  by_cases h2:4294967295<k
  ·have h2':¬ k≤4294967295:=by omega
   simp -implicitDefEqProofs (disch:=omega) only [Rx,simprocAttr,F61,hOk,h1,h1',h2,h2']
  ·have h2':k≤4294967295:=by omega
   simp -implicitDefEqProofs (disch:=omega) only [Rx,simprocAttr,F61,hOk,h1,h1',h2,h2']
theorem itoa_run (k:Int) (h1 : -9223372036854775808≤k) (h2:k≤9223372036854775807) (g:List AObj) (n:Nat):acall T (n+1) 167 [.p (.int .i64 k)] g=some (.p (.str (Lib.itoa k)),g):=by
 rw [acall_prim T167]
 simp [pItoa,h1,h2]
theorem digits_zero:∀ (u:Nat),1≤u→Lib.decDigits u≠[48]:=by
 intro u hu h
 by_cases h10:u<10
 ·rw [Lib.decDigits_one h10] at h
  injection h with h _
  have:(UInt8.ofNat (48+u)).toNat=48:=by rw [h];rfl
  rw [UInt8.toNat_ofNat'] at this
  omega
 ·have hl:=Lib.decDigits_length u
  rw [h] at hl
  rw [Lib.nDigits,dif_neg h10] at hl
  have:1≤Lib.nDigits (u / 10):=by
   rw [Lib.nDigits]
   split <;> omega
  simp at hl
  omega
theorem itoa_zero {k:Int} (h:0≤k):(Lib.itoa k==Lib.itoa 0)=(k==0):=by
 have e0:Lib.itoa 0=[48]:=by
  have:Lib.itoa 0=Lib.decDigits 0:=by simp [Lib.itoa]
  rw [this,Lib.decDigits_one (by omega)]
  rfl
 rw [e0]
 by_cases hk:k=0
 ·subst hk;rw [e0];rfl
 ·have hne:Lib.itoa k≠[48]:=by
   have:Lib.itoa k=Lib.decDigits k.toNat:=by unfold Lib.itoa;rw [if_neg (by omega)]
   rw [this]
   exact digits_zero _ (by omega)
  rw [Bool.eq_iff_iff,beq_iff_eq,beq_iff_eq]
  exact ⟨fun h=>absurd h hne,fun h=>absurd h hk⟩
def smallI (k:Int):Prop:=0≤k∧k≤4294967295
structure OpFine (x:GOp):Prop where
 kind:smallI x.kind
 node:smallI x.node
 up:smallI x.up
 before:smallI x.before
theorem one_run (x:GOp) (hx:OpFine x) (g:List AObj) (n:Nat):acall T (n+2) 166 [.p (.agg x.pv)] g=some (.p (.agg [.str (Lib.itoa x.kind),.str (Lib.itoa x.node),.str (Lib.itoa x.up),.str (Lib.itoa x.before),.str x.tag,.str x.key,.str x.name,.str x.text,.str []]),g):=by
 rw [acall_code T166,run_pure rfl rfl rfl]
 have h1:=fun g=>itoa_run x.kind (by have:=hx.kind.1;omega) (by have:=hx.kind.2;omega) g n
 have h2:=fun g=>itoa_run x.node (by have:=hx.node.1;omega) (by have:=hx.node.2;omega) g n
 have h3:=fun g=>itoa_run x.up (by have:=hx.up.1;omega) (by have:=hx.up.2;omega) g n
 have h4:=fun g=>itoa_run x.before (by have:=hx.before.1;omega) (by have:=hx.before.2;omega) g n
 simp -implicitDefEqProofs (disch:=omega) only [Rx,simprocAttr,F166,GOp.pv,attrsPV,h1,h2,h3,h4]
def sameV (x y:GOp):Bool:=decide (x.attrs=y.attrs) && ((Lib.itoa x.kind==Lib.itoa y.kind) && ((Lib.itoa x.node==Lib.itoa y.node) && ((Lib.itoa x.up==Lib.itoa y.up) && ((Lib.itoa x.before==Lib.itoa y.before) && ((x.tag==y.tag) && ((x.key==y.key) && ((x.name==y.name) && (x.text==y.text))))))))
theorem opsame_run (x y:GOp) (hx:OpFine x) (hy:OpFine y) (g:List AObj) {n:Nat} (hl:x.attrs.length<n+1) (hb:x.attrs.length≤1048576):acall T (n+3) 114 [.p (.agg x.pv),.p (.agg y.pv)] g=some (.p (.bool (sameV x y)),g):=by
 rw [acall_code T114,run_pure rfl rfl rfl]
 have he:=fun g=>slicesEq_run x.attrs y.attrs g (n:=x.attrs.length+1) (m:=n+1) (by omega) (by omega) (by omega)
 have o1:=fun g=>one_run x hx g n
 have o2:=fun g=>one_run y hy g n
 simp only [GOp.pv,attrsPV] at he o1 o2
 by_cases ha:x.attrs=y.attrs
 ·have ha':decide (x.attrs=y.attrs)=true:=by simpa using ha
  rw [ha'] at he
  simp only [sameV,ha']
  simp -implicitDefEqProofs (disch:=omega) only [Rx,simprocAttr,F114,GOp.pv,attrsPV,he,o1,o2,attrs_same,Nat.zero_add]
 ·have ha':decide (x.attrs=y.attrs)=false:=by simpa using ha
  rw [ha'] at he
  simp only [sameV,ha']
  simp -implicitDefEqProofs (disch:=omega) only [Rx,simprocAttr,F114,GOp.pv,attrsPV,he]
end Go.TA.Tryz


end
section
/- What is wrong with an operation: the document's answer. -/
namespace Go.TA.Tryz
def tagBad (x:GOp):Bool:=(x.kind==1) && !namedB false x.tag
def nameBad (x:GOp):Bool:=((x.kind==5) || (x.kind==6)) && !namedB true x.name
def opErr (x:GOp):Int:=if x.kind<1 then 6 else if 7<x.kind then 6 else if hOk x.node=false then 5 else if hOk x.up=false then 5 else if hOk x.before=false then 5 else if noneB x=true then 2 else if tagBad x=true then 7 else if nameBad x=true then 8 else if 65536<(x.key.length:Int) then 3 else if 65536<(x.text.length:Int) then 3 else attrsErr x.attrs
theorem ref25_run (x:GOp) (hs:smallAttrs x.attrs) (g:List AObj) {n:Nat} (hl:x.attrs.length<n) (hn:1048576<n):acall T (n+37) 18 [.p (.agg x.pv)] g=some (.p (.int .i64 (opErr x)),g):=by
 rw [acall_code T18,run_pure rfl rfl rfl]
 have ov:=fun (k:Int) g=>over_run k g (n+35)
 have nt:=fun s g=>named02_run s false g (n+1)
 have nn:=fun s g=>named02_run s true g (n+1)
 have at_:=fun g=>a09_run x.attrs hs g (n:=n) (by omega) hn
 by_cases k1:x.kind<1
 ·have e:opErr x=6:=by simp [opErr,tagBad,nameBad,k1]
  rw [e]
  simp -implicitDefEqProofs (disch:=omega) only [Rx,simprocAttr,F18,GOp.pv,attrsPV,k1]
 by_cases k7:7<x.kind
 ·have e:opErr x=6:=by simp [opErr,tagBad,nameBad,k1,k7]
  rw [e]
  simp -implicitDefEqProofs (disch:=omega) only [Rx,simprocAttr,F18,GOp.pv,attrsPV,k1,k7]
 cases hnode:hOk x.node
 ·have e:opErr x=5:=by simp [opErr,tagBad,nameBad,k1,k7,hnode]
  rw [e]
  simp -implicitDefEqProofs (disch:=omega) only [Rx,simprocAttr,F18,GOp.pv,attrsPV,ov,k1,k7,hnode]
 cases hup:hOk x.up
 ·have e:opErr x=5:=by simp [opErr,tagBad,nameBad,k1,k7,hnode,hup]
  rw [e]
  simp -implicitDefEqProofs (disch:=omega) only [Rx,simprocAttr,F18,GOp.pv,attrsPV,ov,k1,k7,hnode,hup]
 cases hbefore:hOk x.before
 ·have e:opErr x=5:=by simp [opErr,tagBad,nameBad,k1,k7,hnode,hup,hbefore]
  rw [e]
  simp -implicitDefEqProofs (disch:=omega) only [Rx,simprocAttr,F18,GOp.pv,attrsPV,ov,k1,k7,hnode,hup,hbefore]
 have no:=fun g=>none_run x (by omega) (by omega) g (n+35)
 simp only [GOp.pv,attrsPV] at no
 cases hn:noneB x
 rotate_left
 ·have e:opErr x=2:=by simp [opErr,tagBad,nameBad,k1,k7,hnode,hup,hbefore,hn]
  rw [e]
  simp -implicitDefEqProofs (disch:=omega) only [Rx,simprocAttr,F18,GOp.pv,attrsPV,ov,no,k1,k7,hnode,hup,hbefore,hn]
 cases e1:(x.kind==1)
 rotate_left
 ·have e1':x.kind=1:=by simpa using e1
  have e5:(x.kind==5)=false:=by rw [e1'];rfl
  have e6:(x.kind==6)=false:=by rw [e1'];rfl
  cases t1:namedB false x.tag
  ·have e:opErr x=7:=by simp [opErr,tagBad,nameBad,k1,k7,hnode,hup,hbefore,hn,e1,e5,e6,t1]
   rw [e]
   simp -implicitDefEqProofs (disch:=omega) only [Rx,simprocAttr,F18,GOp.pv,attrsPV,ov,no,nt,k1,k7,hnode,hup,hbefore,hn,e1,t1]
  by_cases l1:65536<(x.key.length:Int)
  ·have e:opErr x=3:=by simp [opErr,tagBad,nameBad,k1,k7,hnode,hup,hbefore,hn,e1,e5,e6,t1,l1]
   rw [e]
   simp -implicitDefEqProofs (disch:=omega) only [Rx,simprocAttr,F18,GOp.pv,attrsPV,ov,no,nt,k1,k7,hnode,hup,hbefore,hn,e1,e5,e6,t1,l1]
  by_cases l2:65536<(x.text.length:Int)
  ·have e:opErr x=3:=by simp [opErr,tagBad,nameBad,k1,k7,hnode,hup,hbefore,hn,e1,e5,e6,t1,l1,l2]
   rw [e]
   simp -implicitDefEqProofs (disch:=omega) only [Rx,simprocAttr,F18,GOp.pv,attrsPV,ov,no,nt,k1,k7,hnode,hup,hbefore,hn,e1,e5,e6,t1,l1,l2]
  have e:opErr x=attrsErr x.attrs:=by simp [opErr,tagBad,nameBad,k1,k7,hnode,hup,hbefore,hn,e1,e5,e6,t1,l1,l2]
  rw [e]
  simp -implicitDefEqProofs (disch:=omega) only [Rx,simprocAttr,F18,GOp.pv,attrsPV,ov,no,nt,at_,k1,k7,hnode,hup,hbefore,hn,e1,e5,e6,t1,l1,l2]
 cases e5:(x.kind==5)
 rotate_left
 ·cases t2:namedB true x.name
  ·have e:opErr x=8:=by simp [opErr,tagBad,nameBad,k1,k7,hnode,hup,hbefore,hn,e1,e5,t2]
   rw [e]
   simp -implicitDefEqProofs (disch:=omega) only [Rx,simprocAttr,F18,GOp.pv,attrsPV,ov,no,nn,k1,k7,hnode,hup,hbefore,hn,e1,e5,t2]
  by_cases l1:65536<(x.key.length:Int)
  ·have e:opErr x=3:=by simp [opErr,tagBad,nameBad,k1,k7,hnode,hup,hbefore,hn,e1,e5,t2,l1]
   rw [e]
   simp -implicitDefEqProofs (disch:=omega) only [Rx,simprocAttr,F18,GOp.pv,attrsPV,ov,no,nn,k1,k7,hnode,hup,hbefore,hn,e1,e5,t2,l1]
  by_cases l2:65536<(x.text.length:Int)
  ·have e:opErr x=3:=by simp [opErr,tagBad,nameBad,k1,k7,hnode,hup,hbefore,hn,e1,e5,t2,l1,l2]
   rw [e]
   simp -implicitDefEqProofs (disch:=omega) only [Rx,simprocAttr,F18,GOp.pv,attrsPV,ov,no,nn,k1,k7,hnode,hup,hbefore,hn,e1,e5,t2,l1,l2]
  have e:opErr x=attrsErr x.attrs:=by simp [opErr,tagBad,nameBad,k1,k7,hnode,hup,hbefore,hn,e1,e5,t2,l1,l2]
  rw [e]
  simp -implicitDefEqProofs (disch:=omega) only [Rx,simprocAttr,F18,GOp.pv,attrsPV,ov,no,nn,at_,k1,k7,hnode,hup,hbefore,hn,e1,e5,t2,l1,l2]
 cases e6:(x.kind==6)
 rotate_left
 ·cases t2:namedB true x.name
  ·have e:opErr x=8:=by simp [opErr,tagBad,nameBad,k1,k7,hnode,hup,hbefore,hn,e1,e5,e6,t2]
   rw [e]
   simp -implicitDefEqProofs (disch:=omega) only [Rx,simprocAttr,F18,GOp.pv,attrsPV,ov,no,nn,k1,k7,hnode,hup,hbefore,hn,e1,e5,e6,t2]
  by_cases l1:65536<(x.key.length:Int)
  ·have e:opErr x=3:=by simp [opErr,tagBad,nameBad,k1,k7,hnode,hup,hbefore,hn,e1,e5,e6,t2,l1]
   rw [e]
   simp -implicitDefEqProofs (disch:=omega) only [Rx,simprocAttr,F18,GOp.pv,attrsPV,ov,no,nn,k1,k7,hnode,hup,hbefore,hn,e1,e5,e6,t2,l1]
  by_cases l2:65536<(x.text.length:Int)
  ·have e:opErr x=3:=by simp [opErr,tagBad,nameBad,k1,k7,hnode,hup,hbefore,hn,e1,e5,e6,t2,l1,l2]
   rw [e]
   simp -implicitDefEqProofs (disch:=omega) only [Rx,simprocAttr,F18,GOp.pv,attrsPV,ov,no,nn,k1,k7,hnode,hup,hbefore,hn,e1,e5,e6,t2,l1,l2]
  have e:opErr x=attrsErr x.attrs:=by simp [opErr,tagBad,nameBad,k1,k7,hnode,hup,hbefore,hn,e1,e5,e6,t2,l1,l2]
  rw [e]
  simp -implicitDefEqProofs (disch:=omega) only [Rx,simprocAttr,F18,GOp.pv,attrsPV,ov,no,nn,at_,k1,k7,hnode,hup,hbefore,hn,e1,e5,e6,t2,l1,l2]
 by_cases l1:65536<(x.key.length:Int)
 ·have e:opErr x=3:=by simp [opErr,tagBad,nameBad,k1,k7,hnode,hup,hbefore,hn,e1,e5,e6,l1]
  rw [e]
  simp -implicitDefEqProofs (disch:=omega) only [Rx,simprocAttr,F18,GOp.pv,attrsPV,ov,no,k1,k7,hnode,hup,hbefore,hn,e1,e5,e6,l1]
 by_cases l2:65536<(x.text.length:Int)
 ·have e:opErr x=3:=by simp [opErr,tagBad,nameBad,k1,k7,hnode,hup,hbefore,hn,e1,e5,e6,l1,l2]
  rw [e]
  simp -implicitDefEqProofs (disch:=omega) only [Rx,simprocAttr,F18,GOp.pv,attrsPV,ov,no,k1,k7,hnode,hup,hbefore,hn,e1,e5,e6,l1,l2]
 have e:opErr x=attrsErr x.attrs:=by simp [opErr,tagBad,nameBad,k1,k7,hnode,hup,hbefore,hn,e1,e5,e6,l1,l2]
 rw [e]
 simp -implicitDefEqProofs (disch:=omega) only [Rx,simprocAttr,F18,GOp.pv,attrsPV,ov,no,at_,k1,k7,hnode,hup,hbefore,hn,e1,e5,e6,l1,l2]
end Go.TA.Tryz


end
section
/- What an operation does, if it may be. -/
namespace Go.TA.Tryz
noncomputable def doE (S:MS) (x:GOp):Int × MS:=if opErr x=0 then doM S x else (opErr x,S)
section
variable {R:Nat} {S:MS}
theorem doE_ok (hS:S.Ok R) (x:GOp) (hx:x.attrs.length≤1048577):(doE S x).2.Ok (R+R+1)∧S.N≤(doE S x).2.N∧(doE S x).2.N≤S.N+1:=by
 unfold doE
 split
 ·exact doM_ok hS x hx
 ·exact ⟨hS.more (by omega),by simp,by simp⟩
end
noncomputable def runM:MS→List GOp→Nat→Nat × Int × MS
 | S,[],i=>(i,0,S)
 | S,x::l,i=>if (doE S x).1=0 then runM (doE S x).2 l (i+1) else (i,(doE S x).1,(doE S x).2)
theorem runM_drop {L:List GOp} {i:Nat} {x:GOp} (hx:L[i]? = some x) (S:MS):runM S (L.drop i) i=if (doE S x).1=0 then runM (doE S x).2 (L.drop (i+1)) (i+1) else (i,(doE S x).1,(doE S x).2):=by
 have:L.drop i=x::L.drop (i+1):=by rw [List.drop_eq_getElem?_toList_append,hx];rfl
 rw [this,runM]
end Go.TA.Tryz


end
section
/- The machine of rows. Plain. -/
namespace Go.TA
def S0 (l:List GRow):MS:=⟨l.length+1,st0 l,kd0 l l.length⟩
theorem mem_kd0 {l:List GRow} {i h:Nat} {k:Int}:k ∈ kd0 l i h↔∃ j x,j<i∧l[j]? = some x∧x.up=(h:Int)∧k=(j:Int)+1:=by
  simp only [kd0,List.mem_map,List.mem_filter,List.mem_range]
  constructor
  · rintro ⟨j,⟨h1,h2⟩,rfl⟩
    cases hx:l[j]? with
    | none=>rw [hx] at h2;simp at h2
    | some x =>
      rw [hx] at h2
      exact ⟨j,x,h1,hx,by simpa using h2,rfl⟩
  · rintro ⟨j,x,h1,h2,h3,rfl⟩
    exact ⟨j,⟨h1,by simp [h2,h3]⟩,rfl⟩
theorem kd0_nodup (l:List GRow) (i h:Nat):(kd0 l i h).Nodup:=by
 unfold kd0
 rw [List.nodup_iff_pairwise_ne,List.pairwise_map]
 refine List.Pairwise.imp ?_ ((List.nodup_iff_pairwise_ne.1 List.nodup_range).filter _)
 intro a b hab
 omega
theorem S0_ok {l:List GRow} {m:Nat} (hs:sound l) (hsm:Rows.mid m l) (hm:m≤1048577):(S0 l).Ok l.length:=by
  have hlive:∀ c,c<l.length+1→(st0 l c).live=true:=fun c hc=>by
    cases c with
    | zero=>rfl
    | succ j =>
      obtain ⟨x,hx⟩:=get_some (show j<l.length by omega)
      simp [st0,hx,nodeOf]
  have hup:∀ j x,l[j]? = some x→(st0 l (j+1)).up=x.up:=fun j x hx=>by simp [st0,hx,nodeOf]
  refine ⟨by simp [S0],⟨rfl,rfl⟩,fun p hp k hk => ?_,fun c hc => ?_,fun c hc hd => ?_,fun p hp=>kd0_nodup l l.length p,⟨fun c=>c,fun c hc=>by simp only [S0] at hc;show c≤l.length;omega,fun c p hc hu => ?_⟩,fun c hc => ?_⟩
  · obtain ⟨j,x,h1,h2,h3,rfl⟩:=mem_kd0.1 hk
    exact ⟨j+1,by omega,by simp only [S0];omega,hlive _ (by omega),by simp only [S0];rw [hup j x h2];exact h3⟩
  · simp only [S0] at hc ⊢
    cases c with
    | zero=>exact .inl rfl
    | succ j =>
      obtain ⟨x,hx⟩:=get_some (show j<l.length by omega)
      have hst:=hs.1 j x (by omega) hx
      refine .inr ⟨x.up.toNat,by omega, ?_,hlive _ (by omega),mem_kd0.2 ⟨j,x,by omega,hx,by omega,by omega⟩⟩
      rw [hup j x hx];omega
  · simp only [S0] at hc hd
    rw [hlive c hc] at hd;cases hd
  · simp only [S0] at hc hu
    cases c with
    | zero=>simp [st0,holder] at hu <;> omega
    | succ j =>
      obtain ⟨x,hx⟩:=get_some (show j<l.length by omega)
      have hst:=hs.1 j x (by omega) hx
      rw [hup j x hx] at hu
      show p<j+1
      omega
  · simp only [S0] at hc ⊢
    cases c with
    | zero=>simp [st0,holder]
    | succ j =>
      obtain ⟨x,hx⟩:=get_some (show j<l.length by omega)
      have:=(hsm.row x (List.mem_of_getElem? hx)).attrs
      simp only [st0,hx,Option.map_some,Option.getD_some,nodeOf]
      omega
end Go.TA


end
section
/- The guard of most laws: whether operations are few. -/
set_option maxHeartbeats 1000000
namespace Go.TA.Tryz
theorem attr_get {l:List Attr} {i:Nat} {a:Attr} (h:l[i]? = some a):(l.map Attr.pv).getD i []=[.str a.name,.str a.value]:=by
 rw [List.getD_eq_getElem?_getD,List.getElem?_map,h];rfl
theorem few_attr {C:Calls'} {N:Nat} (x:GOp) (p0 p11 p12:PV) (g:List AObj) (i:Nat) (a:Attr) (left:Int) (h:x.attrs[i]? = some a) (hb:x.attrs.length≤1048576) (ha:a.value.length+a.name.length≤1048576) (hl : -4611686018427387904≤left) (hl2:left≤4611686018427387904) :
  aexec C N B12x1 ⟨[(0,.p p0),(5,.p (.int .i64 left)),(7,.ptr false 7 9 1 0 0),(11,.p p11),(12,.p p12),(46,.p (.int .i64 x.attrs.length)),(47,.p (.int .i64 i))],[(7,.pcells 9 [x.pv])],g⟩ =
   some (.normal,⟨[(0,.p p0),(5,.p (.int .i64 (left - ((a.value.length:Int)+a.name.length).tdiv 4096))),(7,.ptr false 7 9 1 0 0),(11,.p p11),(12,.p p12),(46,.p (.int .i64 x.attrs.length)),(47,.p (.int .i64 (i+1)))],[(7,.pcells 9 [x.pv])],g⟩):=by
 have hlt:i<x.attrs.length:=(List.getElem?_eq_some_iff.1 h).1
 have h1:(i:Int)<(x.attrs.length:Int):=by omega
 have h2:=attr_get h
 have q:0≤((a.value.length:Int)+(a.name.length:Int)).tdiv 4096∧((a.value.length:Int)+(a.name.length:Int)).tdiv 4096≤1048576:=by
  rw [Int.tdiv_eq_ediv_of_nonneg (by omega)];omega
 generalize hq:((a.value.length:Int)+(a.name.length:Int)).tdiv 4096=d at q ⊢
 obtain ⟨w1,w2,w3,w4⟩:IntKind.i64.wrap ((a.value.length:Int)+(a.name.length:Int))=(a.value.length:Int)+(a.name.length:Int)∧IntKind.i64.wrap d=d∧IntKind.i64.wrap (left - d)=left - d∧IntKind.i64.wrap ((i:Int)+1)=(i:Int)+1 :=
  ⟨wrap_id (by omega) (by omega),wrap_id (by omega) (by omega),wrap_id (by omega) (by omega),wrap_id (by omega) (by omega)⟩
 simp -implicitDefEqProofs (disch:=omega) only [Rx,simprocAttr,B12x1,h1,h2,GOp.pv,attrsPV,w1,hq,w2,w3,w4]
theorem few_attr_end {C:Calls'} {N:Nat} (x:GOp) (p0 p11 p12:PV) (g:List AObj) (left:Int) :
  aexec C N B12x1 ⟨[(0,.p p0),(5,.p (.int .i64 left)),(7,.ptr false 7 9 1 0 0),(11,.p p11),(12,.p p12),(46,.p (.int .i64 x.attrs.length)),(47,.p (.int .i64 x.attrs.length))],[(7,.pcells 9 [x.pv])],g⟩ =
   some (.exit 2,⟨[(0,.p p0),(5,.p (.int .i64 left)),(11,.p p11),(12,.p p12)],[],g⟩):=by
 have h1:¬ ((x.attrs.length:Int)<(x.attrs.length:Int)):=by omega
 simp -implicitDefEqProofs (disch:=omega) only [Rx,simprocAttr,B12x1,h1]
def smallAttrs (l:List Attr):Prop:=∀ a ∈ l,a.value.length+a.name.length≤1048576
theorem few_attrs {C:Calls'} {N:Nat} (x:GOp) (p0 p11 p12:PV) (g:List AObj) (hb:x.attrs.length≤1048576) (hs:smallAttrs x.attrs) (rest:List Attr):∀ (pre:List Attr) (m:Nat) (left:Int),x.attrs=pre++rest→rest.length<m →
    -4611686018427387904+1048576*(rest.length:Int)≤left→left≤4611686018427387904 →
    aloop C N B12x1 m ⟨[(0,.p p0),(5,.p (.int .i64 left)),(7,.ptr false 7 9 1 0 0),(11,.p p11),(12,.p p12),(46,.p (.int .i64 x.attrs.length)),(47,.p (.int .i64 pre.length))],[(7,.pcells 9 [x.pv])],g⟩ =
      some (.exit 2,⟨[(0,.p p0),(5,.p (.int .i64 (attrsLeft rest left))),(11,.p p11),(12,.p p12)],[],g⟩):=by
  induction rest with
  | nil =>
    intro pre m left hd hm h1 h2
    obtain ⟨m,rfl⟩:∃ k,m=k+1:=⟨m - 1,by simp at hm;omega⟩
    have e:pre.length=x.attrs.length:=by rw [hd];simp
    rw [e,aloop_succ,few_attr_end,bl_exit];rfl
  | cons a rest ih =>
    intro pre m left hd hm h1 h2
    obtain ⟨m,rfl⟩:∃ k,m=k+1:=⟨m - 1,by simp at hm;omega⟩
    have hget:x.attrs[pre.length]? = some a:=by rw [hd];simp
    have hmem:a ∈ x.attrs:=List.mem_of_getElem? hget
    simp only [List.length_cons,Int.natCast_add,Int.natCast_one] at hm h1
    have q:0≤((a.value.length:Int)+(a.name.length:Int)).tdiv 4096∧((a.value.length:Int)+(a.name.length:Int)).tdiv 4096≤1048576:=by
      have:=hs a hmem
      rw [Int.tdiv_eq_ediv_of_nonneg (by omega)];omega
    rw [aloop_succ,few_attr x p0 p11 p12 g pre.length a left hget hb (hs a hmem) (by omega) h2,bl_normal]
    have:=ih (pre++[a]) m (left - ((a.value.length:Int)+a.name.length).tdiv 4096) (by rw [hd];simp) (by omega) (by omega) (by omega)
    rw [List.length_append,Int.natCast_add] at this
    exact this
theorem few_attrs0 {C:Calls'} {N:Nat} (x:GOp) (p0 p11 p12:PV) (g:List AObj) (hb:x.attrs.length≤1048576) (hs:smallAttrs x.attrs) (hN:x.attrs.length<N) {left:Int} (h1 : -4611686018427387904+1048576*(x.attrs.length:Int)≤left) (h2:left≤4611686018427387904) :
  aexec C N (.loop B12x1) ⟨[(0,.p p0),(5,.p (.int .i64 left)),(7,.ptr false 7 9 1 0 0),(11,.p p11),(12,.p p12),(46,.p (.int .i64 x.attrs.length)),(47,.p (.int .i64 0))],[(7,.pcells 9 [x.pv])],g⟩ =
   some (.exit 2,⟨[(0,.p p0),(5,.p (.int .i64 (attrsLeft x.attrs left))),(11,.p p11),(12,.p p12)],[],g⟩):=by
 rw [aexec_loop]
 exact few_attrs x p0 p11 p12 g hb hs x.attrs [] N left rfl hN h1 h2
def smallOp (x:GOp):Prop:=x.attrs.length≤1048576∧smallAttrs x.attrs∧x.text.length+x.key.length+x.tag.length+x.name.length≤1048576
theorem smallOp_of {x:GOp} {n:Nat} (h:bulkL x.pv≤n) (hn:n≤1048576):smallOp x∧x.attrs.length<n:=by
 rw [bulk_op] at h
 obtain ⟨h1,h2⟩:=bulk_attrs x.attrs
 refine ⟨⟨by omega,fun a ha=>by have:=h1 a ha;omega,by omega⟩,by omega⟩
theorem attrsLeft_boundF (l:List Attr) (hs:smallAttrs l):∀ left:Int,left - 1048576*(l.length:Int)≤attrsLeft l left∧attrsLeft l left≤left:=by
  induction l with
  | nil=>intro left;simp [attrsLeft]
  | cons a l ih =>
    intro left
    have ha:=hs a (by simp)
    have q:0≤((a.value.length:Int)+(a.name.length:Int)).tdiv 4096∧((a.value.length:Int)+(a.name.length:Int)).tdiv 4096≤1048576:=by
      rw [Int.tdiv_eq_ediv_of_nonneg (by omega)];omega
    obtain ⟨z1,z2⟩:=ih (fun b hb=>hs b (by simp [hb])) (left - ((a.value.length:Int)+a.name.length).tdiv 4096)
    simp only [attrsLeft,List.length_cons,Int.natCast_add,Int.natCast_one]
    constructor <;> omega
theorem op_get {l:List GOp} {i:Nat} {x:GOp} (h:l[i]? = some x):(l.map GOp.pv).getD i []=x.pv:=by
 rw [List.getD_eq_getElem?_getD,List.getElem?_map,h];rfl
def fewCost (x:GOp):Int:=((x.text.length:Int)+x.key.length+x.tag.length+x.name.length).tdiv 4096
theorem fewCost_bound {x:GOp} (h:smallOp x):0≤fewCost x∧fewCost x≤1048576:=by
 have:=h.2.2
 unfold fewCost
 rw [Int.tdiv_eq_ediv_of_nonneg (by omega)];omega
theorem few_op {C:Calls'} {N:Nat} (l:List GOp) (g:List AObj) (i:Nat) (x:GOp) (left:Int) (h:l[i]? = some x) (hx:smallOp x) (hN:x.attrs.length<N) (hlen:l.length≤1048576) (hl : -1099511627776≤left) (hl2:left≤1099511627776) :
  aexec C N B12x0 ⟨[(0,.p (.list (l.map GOp.pv))),(5,.p (.int .i64 left)),(11,.p (.int .i64 l.length)),(12,.p (.int .i64 i))],[],g⟩ =
   if left - 1 - x.attrs.length - fewCost x<0 then some (.ret,⟨[(4,.p (.bool false))],[],g⟩) else
   some (.normal,⟨[(0,.p (.list (l.map GOp.pv))),(5,.p (.int .i64 (attrsLeft x.attrs (left - 1 - x.attrs.length - fewCost x)))),(11,.p (.int .i64 l.length)),(12,.p (.int .i64 (i+1)))],[],g⟩):=by
 have hlt:i<l.length:=(List.getElem?_eq_some_iff.1 h).1
 have h1:(i:Int)<(l.length:Int):=by omega
 have h2:=op_get h
 obtain ⟨b1,b2,b3⟩:=hx
 have q:=fewCost_bound (x:=x) ⟨b1,b2,b3⟩
 have hq:((x.text.length:Int)+x.key.length+x.tag.length+x.name.length).tdiv 4096=fewCost x:=rfl
 generalize fewCost x=d at q hq ⊢
 obtain ⟨w1,w2,w3,w4,w5,w6,w7,w8⟩:IntKind.i64.wrap ((x.text.length:Int)+x.key.length)=(x.text.length:Int)+x.key.length∧IntKind.i64.wrap ((x.text.length:Int)+x.key.length+x.tag.length)=(x.text.length:Int)+x.key.length+x.tag.length ∧
   IntKind.i64.wrap ((x.text.length:Int)+x.key.length+x.tag.length+x.name.length)=(x.text.length:Int)+x.key.length+x.tag.length+x.name.length∧IntKind.i64.wrap d=d∧IntKind.i64.wrap (left - 1)=left - 1 ∧
   IntKind.i64.wrap (left - 1 - x.attrs.length)=left - 1 - x.attrs.length∧IntKind.i64.wrap (left - 1 - x.attrs.length - d)=left - 1 - x.attrs.length - d∧IntKind.i64.wrap ((i:Int)+1)=(i:Int)+1 :=
  ⟨wrap_id (by omega) (by omega),wrap_id (by omega) (by omega),wrap_id (by omega) (by omega),wrap_id (by omega) (by omega),wrap_id (by omega) (by omega),wrap_id (by omega) (by omega),wrap_id (by omega) (by omega),wrap_id (by omega) (by omega)⟩
 have hloop:=few_attrs0 (C:=C) (N:=N) x (.list (l.map GOp.pv)) (.int .i64 l.length) (.int .i64 i) g b1 b2 hN (left:=left - 1 - x.attrs.length - d) (by omega) (by omega)
 by_cases hneg:left - 1 - x.attrs.length - d<0
 ·simp -implicitDefEqProofs (disch:=omega) only [Rx,simprocAttr,B12x0,h1,h2,GOp.pv,attrsPV,w1,hq,w2,w3,w4,w5,w6,w7,hneg]
 ·simp only [GOp.pv,attrsPV] at hloop
  simp -implicitDefEqProofs (disch:=omega) only [Rx,simprocAttr,B12x0,h1,h2,GOp.pv,attrsPV,w1,hq,w2,w3,w4,w5,w6,w7,w8,hneg,hloop]
def fewEnd (r:Option Int) (l:PV) (n:Int) (g:List AObj):Ex × St:=match r with
 | none=>(.ret,⟨[(4,.p (.bool false))],[],g⟩)
 | some left=>(.exit 0,⟨[(5,.p (.int .i64 left))],[],g⟩)
theorem few_op_end {C:Calls'} {N:Nat} (l:List GOp) (g:List AObj) (left:Int) :
  aexec C N B12x0 ⟨[(0,.p (.list (l.map GOp.pv))),(5,.p (.int .i64 left)),(11,.p (.int .i64 l.length)),(12,.p (.int .i64 l.length))],[],g⟩=some (.exit 0,⟨[(5,.p (.int .i64 left))],[],g⟩):=by
 have h1:¬ ((l.length:Int)<(l.length:Int)):=by omega
 simp -implicitDefEqProofs (disch:=omega) only [Rx,simprocAttr,B12x0,h1]
theorem few_ops {C:Calls'} {N:Nat} (l:List GOp) (g:List AObj) (hs:∀ x ∈ l,smallOp x∧x.attrs.length<N) (hlen:l.length≤1048576) (rest:List GOp):∀ (pre:List GOp) (m:Nat) (left:Int),l=pre++rest→rest.length<m→(pre≠[]→0≤left+1099511627776) → -1099511627776≤left→left≤1000000 →
    aloop C N B12x0 m ⟨[(0,.p (.list (l.map GOp.pv))),(5,.p (.int .i64 left)),(11,.p (.int .i64 l.length)),(12,.p (.int .i64 pre.length))],[],g⟩=some (fewEnd (fewOpsL rest left) (.list (l.map GOp.pv)) l.length g):=by
  induction rest with
  | nil =>
    intro pre m left hd hm _ h1 h2
    obtain ⟨m,rfl⟩:∃ k,m=k+1:=⟨m - 1,by simp at hm;omega⟩
    have e:pre.length=l.length:=by rw [hd];simp
    rw [e,aloop_succ,few_op_end,bl_exit];rfl
  | cons x rest ih =>
    intro pre m left hd hm _ h1 h2
    obtain ⟨m,rfl⟩:∃ k,m=k+1:=⟨m - 1,by simp at hm;omega⟩
    have hget:l[pre.length]? = some x:=by rw [hd];simp
    have hmem:x ∈ l:=List.mem_of_getElem? hget
    obtain ⟨hx,hN⟩:=hs x hmem
    rw [aloop_succ,few_op l g pre.length x left hget hx hN hlen (by omega) (by omega)]
    have hc:fewOpsL (x::rest) left=if left - 1 - x.attrs.length - fewCost x<0 then none else fewOpsL rest (attrsLeft x.attrs (left - 1 - x.attrs.length - fewCost x)):=rfl
    rw [hc]
    have q:=fewCost_bound hx
    by_cases hneg:left - 1 - x.attrs.length - fewCost x<0
    · rw [if_pos hneg,if_pos hneg,bl_ret];rfl
    · rw [if_neg hneg,if_neg hneg,bl_normal]
      have hb:=attrsLeft_boundF x.attrs hx.2.1 (left - 1 - x.attrs.length - fewCost x)
      have hb2:(x.attrs.length:Int)≤1000000:=by omega
      simp only [List.length_cons] at hm
      have:=ih (pre++[x]) m (attrsLeft x.attrs (left - 1 - x.attrs.length - fewCost x)) (by rw [hd];simp) (by omega) (by omega) (by omega) (by omega)
      rw [List.length_append,Int.natCast_add] at this
      exact this
theorem few_run (l:List GOp) (most:Int) (g:List AObj) {n:Nat} (hs:∀ x ∈ l,smallOp x∧x.attrs.length<n) (hlen:l.length≤1048576) (hn:l.length<n) (h1:0≤most) (h2:most≤1000000) :
    acall T (n+1) 12 [.p (.list (l.map GOp.pv)),.p (.int .i64 most)] g=some (.p (.bool (fewOps l most)),g):=by
  rw [acall_code T12,run_pure rfl rfl rfl]
  have hloop:=few_ops (C:=acall T n) (N:=n) l [] hs hlen l [] n most rfl hn (by simp) (by omega) (by omega)
  rw [← aexec_loop] at hloop
  cases hr:fewOpsL l most with
  | none =>
    rw [hr] at hloop
    simp -implicitDefEqProofs only [F12,fewEnd,List.length_nil,Int.natCast_zero] at hloop ⊢
    simp -implicitDefEqProofs (disch:=omega) only [Rx,simprocAttr,hloop,fewOps,hr]
  | some left =>
    rw [hr] at hloop
    simp -implicitDefEqProofs only [F12,fewEnd,List.length_nil,Int.natCast_zero] at hloop ⊢
    simp -implicitDefEqProofs (disch:=omega) only [Rx,simprocAttr,hloop,fewOps,hr]
end Go.TA.Tryz


end
section
/- The other guard of most laws: whether rows are few. -/
set_option maxHeartbeats 1000000
namespace Go.TA.Tryz
def rowCost (x:GRow):Int:=((x.text.length:Int)+x.key.length+x.tag.length).tdiv 4096
def fewRowsL:List GRow→Int→Option Int
 | [],left=>some left
 | x::l,left=>if left - 1 - x.attrs.length - rowCost x<0 then none else fewRowsL l (attrsLeft x.attrs (left - 1 - x.attrs.length - rowCost x))
def fewRows (l:List GRow) (most:Int):Bool:=match fewRowsL l most with
 | some n=>decide (n ≥ 0)
 | none=>false
theorem tdiv_bound {x:Int} (h:0≤x) (h2:x≤2097152):0≤x.tdiv 4096∧x.tdiv 4096≤1048576:=by
 rw [Int.tdiv_eq_ediv_of_nonneg h];omega
theorem attrsLeft_bound (l:List Attr) (hs:smallAttrs l):∀ left:Int,left - 1048576*(l.length:Int)≤attrsLeft l left∧attrsLeft l left≤left:=by
  induction l with
  | nil=>intro left;simp [attrsLeft]
  | cons a l ih =>
    intro left
    have ha:=hs a (by simp)
    have q:=tdiv_bound (x:=(a.value.length:Int)+(a.name.length:Int)) (by omega) (by omega)
    obtain ⟨z1,z2⟩:=ih (fun b hb=>hs b (by simp [hb])) (left - ((a.value.length:Int)+a.name.length).tdiv 4096)
    simp only [attrsLeft,List.length_cons,Int.natCast_add,Int.natCast_one]
    constructor <;> omega
theorem fewR_inner {C : Calls'} {N n : Nat} (l : List GRow) (i : Nat) (x : GRow) (h : l[i]? = some x) (hx : x.small n) (hn : n ≤ 1048577) (hN : n ≤ N) (left : Int) (hl : -1099511627776 ≤ left) (hl2 : left ≤ 1000000) :
    aexec C N (.loop B11x1) ⟨[(0,.p (.list (l.map GRow.pv))),(5,.p (.int .i64 left)),(6,.p (.int .i64 i)),(10,.p (.int .i64 l.length)),(11,.p (.int .i64 i)),(52,.p (.int .i64 x.attrs.length)),(53,.p (.int .i64 0))],[],[]⟩ =
      some (.exit 2,⟨[(0,.p (.list (l.map GRow.pv))),(5,.p (.int .i64 (attrsLeft x.attrs left))),(10,.p (.int .i64 l.length)),(11,.p (.int .i64 i))],[],[]⟩):=by
  have hlt:i<l.length:=(List.getElem?_eq_some_iff.1 h).1
  have hg:=getD_map (f:=GRow.pv) h
  have:=hx.attrs
  refine loop_rule' (σ := Nat × Int) (S:=fun s=>⟨[(0,.p (.list (l.map GRow.pv))),(5,.p (.int .i64 s.2)),(6,.p (.int .i64 i)),(10,.p (.int .i64 l.length)),(11,.p (.int .i64 i)),(52,.p (.int .i64 x.attrs.length)),(53,.p (.int .i64 s.1))],[],[]⟩)
    (I:=fun s=>s.1≤x.attrs.length ∧ -1099511627776 - 1048576*(s.1:Int)≤s.2∧s.2≤1000000) (μ := fun s=>x.attrs.length - s.1)
    (Φ := fun s=>(.exit 2,⟨[(0,.p (.list (l.map GRow.pv))),(5,.p (.int .i64 (attrsLeft (x.attrs.drop s.1) s.2))),(10,.p (.int .i64 l.length)),(11,.p (.int .i64 i))],[],[]⟩)) ?_ (0,left) ?_ ?_
  · rintro ⟨k,left⟩ ⟨h1,h2,h3⟩
    simp only at h1 h2 h3 ⊢
    by_cases hk:k<x.attrs.length
    · obtain ⟨a,ha⟩:=get_some hk
      have hga:=getD_map (f:=Attr.pv) ha
      have hs:=hx.small a (List.mem_of_getElem? ha)
      have q:=tdiv_bound (x:=(a.value.length:Int)+(a.name.length:Int)) (by omega) (by omega)
      refine .inl ⟨(k+1,left - ((a.value.length:Int)+a.name.length).tdiv 4096), ?_,⟨by omega,by simp only [Int.natCast_add,Int.natCast_one];omega,by omega⟩,by simp only;omega, ?_⟩
      · have k1:(k:Int)<(x.attrs.length:Int):=by omega
        have k2:(i:Int)<(l.length:Int):=by omega
        simp -implicitDefEqProofs (disch:=omega) only [Rx,simprocAttr,B11x1,k1,k2,hg,hga,GRow.pv,attrsPV,Attr.pv]
      · rw [List.drop_eq_getElem?_toList_append,ha];rfl
    · refine .inr ⟨?_,by simp⟩
      have:k=x.attrs.length:=by omega
      subst this
      have k1:¬ ((x.attrs.length:Int)<(x.attrs.length:Int)):=by omega
      simp -implicitDefEqProofs (disch:=omega) only [Rx,simprocAttr,B11x1,k1,List.drop_length,attrsLeft]
  · simp only [Int.natCast_zero];omega
  · simp only;omega
def fewREnd (r:Option Int):Ex × St:=match r with
 | none=>(.ret,⟨[(4,.p (.bool false))],[],[]⟩)
 | some left=>(.exit 0,⟨[(5,.p (.int .i64 left))],[],[]⟩)
theorem fewR_outer {C : Calls'} {N n : Nat} (l : List GRow) (hl : Rows.small n l) (hn : n ≤ 1048577) (hN : n ≤ N) (most : Int) (h1 : 0 ≤ most) (h2 : most ≤ 1000000) :
    aexec C N (.loop B11x0) ⟨[(0,.p (.list (l.map GRow.pv))),(5,.p (.int .i64 most)),(10,.p (.int .i64 l.length)),(11,.p (.int .i64 0))],[],[]⟩=some (fewREnd (fewRowsL l most)):=by
  have hlen:=hl.len
  refine loop_rule' (σ := Nat × Int) (S:=fun s=>⟨[(0,.p (.list (l.map GRow.pv))),(5,.p (.int .i64 s.2)),(10,.p (.int .i64 l.length)),(11,.p (.int .i64 s.1))],[],[]⟩)
    (I:=fun s=>s.1≤l.length ∧ -1099511627776≤s.2∧s.2≤1000000) (μ := fun s=>l.length - s.1)
    (Φ := fun s=>fewREnd (fewRowsL (l.drop s.1) s.2)) ?_ (0,most) ?_ ?_
  · rintro ⟨i,left⟩ ⟨h1,h2,h3⟩
    simp only at h1 h2 h3 ⊢
    by_cases hi:i<l.length
    · obtain ⟨x,hx⟩:=get_some hi
      have hgx:=getD_map (f:=GRow.pv) hx
      have hs:=hl.row x (List.mem_of_getElem? hx)
      have q:=tdiv_bound (x:=(x.text.length:Int)+x.key.length+x.tag.length) (by omega) (by have:=hs.text;omega)
      have ha:=hs.attrs
      have hd:l.drop i=x::l.drop (i+1):=by rw [List.drop_eq_getElem?_toList_append,hx];rfl
      have k2:(i:Int)<(l.length:Int):=by omega
      have hc:fewRowsL (l.drop i) left=if left - 1 - x.attrs.length - rowCost x<0 then none else fewRowsL (l.drop (i+1)) (attrsLeft x.attrs (left - 1 - x.attrs.length - rowCost x)):=by rw [hd];rfl
      have htx:=hs.text
      unfold rowCost at hc
      by_cases hneg:left - 1 - x.attrs.length - ((x.text.length:Int)+x.key.length+x.tag.length).tdiv 4096<0
      · refine .inr ?_
        rw [hc,if_pos hneg]
        refine ⟨?_,by simp [fewREnd]⟩
        simp -implicitDefEqProofs (disch:=omega) only [Rx,simprocAttr,B11x0,k2,hgx,GRow.pv,attrsPV,hneg,fewREnd]
      · have hb:=attrsLeft_bound x.attrs hs.small (left - 1 - x.attrs.length - ((x.text.length:Int)+x.key.length+x.tag.length).tdiv 4096)
        have hloop:=fewR_inner (C:=C) (N:=N) (n:=n) l i x hx hs hn hN (left - 1 - x.attrs.length - ((x.text.length:Int)+x.key.length+x.tag.length).tdiv 4096) (by omega) (by omega)
        refine .inl ⟨(i+1,attrsLeft x.attrs (left - 1 - x.attrs.length - ((x.text.length:Int)+x.key.length+x.tag.length).tdiv 4096)), ?_,⟨by omega,by simp only;omega,by simp only;omega⟩,by simp only;omega,by simp only;rw [hc,if_neg hneg]⟩
        simp -implicitDefEqProofs (disch:=omega) only [Rx,simprocAttr,B11x0,k2,hgx,GRow.pv,attrsPV,hneg,hloop]
    · refine .inr ⟨?_, ?_⟩
      · have:i=l.length:=by omega
        subst this
        have k1:¬ ((l.length:Int)<(l.length:Int)):=by omega
        simp -implicitDefEqProofs (disch:=omega) only [Rx,simprocAttr,B11x0,k1,List.drop_length,fewRowsL,fewREnd]
      · have:l.drop i=[]:=List.drop_eq_nil_of_le (by omega)
        simp [this,fewRowsL,fewREnd]
  · simp only;omega
  · simp only;omega
theorem fewR_run (l:List GRow) (most:Int) (g:List AObj) {n:Nat} (hl:Rows.small n l) (hn:n≤1048577) (h1:0≤most) (h2:most≤1000000) {m:Nat} (hm:n≤m) :
    acall T (m+1) 11 [.p (.list (l.map GRow.pv)),.p (.int .i64 most)] g=some (.p (.bool (fewRows l most)),g):=by
  rw [acall_code T11,run_pure rfl rfl rfl]
  have hloop:=fewR_outer (C:=acall T m) (N:=m) l hl hn hm most h1 h2
  cases hr:fewRowsL l most with
  | none =>
    rw [hr] at hloop
    simp -implicitDefEqProofs only [F11,fewREnd] at hloop ⊢
    simp -implicitDefEqProofs (disch:=omega) only [Rx,simprocAttr,hloop,fewRows,hr]
  | some left =>
    rw [hr] at hloop
    simp -implicitDefEqProofs only [F11,fewREnd] at hloop ⊢
    simp -implicitDefEqProofs (disch:=omega) only [Rx,simprocAttr,hloop,fewRows,hr]
end Go.TA.Tryz


end
section
/- Sizes that stay: of a machine's nodes through a script, and of its rows; how many stand below the holder. -/
namespace Go.TA
structure MNode.small (s:MNode):Prop where
 len:s.attrs.length≤1048576
 attrs:smallAttrs s.attrs
def MS.small (S:MS):Prop:=∀ h,(S.st h).small
theorem smallAttrs_nil:smallAttrs []:=fun a ha=>by simp at ha
theorem deadN_small:deadN.small:=⟨by simp [deadN],smallAttrs_nil⟩
theorem upd_small {S:MS} (h:S.small) {h0:Nat} {s:MNode} (hs:s.small) (k:Nat):(upd S.st h0 s k).small:=by
 unfold upd;split
 ·exact hs
 ·exact h k
theorem withA_small {l:List Attr} (h:smallAttrs l) {name v:Bs} (hv:v.length+name.length≤1048576):smallAttrs (withA l name v):=by
 intro a ha
 unfold withA at ha
 split at ha
 ·rcases List.mem_or_eq_of_mem_set ha with h1 | rfl
  ·exact h a h1
  ·exact hv
 ·rcases List.mem_append.1 ha with h1 | h1
  ·exact h a (List.mem_of_mem_take h1)
  ·rcases List.mem_cons.1 h1 with rfl | h1
   ·exact hv
   ·exact h a (List.mem_of_mem_drop h1)
theorem placeM_small {S:MS} (h:S.small) (h0 u:Nat) (b:Int):(placeM S h0 u b).small:=fun k=>by
 simp only [placeM]
 refine upd_small h ?_ k
 exact ⟨(h h0).len,(h h0).attrs⟩
theorem takeM_small {S:MS} (h:S.small) (h0:Nat):(takeM S h0).small:=by
 unfold takeM;split
 ·exact h
 ·intro k
  refine upd_small h ?_ k
  exact ⟨(h h0).len,(h h0).attrs⟩
theorem doM_small {S:MS} (h:S.small) {x:GOp} (hx:Tryz.smallOp x):(doM S x).2.small:=by
 obtain ⟨x1,x2,x3⟩:=hx
 unfold doM
 split
 ·intro k
  refine upd_small h ?_ k
  exact ⟨x1,x2⟩
 split
 ·exact h
 split
 ·unfold insertM
  repeat' split
  all_goals first | exact h | exact placeM_small h _ _ _
 split
 ·unfold moveM
  repeat' split
  all_goals first | exact h | exact placeM_small (takeM_small h _) _ _ _
 split
 ·exact h
 split
 ·intro k
  simp only [endM]
  split
  ·exact deadN_small
  ·exact takeM_small h _ k
 unfold changeM
 split
 ·split
  ·exact h
  ·rename_i hl
   intro k
   refine upd_small h ?_ k
   exact ⟨by simp only;omega,withA_small (h _).attrs (by omega)⟩
 split
 ·split
  ·rename_i hl
   intro k
   refine upd_small h ?_ k
   exact ⟨by simp only;have:=(h x.node.toNat).len;omega,fun a ha=>(h x.node.toNat).attrs a (List.mem_filter.1 ha).1⟩
  ·exact h
 split
 ·intro k
  refine upd_small h ?_ k
  exact ⟨(h _).len,(h _).attrs⟩
 ·exact h
theorem S0_small {l:List GRow} {m:Nat} (hl:Rows.mid m l) (hm:m≤1048577):(S0 l).small:=by
  intro h
  have hh:holder.small:=⟨by simp [holder],smallAttrs_nil⟩
  cases h with
  | zero=>exact hh
  | succ h =>
    simp only [S0,st0]
    cases hx:l[h]? with
    | none=>exact hh
    | some x =>
      have:=hl.row x (List.mem_of_getElem? hx)
      have h1:=this.attrs
      exact ⟨by simp only [Option.map_some,Option.getD_some,nodeOf];omega,this.small⟩
theorem belowM_mem {S : MS} : ∀ (d : Nat) (out : List GRow) (h up : Int), ∀ x ∈ belowM S d out h up, x ∈ out ∨ ∃ k u, x = rowM S k u
  | 0,out,h,up,x,hx => .inl hx
  | d + 1, out, h, up, x, hx => by
    have key:∀ (ks:List Int) (out:List GRow),∀ x ∈ ks.foldl (fun out k=>belowM S d (out++[rowM S k up]) k ((out.length:Int)+1)) out,x ∈ out∨∃ k u,x=rowM S k u:=by
      intro ks
      induction ks with
      | nil=>exact fun out x hx => .inl hx
      | cons k ks ih =>
        intro out x hx
        rcases ih _ x hx with h1 | h1
        · rcases belowM_mem d _ _ _ x h1 with h2 | h2
          · rcases List.mem_append.1 h2 with h3 | h3
            · exact .inl h3
            · simp only [List.mem_singleton] at h3
              exact .inr ⟨_,_,h3⟩
          · exact .inr h2
        · exact .inr h1
    rw [belowM] at hx
    exact key _ _ x hx
theorem rowsM_small {R:Nat} {S:MS} (hS:S.Ok R) (h:S.small) (hN:S.N<1048577) (R':Nat):Rows.mid 1048577 (rowsM S R'):=by
 have hl:=rowsM_len hS R'
 refine ⟨by omega,fun x hx => ?_⟩
 rcases belowM_mem _ _ _ _ x hx with h1 | ⟨k,u,rfl⟩
 ·simp at h1
 ·have:=h k.toNat
  have h1:=this.len
  exact ⟨by simp only [rowM];omega,this.attrs⟩
def tops (l:List GRow):Nat:=l.countP fun x=>x.up==0
theorem tops_app (l k:List GRow):tops (l++k)=tops l+tops k:=List.countP_append
theorem tops_row {S:MS} {k u:Int}:tops [rowM S k u]=if u=0 then 1 else 0:=by
 simp [tops,List.countP_cons,rowM]
theorem tops_below {S : MS} : ∀ (d : Nat) (out : List GRow) (h up : Int), 0 < up → tops (belowM S d out h up) = tops out
  | 0,out,h,up,hu=>rfl
  | d + 1, out, h, up, hu => by
    have key:∀ (ks:List Int) (out:List GRow),tops (ks.foldl (fun out k=>belowM S d (out++[rowM S k up]) k ((out.length:Int)+1)) out)=tops out:=by
      intro ks
      induction ks with
      | nil=>exact fun out=>rfl
      | cons k ks ih =>
        intro out
        rw [List.foldl_cons,ih,tops_below d _ _ _ (by omega),tops_app,tops_row,if_neg (by omega),Nat.add_zero]
    rw [belowM]
    exact key _ _
theorem tops_top {S:MS} (d:Nat) (h:Nat):tops (belowM S (d+1) [] (h:Int) 0)=(S.kd h).length:=by
  have key:∀ (ks:List Int) (out:List GRow),tops (ks.foldl (fun out k=>belowM S d (out++[rowM S k 0]) k ((out.length:Int)+1)) out)=tops out+ks.length:=by
    intro ks
    induction ks with
    | nil=>exact fun out=>rfl
    | cons k ks ih =>
      intro out
      rw [List.foldl_cons,ih,tops_below d _ _ _ (by omega),tops_app,tops_row,if_pos rfl,List.length_cons]
      omega
  rw [belowM,key,Int.toNat_natCast]
  simp [tops]
theorem tops_rows (S:MS) (R:Nat):tops (rowsM S R)=(S.kd 0).length:=tops_top R 0
theorem tops_take {l:List GRow} {i:Nat} {x:GRow} (hx:l[i]? = some x):tops (l.take (i+1))=tops (l.take i)+if x.up=0 then 1 else 0:=by
 rw [tops,List.take_add_one,hx,List.countP_append,tops]
 simp [List.countP_cons]
theorem tops_le (l:List GRow):tops l≤l.length:=List.countP_le_length
namespace Tryz
theorem attrsLeft_le (l:List Attr):∀ left:Int,attrsLeft l left≤left:=by
  induction l with
  | nil=>exact fun left=>Int.le_refl _
  | cons a l ih =>
    intro left
    have h1:=ih (left - ((a.value.length:Int)+a.name.length).tdiv 4096)
    have h2:0≤((a.value.length:Int)+a.name.length).tdiv 4096:=Int.tdiv_nonneg (by omega) (by omega)
    simp only [attrsLeft]
    omega
theorem fewRowsL_len:∀ (l:List GRow) (left n:Int),fewRowsL l left=some n→n+l.length≤left
  | [],left,n,h=>by simp only [fewRowsL,Option.some.injEq] at h;simp;omega
  | x :: l, left, n, h => by
    rw [fewRowsL] at h
    split at h
    · cases h
    · have h1:=fewRowsL_len l _ n h
      have h2:=attrsLeft_le x.attrs (left - 1 - x.attrs.length - rowCost x)
      have h3:0≤rowCost x:=Int.tdiv_nonneg (by omega) (by omega)
      simp only [List.length_cons]
      omega
theorem fewRows_len {l:List GRow} {m:Int} (h:fewRows l m=true):(l.length:Int)≤m:=by
 unfold fewRows at h
 split at h
 ·rename_i n hn
  have:=fewRowsL_len l m n hn
  simp only [ge_iff_le,decide_eq_true_eq] at h
  omega
 ·cases h
theorem fewOpsL_len:∀ (l:List GOp) (left n:Int),fewOpsL l left=some n→n+l.length≤left
  | [],left,n,h=>by simp only [fewOpsL,Option.some.injEq] at h;simp;omega
  | x :: l, left, n, h => by
    rw [fewOpsL] at h
    split at h
    · cases h
    · have h1:=fewOpsL_len l _ n h
      have h2:=attrsLeft_le x.attrs (left - 1 - x.attrs.length - ((x.text.length:Int)+x.key.length+x.tag.length+x.name.length).tdiv 4096)
      have h3:0≤((x.text.length:Int)+x.key.length+x.tag.length+x.name.length).tdiv 4096:=Int.tdiv_nonneg (by omega) (by omega)
      simp only [List.length_cons]
      omega
theorem fewOps_len {l:List GOp} {m:Int} (h:fewOps l m=true):(l.length:Int)≤m:=by
 unfold fewOps at h
 split at h
 ·rename_i n hn
  have:=fewOpsL_len l m n hn
  simp only [ge_iff_le,decide_eq_true_eq] at h
  omega
 ·cases h
theorem doE_small {S:MS} (h:S.small) {x:GOp} (hx:smallOp x):(doE S x).2.small:=by
 unfold doE;split
 ·exact doM_small h hx
 ·exact h
theorem runM_facts:∀ (L:List GOp) {R:Nat} {S:MS} (hS:S.Ok R) (hs:S.small) (hL:∀ x ∈ L,smallOp x) (i:Nat),(runM S L i).2.2.Ok (bnd R L.length)∧(runM S L i).2.2.small∧(runM S L i).2.2.N≤S.N+L.length
  | [],R,S,hS,hs,hL,i=>⟨hS,hs,by simp [runM]⟩
  | x :: l, R, S, hS, hs, hL, i => by
    have hx:=hL x (by simp)
    obtain ⟨h1,h2,h3⟩:=doE_ok hS x (by have:=hx.1;omega)
    have h4:=doE_small hs hx
    have hb:∀ k,bnd (R+R+1) k=bnd R (k+1):=by
      intro k
      induction k with
      | zero=>rfl
      | succ k ih=>rw [bnd,ih];rfl
    rw [runM]
    split
    · obtain ⟨q1,q2,q3⟩:=runM_facts l h1 h4 (fun y hy=>hL y (by simp [hy])) (i+1)
      rw [hb] at q1
      exact ⟨q1,q2,by simp only [List.length_cons];omega⟩
    · refine ⟨h1.more ?_,h4,by simp only [List.length_cons];omega⟩
      have:=bnd_mono R (show 1≤(x::l).length by simp)
      exact this
end Tryz
end Go.TA


end
section
/- How many operations of a kind a list holds, by the program and by the document's answer. -/
namespace Go.TA
def times (L:List GOp) (k:Int):Nat:=L.countP (fun x=>x.kind==k)
theorem times_le (L:List GOp) (k:Int):times L k≤L.length:=List.countP_le_length
theorem times_take {L:List GOp} {i:Nat} {x:GOp} (hx:L[i]? = some x) (k:Int):times (L.take (i+1)) k=times (L.take i) k+if x.kind=k then 1 else 0:=by
 rw [times,List.take_add_one,hx,List.countP_append,times]
 simp [List.countP_cons]
namespace Tryz
theorem times_run (L:List GOp) (hlen:L.length≤1048576) (k:Int) (g:List AObj) {n:Nat} (hn:L.length<n) :
  acall T (n+1) 92 [.p (.list (L.map GOp.pv)),.p (.int .i64 k)] g=some (.p (.int .i64 (times L k)),g):=by
 have key:=loop_rule' (C:=acall T n) (N:=n) (B:=B92x0) (σ := Nat) (S:=fun i=>⟨[(0,.p (.list (L.map GOp.pv))),(1,.p (.int .i64 k)),(5,.p (.int .i64 (times (L.take i) k))),(8,.p (.int .i64 L.length)),(9,.p (.int .i64 i))],[],[]⟩)
  (I:=fun i=>i≤L.length) (μ := fun i=>L.length - i) (Φ := fun i=>(.exit 0,⟨[(5,.p (.int .i64 (times L k)))],[],[]⟩)) ?_ 0 (by omega) (by omega)
 ·have e0:times (L.take 0) k=0:=rfl
  have ll:(L.map GOp.pv).length=L.length:=by simp
  rw [e0] at key
  simp only [Int.natCast_zero] at key
  rw [acall_code T92,run_pure rfl rfl rfl]
  simp -implicitDefEqProofs (disch:=omega) only [Rx,simprocAttr,F92,ll,key]
 intro i hi
 by_cases h:i<L.length
 ·left
  obtain ⟨x,hx⟩:=get_some h
  have hg:=getD_map (f:=GOp.pv) hx
  have ll:(L.map GOp.pv).length=L.length:=by simp
  have k1:(i:Int)<(L.length:Int):=by omega
  have hle:=times_le (L.take i) k
  rw [List.length_take] at hle
  have ht:=times_take hx k
  refine ⟨i+1, ?_,by omega,by omega,rfl⟩
  rw [ht]
  by_cases e:x.kind=k
  ·have e1:(x.kind==k)=true:=by simpa using e
   rw [if_pos e]
   generalize times (L.take i) k=c at hle
   simp -implicitDefEqProofs (disch:=omega) only [Rx,simprocAttr,B92x0,k1,ll,hg,GOp.pv,e1]
  ·have e1:(x.kind==k)=false:=by simpa using e
   rw [if_neg e]
   generalize times (L.take i) k=c at hle
   simp -implicitDefEqProofs (disch:=omega) only [Rx,simprocAttr,B92x0,k1,ll,hg,GOp.pv,e1,Nat.add_zero]
 ·right
  obtain rfl:i=L.length:=by omega
  have k1:¬ (L.length:Int)<(L.length:Int):=by omega
  refine ⟨?_,by simp⟩
  rw [List.take_length]
  simp -implicitDefEqProofs (disch:=omega) only [Rx,simprocAttr,B92x0,k1]
def countS (L:List GOp) (i:Nat):List (List PV):=[[.int .i64 0,.int .i64 (times (L.take i) 1),.int .i64 (times (L.take i) 2),.int .i64 (times (L.take i) 3),.int .i64 (times (L.take i) 4),.int .i64 (times (L.take i) 5),.int .i64 (times (L.take i) 6),.int .i64 (times (L.take i) 7)]]
def count0:List (List PV):=[[.int .i64 0,.int .i64 0,.int .i64 0,.int .i64 0,.int .i64 0,.int .i64 0,.int .i64 0]]
theorem count_run (L : List GOp) (hlen : L.length ≤ 1048576) (g : List AObj) {n : Nat} (hn : L.length < n) :
    acall T (n+1) 147 [.p (.list (L.map GOp.pv))] g=some (.p (.agg [.int .i64 (times L 1),.int .i64 (times L 2),.int .i64 (times L 3),.int .i64 (times L 4),.int .i64 (times L 5),.int .i64 (times L 6),.int .i64 (times L 7)]),g):=by
  have key:=loop_rule' (C:=acall T n) (N:=n) (B:=B147x0) (σ := Nat) (S:=fun i=>⟨[(2,.ptr false 2 7 1 0 0),(3,.ptr false 3 8 1 0 0),(6,.p (.list (L.map GOp.pv))),(7,.p (.int .i64 L.length)),(8,.p (.int .i64 i))],[(2,.pcells 7 count0),(3,.pcells 8 (countS L i))],[]⟩)
    (I:=fun i=>i≤L.length) (μ := fun i=>L.length - i) (Φ := fun i=>(.exit 0,⟨[(2,.ptr false 2 7 1 0 0),(3,.ptr false 3 8 1 0 0)],[(2,.pcells 7 count0),(3,.pcells 8 (countS L L.length))],[]⟩)) ?_ 0 (by omega) (by omega)
  · have ll:(L.map GOp.pv).length=L.length:=by simp
    simp only [countS,count0,List.take_zero,List.take_length,show ∀ k,times [] k=0 from fun _=>rfl,Int.natCast_zero] at key
    rw [acall_code T147,run_pure rfl rfl rfl]
    simp -implicitDefEqProofs (disch:=omega) only [Rx,simprocAttr,F147,ll,key]
  intro i hi
  by_cases h:i<L.length
  · left
    obtain ⟨x,hx⟩:=get_some h
    have hg:=getD_map (f:=GOp.pv) hx
    have ll:(L.map GOp.pv).length=L.length:=by simp
    have k1:(i:Int)<(L.length:Int):=by omega
    have hle:∀ k,times (L.take i) k≤1048576:=fun k=>by have:=times_le (L.take i) k;rw [List.length_take] at this;omega
    have ht:=times_take hx
    refine ⟨i+1, ?_,by omega,by omega,rfl⟩
    simp only [countS,ht]
    have a1:=hle 1
    have a2:=hle 2
    have a3:=hle 3
    have a4:=hle 4
    have a5:=hle 5
    have a6:=hle 6
    have a7:=hle 7
    generalize times (L.take i) 1=c1 at a1 ⊢
    generalize times (L.take i) 2=c2 at a2 ⊢
    generalize times (L.take i) 3=c3 at a3 ⊢
    generalize times (L.take i) 4=c4 at a4 ⊢
    generalize times (L.take i) 5=c5 at a5 ⊢
    generalize times (L.take i) 6=c6 at a6 ⊢
    generalize times (L.take i) 7=c7 at a7 ⊢
    by_cases hk:0<x.kind∧x.kind<8
    · have:x.kind=1∨x.kind=2∨x.kind=3∨x.kind=4∨x.kind=5∨x.kind=6∨x.kind=7:=by omega
      rcases this with e | e | e | e | e | e | e <;> simp -implicitDefEqProofs (disch:=omega) only [Rx,simprocAttr,B147x0,count0,k1,ll,hg,GOp.pv,e,Nat.add_zero]
    · have n1:∀ k:Int,1≤k→k≤7→(x.kind=k)=False:=fun k h1 h2=>by simp;omega
      simp only [n1 1 (by omega) (by omega),n1 2 (by omega) (by omega),n1 3 (by omega) (by omega),n1 4 (by omega) (by omega),n1 5 (by omega) (by omega),n1 6 (by omega) (by omega),n1 7 (by omega) (by omega),if_false,Nat.add_zero]
      by_cases h0:0<x.kind
      · have h8:¬ x.kind<8:=by omega
        simp -implicitDefEqProofs (disch:=omega) only [Rx,simprocAttr,B147x0,count0,k1,ll,hg,GOp.pv,h0,h8]
      · simp -implicitDefEqProofs (disch:=omega) only [Rx,simprocAttr,B147x0,count0,k1,ll,hg,GOp.pv,h0]
  · right
    obtain rfl:i=L.length:=by omega
    have k1:¬ (L.length:Int)<(L.length:Int):=by omega
    refine ⟨?_,by simp⟩
    simp -implicitDefEqProofs (disch:=omega) only [Rx,simprocAttr,B147x0,k1]
end Tryz
end Go.TA


end
section
/- What is wrong with rows: the document's answer. -/
namespace Go.TA.Tryz
def twinB (x y:GRow):Bool:=(y.up==x.up) && (y.key==x.key)
def dupB (l:List GRow) (i:Nat) (x:GRow):Bool := !(x.key==[]) && (l.take i).any (twinB x)
def rowErr (l:List GRow) (i:Nat) (x:GRow):Int:=if i=4096 then 12 else if 64<(chain l (i+1)).length then 11 else if aloneErr x=0 then (if dupB l i x=true then 10 else 0) else aloneErr x
def errFrom (l:List GRow):Nat→List GRow→Int
 | _,[]=>0
 | i,x::r=>if rowErr l i x=0 then errFrom l (i+1) r else rowErr l i x
def check13 (l:List GRow):Int:=if formedB l=true then errFrom l 0 l else 2
def dupOut (l:List GRow) (i:Nat) (r:Bool):Ex × St:=if r=true then (.ret,⟨[(2,.p (.int .i64 10))],[],[]⟩) else (.exit 2,⟨[(0,.p (.list (l.map GRow.pv))),(10,.p (.int .i64 l.length)),(11,.p (.int .i64 i))],[],[]⟩)
theorem dup_loop {n N : Nat} (l : List GRow) (i : Nat) (x : GRow) (hx : l[i]? = some x) (hl : l.length ≤ 1048576) (hN : l.length < N) :
    aexec (acall T n) N (.loop B13x1) ⟨[(0,.p (.list (l.map GRow.pv))),(3,.p (.int .i64 i)),(10,.p (.int .i64 l.length)),(11,.p (.int .i64 i)),(46,.p (.int .i64 i)),(47,.p (.int .i64 ((0:Nat):Int)))],[],[]⟩=some (dupOut l i (dupB l i x)):=by
  have hlt:i<l.length:=(List.getElem?_eq_some_iff.1 hx).1
  have hg:=getD_map (f:=GRow.pv) hx
  have:=loop_rule' (C:=acall T n) (N:=N) (B:=B13x1) (σ := Nat) (S:=fun k=>⟨[(0,.p (.list (l.map GRow.pv))),(3,.p (.int .i64 i)),(10,.p (.int .i64 l.length)),(11,.p (.int .i64 i)),(46,.p (.int .i64 i)),(47,.p (.int .i64 k))],[],[]⟩) (I:=fun k=>k≤i) (μ := fun k=>i - k)
    (Φ := fun k=>dupOut l i (!(x.key==[]) && ((l.take i).drop k).any (twinB x))) ?_ 0 (by omega) (by omega)
  · simpa [dupB] using this
  intro k hk
  by_cases h:k<i
  · have k1 : (k : Int) < (i : Int) := by omega
    have k2:(i:Int)<(l.length:Int):=by omega
    have k3:(k:Int)<(l.length:Int):=by omega
    obtain ⟨y,hy⟩:=get_some (show k<l.length by omega)
    have hgy:=getD_map (f:=GRow.pv) hy
    have hd:(l.take i).drop k=y::(l.take i).drop (k+1):=by
      rw [List.drop_eq_getElem?_toList_append,List.getElem?_take,if_pos h,hy];rfl
    have next:(!(x.key==[]) && twinB x y)=false→dupOut l i (!(x.key==[]) && ((l.take i).drop k).any (twinB x))=dupOut l i (!(x.key==[]) && ((l.take i).drop (k+1)).any (twinB x)):=fun h=>by
      rw [hd,List.any_cons,Bool.and_or_distrib_left,h,Bool.false_or]
    cases hk0:(x.key==[]) with
    | true =>
      refine .inl ⟨k+1, ?_,by omega,by omega,by rw [hk0] at next;exact next rfl⟩
      simp -implicitDefEqProofs (disch:=omega) only [Rx,simprocAttr,B13x1,k1,k2,hg,GRow.pv,hk0]
    | false =>
      cases hu:(y.up==x.up) with
      | false =>
        refine .inl ⟨k+1, ?_,by omega,by omega,by rw [hk0] at next;exact next (by simp [twinB,hu])⟩
        simp -implicitDefEqProofs (disch:=omega) only [Rx,simprocAttr,B13x1,k1,k2,k3,hg,hgy,GRow.pv,hk0,hu]
      | true =>
        cases hke:(y.key==x.key) with
        | false =>
          refine .inl ⟨k+1, ?_,by omega,by omega,by rw [hk0] at next;exact next (by simp [twinB,hke])⟩
          simp -implicitDefEqProofs (disch:=omega) only [Rx,simprocAttr,B13x1,k1,k2,k3,hg,hgy,GRow.pv,hk0,hu,hke]
        | true =>
          have e:dupOut l i (!false && ((l.take i).drop k).any (twinB x))=(.ret,⟨[(2,.p (.int .i64 10))],[],[]⟩):=by
            rw [hd,List.any_cons];simp [twinB,hu,hke,dupOut]
          refine .inr ?_
          rw [e]
          refine ⟨?_,by simp⟩
          simp -implicitDefEqProofs (disch:=omega) only [Rx,simprocAttr,B13x1,k1,k2,k3,hg,hgy,GRow.pv,hk0,hu,hke]
  · have k1:¬ (k:Int)<(i:Int):=by omega
    have e:(l.take i).drop k=[]:=List.drop_eq_nil_of_le (by rw [List.length_take];omega)
    refine .inr ?_
    rw [e,List.any_nil,Bool.and_false]
    have e2:dupOut l i false=(.exit 2,⟨[(0,.p (.list (l.map GRow.pv))),(10,.p (.int .i64 l.length)),(11,.p (.int .i64 i))],[],[]⟩):=by simp [dupOut]
    rw [e2]
    refine ⟨?_,by simp⟩
    simp -implicitDefEqProofs (disch:=omega) only [Rx,simprocAttr,B13x1,k1]
def errOut (r:Int):Ex × St:=if r=0 then (.exit 0,⟨[],[],[]⟩) else (.ret,⟨[(2,.p (.int .i64 r))],[],[]⟩)
theorem err_loop {n N m:Nat} (l:List GRow) (hl:Rows.mid m l) (hm:m≤1048577) (hs:standTo l l.length) (hN:m≤N) (hn:1048577≤n) :
    aexec (acall T (n+37)) N (.loop B13x0) ⟨[(0,.p (.list (l.map GRow.pv))),(10,.p (.int .i64 l.length)),(11,.p (.int .i64 ((0:Nat):Int)))],[],[]⟩=some (errOut (errFrom l 0 l)):=by
  have hlen:=hl.len
  have:=loop_rule' (C:=acall T (n+37)) (N:=N) (B:=B13x0) (σ := Nat) (S:=fun i=>⟨[(0,.p (.list (l.map GRow.pv))),(10,.p (.int .i64 l.length)),(11,.p (.int .i64 i))],[],[]⟩) (I:=fun i=>i≤l.length∧i≤4096) (μ := fun i=>l.length - i)
    (Φ := fun i=>errOut (errFrom l i (l.drop i))) ?_ 0 ⟨by omega,by omega⟩ (by omega)
  · simpa using this
  rintro i ⟨hi,hi4⟩
  by_cases h:i<l.length
  · have k1:(i:Int)<(l.length:Int):=by omega
    obtain ⟨x,hx⟩:=get_some h
    have hg:=getD_map (f:=GRow.pv) hx
    have hsm:=hl.row x (List.mem_of_getElem? hx)
    have hd:l.drop i=x::l.drop (i+1):=by rw [List.drop_eq_getElem?_toList_append,hx];rfl
    rw [hd]
    have bad:∀ e:Int,rowErr l i x=e→e≠0→errOut (errFrom l i (x::l.drop (i+1)))=(.ret,⟨[(2,.p (.int .i64 e))],[],[]⟩):=fun e h1 h2=>by
      simp only [errFrom,h1,if_neg h2,errOut]
    by_cases h4:i=4096
    · refine .inr ?_
      rw [bad 12 (by simp [rowErr,h4]) (by decide)]
      refine ⟨?_,by simp⟩
      have k2:((i:Int)==4096)=true:=by simp;omega
      simp -implicitDefEqProofs (disch:=omega) only [Rx,simprocAttr,B13x0,k1,k2]
    have k2:((i:Int)==4096)=false:=by simp;omega
    have hdep:=depth_run (n:=n+36) l (i+1) (hs.mono (by omega)) (by omega) (by omega) [] (by omega)
    simp only [Int.natCast_add,Int.natCast_one] at hdep
    by_cases h64:64<(chain l (i+1)).length
    · refine .inr ?_
      rw [bad 11 (by simp [rowErr,h4,h64]) (by decide)]
      refine ⟨?_,by simp⟩
      have k3:(64:Int)<((chain l (i+1)).length:Int):=by omega
      simp -implicitDefEqProofs (disch:=omega) only [Rx,simprocAttr,B13x0,k1,k2,hdep,k3]
    have k3:¬ (64:Int)<((chain l (i+1)).length:Int):=by omega
    have hal:=alone_run (n:=n) x [] hsm.small [] (by have:=hsm.attrs;omega) (by omega)
    simp only [nodeCells] at hal
    by_cases ha:aloneErr x=0
    rotate_left
    · refine .inr ?_
      rw [bad (aloneErr x) (by simp [rowErr,h4,h64,ha]) ha]
      refine ⟨?_,by simp⟩
      have ha':(aloneErr x==0)=false:=by simpa using ha
      simp -implicitDefEqProofs (disch:=omega) only [Rx,simprocAttr,B13x0,k1,k2,hdep,k3,hg,GRow.pv,attrsPV,hal,ha']
    have hdl:=dup_loop (n:=n+37) (N:=N) l i x hx (by omega) (by omega)
    simp only [Int.natCast_zero] at hdl
    rw [ha] at hal
    cases hdup:dupB l i x with
    | true =>
      refine .inr ?_
      rw [bad 10 (by simp [rowErr,h4,h64,ha,hdup]) (by decide)]
      refine ⟨?_,by simp⟩
      rw [hdup] at hdl
      simp only [dupOut,if_true] at hdl
      simp -implicitDefEqProofs (disch:=omega) only [Rx,simprocAttr,B13x0,k1,k2,hdep,k3,hg,GRow.pv,attrsPV,hal,hdl]
    | false =>
      have e:rowErr l i x=0:=by simp [rowErr,h4,h64,ha,hdup]
      refine .inl ⟨i+1, ?_,⟨by omega,by omega⟩,by omega,by simp only [errFrom,e,if_true]⟩
      rw [hdup] at hdl
      simp only [dupOut,Bool.false_eq_true,if_false] at hdl
      simp -implicitDefEqProofs (disch:=omega) only [Rx,simprocAttr,B13x0,k1,k2,hdep,k3,hg,GRow.pv,attrsPV,hal,hdl]
  · have k1:¬ (i:Int)<(l.length:Int):=by omega
    have e:l.drop i=[]:=List.drop_eq_nil_of_le (by omega)
    refine .inr ⟨?_,by rw [e];simp [errFrom,errOut]⟩
    rw [e]
    simp -implicitDefEqProofs (disch:=omega) only [Rx,simprocAttr,B13x0,k1,errFrom,errOut]
theorem check13_mid (l:List GRow) {m n:Nat} (hl:Rows.mid m l) (hm:m≤1048577) (hn:1048577≤n) (g:List AObj):acall T (n+38) 13 [.p (.list (l.map GRow.pv))] g=some (.p (.int .i64 (check13 l)),g):=by
  rw [acall_code T13,run_pure rfl rfl rfl]
  have hlen:=hl.len
  have hf:=form13_run (n:=n+35) l (by omega) [] (by omega)
  cases hb:formedB l with
  | false =>
    rw [hb] at hf
    have e:check13 l=2:=by simp [check13,hb]
    rw [e]
    simp -implicitDefEqProofs (disch:=omega) only [Rx,simprocAttr,F13,hf]
  | true =>
    rw [hb] at hf
    have hloop:=err_loop (n:=n) (N:=n+37) (m:=m) l hl hm (formed_stands hb) (by omega) hn
    simp only [Int.natCast_zero] at hloop
    have e:check13 l=errFrom l 0 l:=by simp [check13,hb]
    rw [e]
    by_cases h0:errFrom l 0 l=0
    · rw [h0] at hloop ⊢
      simp only [errOut,if_true] at hloop
      simp -implicitDefEqProofs (disch:=omega) only [Rx,simprocAttr,F13,hf,hloop]
    · simp only [errOut,if_neg h0] at hloop
      simp -implicitDefEqProofs (disch:=omega) only [Rx,simprocAttr,F13,hf,hloop]
end Go.TA.Tryz


end
section
/- The program's look at the tree of rows that are right. -/
namespace Go.TA.Tryz
def allOk (l:List GRow):Prop:=∀ (i:Nat) x,l[i]? = some x→rowErr l i x=0
theorem errFrom_ok {l:List GRow}:∀ {i:Nat},errFrom l i (l.drop i)=0→∀ (j:Nat) x,i≤j→l[j]? = some x→rowErr l j x=0:=by
  intro i h j x hij hj
  obtain ⟨d,rfl⟩:∃ d,j=i+d:=⟨j - i,by omega⟩
  induction d generalizing i with
  | zero =>
    have e:l.drop i=x::l.drop (i+1):=by rw [List.drop_eq_getElem?_toList_append];simp at hj;rw [hj];rfl
    rw [e] at h
    simp only [errFrom] at h
    by_cases h0:rowErr l i x=0
    · simpa using h0
    · rw [if_neg h0] at h;exact absurd h h0
  | succ d ih =>
    have hlt:i<l.length:=by
      have:=(List.getElem?_eq_some_iff.1 hj).1
      omega
    obtain ⟨y,hy⟩:=get_some hlt
    have e:l.drop i=y::l.drop (i+1):=by rw [List.drop_eq_getElem?_toList_append,hy];rfl
    rw [e] at h
    simp only [errFrom] at h
    have h0:rowErr l i y=0:=by
      by_cases h0:rowErr l i y=0
      · exact h0
      · rw [if_neg h0] at h;exact absurd h h0
    rw [if_pos h0] at h
    have:=ih h (by omega) (by rw [← hj];congr 1;omega)
    rw [show i+(d+1)=i+1+d by omega]
    exact this
theorem check13_ok {l:List GRow} (h:check13 l=0):formedB l=true∧allOk l:=by
 unfold check13 at h
 split at h
 ·rename_i hf
  exact ⟨hf,fun i x hx=>errFrom_ok (i:=0) (by simpa using h) i x (by omega) hx⟩
 ·omega
theorem rowErr_ok {l : List GRow} {i : Nat} {x : GRow} (h : rowErr l i x = 0) : i ≠ 4096 ∧ (chain l (i + 1)).length ≤ 64 ∧ aloneErr x = 0 ∧ dupB l i x = false := by
  unfold rowErr at h
  split at h
  · omega
  · rename_i h1
    split at h
    · omega
    · rename_i h2
      split at h
      · rename_i h3
        split at h
        · omega
        · rename_i h4
          exact ⟨h1,by omega,h3,by simpa using h4⟩
      · rename_i h3
        exact absurd h h3
def KOk (l:List GRow) (u:Int) (b:Nat) (es:List (PV × AV)):Prop:=∀ e ∈ es,∃ k:Bs,e.1 = .str k∧k≠[]∧∃ (j:Nat) (y:GRow),j<b∧l[j]? = some y∧y.up=u∧y.key=k
theorem KOk.mono {l:List GRow} {u:Int} {b b':Nat} {es:List (PV × AV)} (h:KOk l u b es) (hb:b≤b'):KOk l u b' es:=fun e he=>by
 obtain ⟨k,h1,h2,j,y,h3,h4⟩:=h e he
 exact ⟨k,h1,h2,j,y,by omega,h4⟩
theorem KOk.strs {l:List GRow} {u:Int} {b:Nat} {es:List (PV × AV)} (h:KOk l u b es) (k:Bs):(es.all fun e=>(scalarEqK 2 e.1 (.str k)).isSome)=true:=by
 rw [List.all_eq_true]
 intro e he
 obtain ⟨k',h1,_⟩:=h e he
 rw [h1];rfl
theorem KOk.none {l:List GRow} {x:GRow} {b:Nat} {es:List (PV × AV)} (h:KOk l x.up b es) (hd:dupB l b x=false):mlk 2 es (.str x.key)=none:=by
  have key:∀ e ∈ es,scalarEqK 2 e.1 (.str x.key)≠some true:=by
    intro e he hc
    obtain ⟨k,h1,h2,j,y,h3,h4,h5,h6⟩:=h e he
    rw [h1] at hc
    have hk:k=x.key:=by simpa [scalarEqK] using hc
    have:dupB l b x=true:=by
      simp only [dupB,Bool.and_eq_true,Bool.not_eq_true',List.any_eq_true]
      refine ⟨by rw [← hk];simpa using h2,y, ?_,by simp [twinB,h5,h6,hk]⟩
      rw [List.mem_iff_getElem?]
      exact ⟨j,by rw [List.getElem?_take,if_pos h3];exact h4⟩
    rw [this] at hd
    cases hd
  induction es with
  | nil=>rfl
  | cons e es ih =>
    obtain ⟨a,v⟩:=e
    simp only [mlk]
    rw [if_neg (key (a,v) (by simp))]
    exact ih (fun e he=>h e (by simp [he])) (fun e he=>key e (by simp [he]))
theorem mput_none {es:List (PV × AV)} {k:PV} {v:AV} (h:mlk 2 es k=none):mput 2 es k v=es++[(k,v)]:=by
  induction es with
  | nil=>rfl
  | cons e es ih =>
    obtain ⟨a,w⟩:=e
    simp only [mlk,mput] at h ⊢
    by_cases hc:scalarEqK 2 a k=some true
    · rw [if_pos hc] at h;cases h
    · rw [if_neg hc] at h
      rw [if_neg hc,ih h];rfl
theorem KOk.more {l:List GRow} {x:GRow} {b:Nat} {es:List (PV × AV)} (h:KOk l x.up b es) (hx:l[b]? = some x) (hk:x.key≠[]) (v:AV):KOk l x.up (b+1) (es++[(.str x.key,v)]):=by
 intro e he
 rcases List.mem_append.1 he with he | he
 ·exact (h.mono (by omega)) e he
 ·simp only [List.mem_singleton] at he
  subst he
  exact ⟨x.key,rfl,hk,b,x,by omega,hx,rfl,rfl⟩
def LK (m:Nat) (deep:Int):AObj:=.pcells 3 [[.int .i64 m,.int .i64 deep,.int .i64 0]]
def VK:AObj:=.cells 1 [[.func 215 [.ptr true 0 3 1 0 0,.ptr true 1 1 1 0 0]]]
def pL:AV:=.ptr true 0 3 1 0 0
def pV:AV:=.ptr true 1 1 1 0 0
def Seen (l:List GRow) (u:Int) (b:Nat) (j:Nat) (ms:List AObj) (r:AV × List AObj):Prop :=
 ∃ deep ms' es,r=(.p (.bool true),LK b deep::VK::ms')∧ms.length≤ms'.length∧ms'[j]? = some (.map es)∧KOk l u b es∧∀ j',j'<ms.length→j'≠j→ms'[j']? = ms[j']?
def visS (d:Int) (ks:List (List PV)) (jb i m:Nat) (deep:Int) (ms:List AObj):St:=⟨[(1,.p (.int .i64 d)),(4,.ptr true 1 1 1 0 0),(11,.map true (jb+1+1)),(61,.p (.list ks)),(62,.p (.int .i64 ks.length)),(63,.p (.int .i64 i))],[],LK m deep::VK::ms⟩
end Go.TA.Tryz


end
section
/- The program's look at the tree of any rows that stand as a tree's do: what is wrong first. -/
namespace Go.TA.Tryz
theorem chain_len {l:List GRow} (hs:standTo l l.length):∀ (d x:Nat),x≤d→x≤l.length→(chain l x).length≤x
  | 0, x, h, _ => by
    obtain rfl:x=0:=by omega
    simp [chain_zero]
  | d + 1, x, h, hx => by
    cases x with
    | zero=>simp [chain_zero]
    | succ x =>
      have hlt:x<l.length:=by omega
      have hu:=upAt_le hs hlt hlt
      rw [chain_succ hs (Nat.le_refl _) hlt,List.length_cons]
      have:=chain_len hs d (upAt l (x+1)) (by omega) (by omega)
      omega
def errR (l:List GRow) (a b:Nat):Int:=errFrom l a ((l.take b).drop a)
theorem errR_self (l:List GRow) (a:Nat):errR l a a=0:=by
 have:(l.take a).drop a=[]:=List.drop_eq_nil_of_le (by rw [List.length_take];omega)
 rw [errR,this];rfl
theorem errR_cons {l:List GRow} {a b:Nat} {x:GRow} (hx:l[a]? = some x) (hab:a<b):errR l a b=if rowErr l a x=0 then errR l (a+1) b else rowErr l a x:=by
 have h1:(l.take b)[a]? = some x:=by rw [List.getElem?_take,if_pos hab];exact hx
 have:(l.take b).drop a=x::(l.take b).drop (a+1):=by rw [List.drop_eq_getElem?_toList_append,h1];rfl
 rw [errR,this];rfl
theorem errR_split {l:List GRow}:∀ (d:Nat) {a m b:Nat},m=a+d→m≤b→b≤l.length→errR l a b=if errR l a m=0 then errR l m b else errR l a m
  | 0, a, m, b, hm, hb, hl => by
    obtain rfl:m=a:=by omega
    rw [errR_self,if_pos rfl]
  | d + 1, a, m, b, hm, hb, hl => by
    obtain ⟨x,hx⟩:=get_some (show a<l.length by omega)
    rw [errR_cons hx (show a<b by omega),errR_cons hx (show a<m by omega)]
    by_cases h:rowErr l a x=0
    · rw [if_pos h,if_pos h]
      exact errR_split d (by omega) hb hl
    · rw [if_neg h,if_neg h,if_neg h]
theorem errR_all {l:List GRow}:errR l 0 l.length=errFrom l 0 l:=by rw [errR,List.take_length,List.drop_zero]
mutual
theorem BT.inner {l:List GRow} {a b:Nat} {p:List PV}:BT l a b p→∀ (j:Nat) y,a<j→j<b→l[j]? = some y→(a:Int)+1≤y.up
 | .mk hx h=>BTs.inner h (List.getElem?_eq_some_iff.1 hx).1
theorem BTs.inner {l : List GRow} {a b : Nat} {ks : List (List PV)} : BTs l a b ks → a < l.length → ∀ (j : Nat) y, a < j → j < b → l[j]? = some y → (a : Int) + 1 ≤ y.up
  | .nil,ha=>fun j y h1 h2=>by omega
  | .snoc (m := m) h hy hu h2, ha => fun j y h1 h3 hj => by
    have hm:=(BTs.lt h ha).1
    by_cases e:j<m
    · exact BTs.inner h ha j y h1 e hj
    · by_cases e2:j=m
      · subst e2
        rw [hy] at hj
        cases hj
        omega
      · have:=BT.inner h2 j y (by omega) h3 hj
        omega
end
structure KAll (l:List GRow) (u:Int) (b:Nat) (es:List (PV × AV)):Prop where
 ok:KOk l u b es
 vals:∀ e ∈ es,e.2 = .p (.agg [])
 all:∀ (j:Nat) (y:GRow),j<b→l[j]? = some y→y.up=u→y.key≠[]→∃ v,(PV.str y.key,v) ∈ es
theorem KAll.get {l:List GRow} {u:Int} {b:Nat} {es:List (PV × AV)} (h:KAll l u b es) (k:PV):(mlk 2 es k).getD (.p (.agg [])) = .p (.agg []):=by
  have hv:=h.vals
  clear h
  induction es with
  | nil=>rfl
  | cons e es ih =>
    obtain ⟨a,v⟩:=e
    simp only [mlk]
    split
    · simpa using hv (a,v) (by simp)
    · exact ih (fun e he=>hv e (by simp [he]))
theorem mlk_mem {es : List (PV × AV)} {k : Bs} {v : AV} (hs : ∀ e ∈ es, ∃ s, e.1 = PV.str s) (h : (PV.str k, v) ∈ es) : (mlk 2 es (.str k)).isSome = true := by
  induction es with
  | nil=>simp at h
  | cons e es ih =>
    obtain ⟨a,w⟩:=e
    simp only [mlk]
    split
    · rfl
    · rename_i hne
      rcases List.mem_cons.1 h with h1 | h1
      · cases h1
        exact absurd (by simp [scalarEqK]) hne
      · exact ih (fun e he=>hs e (by simp [he])) h1
theorem KAll.dup {l:List GRow} {x:GRow} {b:Nat} {es:List (PV × AV)} (h:KAll l x.up b es) (hd:dupB l b x=true):(mlk 2 es (.str x.key)).isSome=true:=by
 simp only [dupB,Bool.and_eq_true,Bool.not_eq_true',List.any_eq_true] at hd
 obtain ⟨hk,y,hy,ht⟩:=hd
 simp only [twinB,Bool.and_eq_true,beq_iff_eq] at ht
 obtain ⟨j,hj⟩:=List.mem_iff_getElem?.1 hy
 rw [List.getElem?_take] at hj
 split at hj
 ·rename_i hjb
  obtain ⟨v,hv⟩:=h.all j y hjb hj ht.1 (by rw [ht.2];simpa using hk)
  rw [ht.2] at hv
  exact mlk_mem (fun e he=>by obtain ⟨k,h1,_⟩:=h.ok e he;exact ⟨k,h1⟩) hv
 ·cases hj
theorem KAll.same {l:List GRow} {u:Int} {b b':Nat} {es:List (PV × AV)} (h:KAll l u b es) (hb:b≤b') (hn:∀ (j:Nat) (y:GRow),b≤j→j<b'→l[j]? = some y→y.up≠u):KAll l u b' es where
 ok:=h.ok.mono hb
 vals:=h.vals
 all j y hj hy hu hk:=by
  by_cases e:j<b
  ·exact h.all j y e hy hu hk
  ·exact absurd hu (hn j y (by omega) hj hy)
theorem KAll.met {l : List GRow} {x : GRow} {b : Nat} {es : List (PV × AV)} (h : KAll l x.up b es) (hx : l[b]? = some x) : KAll l x.up (b + 1) (if x.key = [] then es else es ++ [(.str x.key, .p (.agg []))]) := by
  split
  · rename_i hk
    refine ⟨h.ok.mono (by omega),h.vals,fun j y hj hy hu hk2 => ?_⟩
    by_cases e:j<b
    · exact h.all j y e hy hu hk2
    · obtain rfl:j=b:=by omega
      rw [hx] at hy
      cases hy
      exact absurd hk hk2
  · rename_i hk
    refine ⟨h.ok.more hx hk _,fun e he => ?_,fun j y hj hy hu hk2 => ?_⟩
    · rcases List.mem_append.1 he with h1 | h1
      · exact h.vals e h1
      · simp only [List.mem_singleton] at h1
        subst h1;rfl
    · by_cases e:j<b
      · obtain ⟨v,hv⟩:=h.all j y e hy hu hk2
        exact ⟨v,List.mem_append.2 (.inl hv)⟩
      · obtain rfl:j=b:=by omega
        rw [hx] at hy
        cases hy
        exact ⟨.p (.agg []),List.mem_append.2 (.inr (by simp))⟩
def LKE (m deep e:Int):AObj:=.pcells 3 [[.int .i64 m,.int .i64 deep,.int .i64 e]]
def SeenE (l:List GRow) (u:Int) (a b:Nat) (j:Nat) (ms:List AObj) (r:AV × List AObj):Prop :=
 (errR l a b=0∧∃ deep ms' es,r=(.p (.bool true),LK b deep::VK::ms')∧ms.length≤ms'.length∧ms'[j]? = some (.map es)∧KAll l u b es∧∀ j',j'<ms.length→j'≠j→ms'[j']? = ms[j']?)
 ∨ (errR l a b≠0∧∃ m deep ms',r=(.p (.bool false),LKE m deep (errR l a b)::VK::ms'))
theorem visE_loop {n N:Nat} (l:List GRow) (a b:Nat) (d:Int) (ks:List (List PV)) (hbt:BTs l a b ks) (hl:l.length≤1048576) (hs:standTo l l.length) (ha:a<l.length) (hd : -1000000≤d∧d≤1000000) (hN:ks.length<N) (ms0:List AObj) (deep0:Int)
    (ih:∀ m m' k es j deep ms,BT l m m' k→(∃ y,l[m]? = some y∧y.up=(a:Int)+1)→a<m→m'≤b→ms[j]? = some (.map es)→KAll l ((a:Int)+1) m es →
      ∃ r,acall T n 215 [.p (.agg k),.p (.int .i64 (d+1)),.map true (j+1+1),pL,pV] (LK m deep::VK::ms)=some r∧SeenE l ((a:Int)+1) m m' j ms r) :
    ∃ r, aexec (acall T n) N (.loop B215x0) (visS d ks ms0.length 0 (a + 1) deep0 (ms0 ++ [.map []])) = some r ∧ ((errR l (a + 1) b = 0 ∧ ∃ deep ms', r = (.exit 1, ⟨[], [], LK b deep :: VK :: ms'⟩) ∧ ms0.length ≤ ms'.length ∧ ∀ j', j' < ms0.length → ms'[j']? = ms0[j']?)
      ∨ (errR l (a+1) b≠0∧∃ m deep ms',r=(.ret,⟨[(8,.p (.bool false))],[],LKE m deep (errR l (a+1) b)::VK::ms'⟩))):=by
  have hbl:=hbt.lt ha
  refine loop_inv (σ := Nat × Nat × Int × List AObj) (S:=fun s=>visS d ks ms0.length s.1 s.2.1 s.2.2.1 s.2.2.2)
    (I:=fun s=>s.1≤ks.length∧BTs l a s.2.1 (ks.take s.1)∧ms0.length<s.2.2.2.length∧(∀ j',j'<ms0.length→s.2.2.2[j']? = ms0[j']?)∧errR l (a+1) s.2.1=0∧∃ es,s.2.2.2[ms0.length]? = some (.map es)∧KAll l ((a:Int)+1) s.2.1 es) (μ := fun s=>ks.length - s.1)
    (Q:=fun r=>(errR l (a+1) b=0∧∃ deep ms',r=(.exit 1,⟨[],[],LK b deep::VK::ms'⟩)∧ms0.length≤ms'.length∧∀ j',j'<ms0.length→ms'[j']? = ms0[j']?)
      ∨ (errR l (a+1) b≠0∧∃ m deep ms',r=(.ret,⟨[(8,.p (.bool false))],[],LKE m deep (errR l (a+1) b)::VK::ms'⟩))) ?_ (0,a+1,deep0,ms0++[.map []]) ⟨by omega,by simpa using BTs.nil,by simp,fun j' hj=>by simp [List.getElem?_append_left hj],errR_self l (a+1),[],by simp,⟨fun e he=>by simp at he,fun e he=>by simp at he,fun j y hj hy hu _=>by
      have:=hs j y (List.getElem?_eq_some_iff.1 hy).1 hy
      have hj:j<a+1:=hj
      omega⟩⟩ (by simp only;omega)
  rintro ⟨i,m,deep,ms⟩ ⟨h1,h2,h3,h4,h7,es,h5,h6⟩
  simp only at h1 h2 h3 h4 h5 h6 h7 ⊢
  by_cases hi:i<ks.length
  · obtain ⟨k,hk⟩:=get_some hi
    obtain ⟨q,q',y,p1,p2,p3,p4,p5,hle⟩:=hbt.at i k hk
    have hq:q=m:=p1.uniq h2 rfl
    subst hq
    have hlt:=(BTs.lt h2 ha)
    have hlt4:=p4.lt
    obtain ⟨r,hr,hse⟩:=ih q q' k es ms0.length deep ms p4 ⟨y,p2,p3⟩ (by omega) hle h5 h6
    have hg:ks.getD i []=k:=by rw [List.getD_eq_getElem?_getD,hk];rfl
    have hkl:=p4.len
    obtain ⟨c1,c2,c3,c4,c5,rfl⟩:∃ c1 c2 c3 c4 c5,k=[c1,c2,c3,c4,c5]:=by
      match k,hkl with
      | [c1,c2,c3,c4,c5],_=>exact ⟨c1,c2,c3,c4,c5,rfl⟩
    have k1:(i:Int)<(ks.length:Int):=by omega
    have k9:(i:Int)≤1048576:=by omega
    have hsp:=errR_split (l:=l) (q' - (a+1)) (a:=a+1) (m:=q') (b:=b) (by omega) hle (by omega)
    have hsq:=errR_split (l:=l) (q - (a+1)) (a:=a+1) (m:=q) (b:=q') (by omega) (by omega) (by omega)
    rw [h7,if_pos rfl] at hsq
    rcases hse with ⟨he0,deep',ms',es',rfl,s1,s2,s3,s4⟩ | ⟨he0,m',deep',ms',rfl⟩
    · left
      refine ⟨(i+1,q',deep',ms'), ?_,⟨by omega,p5,by simp only;omega,fun j' hj=>by simp only;rw [s4 j' (by omega) (by omega)];exact h4 j' hj,by simp only;rw [hsq];exact he0,es',s2,s3⟩,by simp only;omega⟩
      simp only [LK,VK,pL,pV] at hr
      simp only [visS,LK,VK]
      simp -implicitDefEqProofs (disch:=omega) only [Rx,simprocAttr,B215x0,k1,hg,hr]
    · right
      have hne:errR l (a+1) q'≠0:=by rw [hsq];exact he0
      have hb:errR l (a+1) b=errR l q q':=by rw [hsp,if_neg hne,hsq]
      refine ⟨(.ret,⟨[(8,.p (.bool false))],[],LKE m' deep' (errR l q q')::VK::ms'⟩), ?_,by simp,.inr ⟨by rw [hb];exact he0,m',deep',ms',by rw [hb]⟩⟩
      generalize errR l q q'=e at hr
      simp only [LK,LKE,VK,pL,pV] at hr ⊢
      simp only [visS,LK,VK]
      simp -implicitDefEqProofs (disch:=omega) only [Rx,simprocAttr,B215x0,k1,hg,hr]
  · right
    obtain rfl:i=ks.length:=by omega
    rw [List.take_length] at h2
    have hm:m=b:=h2.uniq hbt rfl
    subst hm
    have k1:¬ (ks.length:Int)<(ks.length:Int):=by omega
    refine ⟨(.exit 1,⟨[],[],LK m deep::VK::ms⟩), ?_,by simp,.inl ⟨h7,deep,ms,rfl,by omega,h4⟩⟩
    simp only [visS,LK,VK]
    simp -implicitDefEqProofs (disch:=omega) only [Rx,simprocAttr,B215x0,k1]
theorem visE_run (l : List GRow) (hl : l.length ≤ 1048576) (hs : standTo l l.length) (hal : ∀ x ∈ l, x.attrs.length ≤ 1048577) : ∀ (D n a b : Nat) (p : List PV) (x : GRow) (es : List (PV × AV)) (j : Nat) (deep : Int) (ms : List AObj), b - a ≤ D → 1048577 < n → BT l a b p → l[a]? = some x → ms[j]? = some (.map es) → KAll l x.up a es →
    ∃ r,acall T (n+D+39) 215 [.p (.agg p),.p (.int .i64 (chain l (a+1)).length),.map true (j+1+1),pL,pV] (LK a deep::VK::ms)=some r∧SeenE l x.up a b j ms r:=by
  intro D
  induction D with
  | zero =>
    intro n a b p x es j deep ms hD hn hbt
    have:=hbt.lt
    omega
  | succ D ih =>
    intro n a b p x es j deep ms hD hn hbt hx hj hes
    have hlt:=hbt.lt
    have hinner:=hbt.inner
    cases hbt with
    | mk hx' hks=>
    rename_i x' ks
    rw [hx] at hx'
    cases hx'
    have ha:a<l.length:=by omega
    have hec:=errR_cons hx (show a<b by omega)
    have hgd:=hes.get (.str x.key)
    have hst:=hes.ok.strs x.key
    have hw:=wrong_run (n:=n+D+1) x ks [] (by have:=hal x (List.mem_of_getElem? hx);omega)
    rw [show n+D+1+38=n+D+39 by omega] at hw
    simp only [nodeCells] at hw
    have hjl:j<ms.length:=(List.getElem?_eq_some_iff.1 hj).1
    have hcl:(chain l (a+1)).length≤1048576:=by
      have:=chain_len hs (a+1) (a+1) (Nat.le_refl _) (show a+1≤l.length by omega)
      omega
    rw [show n+(D+1)+39=n+D+39+1 by omega,acall_code T215,run_code rfl rfl]
    generalize hcn:(chain l (a+1)).length=cn at hcl
    by_cases hre:rowErr l a x=0
    rotate_left
    · rw [if_neg hre] at hec
      refine ⟨(.p (.bool false),LKE a (if (cn:Int) > deep then (cn:Int) else deep) (errR l a b)::VK::ms), ?_,.inr ⟨by rw [hec];exact hre,_,_,_,rfl⟩⟩
      rw [hec]
      unfold rowErr at hre ⊢
      rw [hcn] at hre ⊢
      generalize hlk:mlk 2 es (.str x.key)=lk2 at hgd
      by_cases h1:a=4096
      · rw [if_pos h1]
        have k1:((a:Int)==4096)=true:=by simp;omega
        simp only [nodeCells,LK,LKE,VK,pL,pV]
        simp -implicitDefEqProofs (disch:=omega) only [Rx,simprocAttr,F215,k1,hlk,hgd,hst,hj]
      rw [if_neg h1] at hre ⊢
      have k1:((a:Int)==4096)=false:=by simp;omega
      by_cases h2:64<cn
      · rw [if_pos h2]
        have k2:(64:Int)<(cn:Int):=by omega
        simp only [nodeCells,LK,LKE,VK,pL,pV]
        simp -implicitDefEqProofs (disch:=omega) only [Rx,simprocAttr,F215,k1,k2,hlk,hgd,hst,hj]
      rw [if_neg h2] at hre ⊢
      have k2:¬ (64:Int)<(cn:Int):=by omega
      by_cases h3:aloneErr x=0
      rotate_left
      · rw [if_neg h3]
        have k3:(aloneErr x==0)=false:=by simpa using h3
        generalize aloneErr x=e at hw k3
        simp only [nodeCells,LK,LKE,VK,pL,pV]
        simp -implicitDefEqProofs (disch:=omega) only [Rx,simprocAttr,F215,k1,k2,k3,hw,hlk,hgd,hst,hj]
      rw [if_pos h3] at hre ⊢
      rw [h3] at hw
      have h4:dupB l a x=true:=by
        by_cases h4:dupB l a x=true
        · exact h4
        · rw [if_neg h4] at hre;exact absurd rfl hre
      rw [if_pos h4]
      have hsm:=hes.dup h4
      rw [hlk] at hsm
      simp only [nodeCells,LK,LKE,VK,pL,pV]
      simp -implicitDefEqProofs (disch:=omega) only [Rx,simprocAttr,F215,k1,k2,hw,hlk,hgd,hsm,hst,hj]
    rw [if_pos hre] at hec
    obtain ⟨h1,h2,h3,h4⟩:=rowErr_ok hre
    rw [hcn] at h2
    rw [h3] at hw
    have hlk:=hes.ok.none h4
    have k1:((a:Int)==4096)=false:=by simp;omega
    have k2:¬ (64:Int)<(cn:Int):=by omega
    have hes1:=hes.met hx
    have hcx:∀ m y,l[m]? = some y→y.up=(a:Int)+1→a<m→(chain l (m+1)).length=cn+1:=by
      intro m y hy hu ham
      have hm:m<l.length:=(List.getElem?_eq_some_iff.1 hy).1
      rw [chain_succ hs (Nat.le_refl _) hm]
      have:upAt l (m+1)=a+1:=by simp [upAt,hy,hu]
      rw [this,List.length_cons,hcn]
    have hks':=hks.lt ha
    have hup:=hs a x ha hx
    generalize he1:(if x.key=[] then es else es++[(PV.str x.key,AV.p (.agg []))])=es1 at hes1
    obtain ⟨r,hr,hres⟩:=visE_loop (n:=n+D+39) (N:=n+D+39) l a b cn ks hks hl hs ha (by omega) (by omega) (ms.set j (.map es1)) (if (cn:Int) > deep then (cn:Int) else deep) (fun m m' k es' j' deep' ms' hb1 hy ham hmb hj' hes'=>by
      obtain ⟨y,hy,hu⟩:=hy
      have:=hb1.lt
      have hc:=hcx m y hy hu ham
      have:=ih n m m' k y es' j' deep' ms' (by omega) hn hb1 hy hj' (by rw [hu];exact hes')
      rw [hc,hu] at this
      push_cast at this
      exact this)
    have fin:∀ r',acall T (n+D+39+1) 215 [.p (.agg (nodeCells x ks)),.p (.int .i64 cn),.map true (j+1+1),pL,pV] (LK a deep::VK::ms)=some r'→SeenE l x.up a b j ms r'→∃ r,br (acall T (n+D+39)) F215 (aexec (acall T (n+D+39)) (n+D+39) F215.body (enterSt [.p (.agg (nodeCells x ks)),.p (.int .i64 cn),.map true (j+1+1),pL,pV] (LK a deep::VK::ms)))=some r∧SeenE l x.up a b j ms r:=fun r' h1 h2=>by
      rw [acall_code T215,run_code rfl rfl] at h1
      exact ⟨r',h1,h2⟩
    have hset:x.key=[]→ms.set j (.map es1)=ms:=fun hk=>by
      rw [if_pos hk] at he1
      subst he1
      apply List.ext_getElem?
      intro q
      rw [List.getElem?_set]
      split
      · rename_i e;subst e;exact hj.symm
      · rfl
    simp only [visS,LK,VK,Int.natCast_add,Int.natCast_one,Int.natCast_zero] at hr
    rcases hres with ⟨he0,deep',ms',rfl,hml,hsame⟩ | ⟨he0,m',deep',ms',rfl⟩
    · refine fin (.p (.bool true),LK b deep'::VK::ms') ?_ (.inl ⟨by rw [hec];exact he0,deep',ms',es1,rfl,by simpa using hml, ?_, ?_,fun j' hj' hne => ?_⟩)
      rotate_left
      · rw [hsame j (by simpa using hjl),List.getElem?_set,if_pos rfl,if_pos hjl]
      · refine hes1.same (by omega) fun q y hq1 hq2 hy hu => ?_
        have:=hinner q y (by omega) hq2 hy
        omega
      · rw [hsame j' (by simpa using hj'),List.getElem?_set,if_neg (fun e=>hne e.symm)]
      rw [acall_code T215,run_code rfl rfl]
      simp only [nodeCells,LK,VK,pL,pV] at hr ⊢
      by_cases hk:x.key=[]
      · rw [hset hk] at hr
        rw [hk] at hw hlk hst
        simp -implicitDefEqProofs (disch:=omega) only [Rx,simprocAttr,F215,hk,k1,k2,hw,hlk,hst,hj,hr,Option.getD_none,Option.isSome_none]
      · have hk':(x.key==[])=false:=by simpa using hk
        rw [if_neg hk] at he1
        subst he1
        have hmp:=mput_none (v:=.p (.agg [])) hlk
        simp -implicitDefEqProofs (disch:=omega) only [Rx,simprocAttr,F215,hk',k1,k2,hw,hlk,hst,hmp,hj,hr,Option.getD_none,Option.isSome_none,Option.isSome_some]
    · refine fin (.p (.bool false),LKE m' deep' (errR l (a+1) b)::VK::ms') ?_ (.inr ⟨by rw [hec];exact he0,m',deep',ms',by rw [hec]⟩)
      rw [acall_code T215,run_code rfl rfl]
      generalize errR l (a+1) b=e at hr
      simp only [nodeCells,LK,LKE,VK,pL,pV] at hr ⊢
      by_cases hk:x.key=[]
      · rw [hset hk] at hr
        rw [hk] at hw hlk hst
        simp -implicitDefEqProofs (disch:=omega) only [Rx,simprocAttr,F215,hk,k1,k2,hw,hlk,hst,hj,hr,Option.getD_none,Option.isSome_none]
      · have hk':(x.key==[])=false:=by simpa using hk
        rw [if_neg hk] at he1
        subst he1
        have hmp:=mput_none (v:=.p (.agg [])) hlk
        simp -implicitDefEqProofs (disch:=omega) only [Rx,simprocAttr,F215,hk',k1,k2,hw,hlk,hst,hmp,hj,hr,Option.getD_none,Option.isSome_none,Option.isSome_some]
end Go.TA.Tryz


end
section
/- The tree of rows, as the program builds it, and where it ends. -/
namespace Go.TA.Tryz
def buildQE (l:List GRow) (a:Nat) (x:GRow) (r:Ex × St):Prop:=∃ nx ks,BTs l a nx ks∧nx=endOf l (a+1)∧r=(.exit 0,⟨[(4,.ptr false 4 5 1 0 0),(7,.ptr false 7 5 1 0 0),(8,.p (.int .i64 nx))],buildL x ks,kidsG ks⟩)
theorem buildE_loop {n N : Nat} (l : List GRow) (hl : l.length ≤ 1048576) (hs : sound l) (a : Nat) (x : GRow) (hx : l[a]? = some x) (hN : l.length - a < N)
    (ih:∀ m,a<m→m<l.length→∃ b p,BT l m b p∧b=endOf l (m+1)∧∀ g,acall T n 161 [.p (.list (l.map GRow.pv)),.p (.int .i64 m)] g=some (.tuple [.p (.agg p),.p (.int .i64 b)],g)) :
    ∃ r,aexec (acall T n) N (.loop B161x0) (buildS l a x (a+1) [])=some r∧buildQE l a x r:=by
  have ha:a<l.length:=(List.getElem?_eq_some_iff.1 hx).1
  refine loop_inv (σ := Nat × List (List PV)) (S:=fun s=>buildS l a x s.1 s.2) (I:=fun s=>BTs l a s.1 s.2∧s.1≤endOf l (a+1)∧(s.1=a+1∨∃ m,a+1≤m∧m<s.1∧s.1=endOf l (m+1)∧upAt l (m+1)=a+1)) (μ := fun s=>l.length - s.1) (Q:=buildQE l a x) ?_ (a+1,[]) ⟨.nil,(endOf_le (by omega)).1,.inl rfl⟩ (by simp only;omega)
  rintro ⟨nx,ks⟩ ⟨hI,hle,hcl⟩
  simp only at hI hle hcl ⊢
  have hel:=(endOf_le (l:=l) (h:=a+1) (by omega)).2
  have hlt:=hI.lt ha
  by_cases h:nx<l.length
  · obtain ⟨y,hy⟩:=get_some h
    have hg:=getD_map (f:=GRow.pv) hy
    have k1:(nx:Int)<(l.length:Int):=by omega
    cases hu:(y.up==(a:Int)+1) with
    | true =>
      obtain ⟨b,p,hbt,hbe,hrun⟩:=ih nx (by omega) h
      have hr:=hrun []
      have hp:=hbt.len
      have hb:=hbt.lt
      have hu':y.up=(a:Int)+1:=by simpa using hu
      left
      refine ⟨(b,ks++[p]), ?_,⟨.snoc hI hy hu' hbt, ?_,.inr ⟨nx,by omega,by simp only;omega,hbe,by simp [upAt,hy,hu']⟩⟩,by simp only;omega⟩
      rotate_left
      · simp only
        rw [hbe]
        refine end_mono (by omega) ?_ (by omega)
        rcases Nat.lt_or_ge nx (endOf l (a+1)) with h5 | h5
        · exact h5
        · have h6:nx=endOf l (a+1):=by omega
          have:=endOf_at (l:=l) (h:=a+1) (x:=y) (by omega) (by rw [← h6];exact hy)
          omega
      obtain ⟨c1,c2,c3,c4,c5,rfl⟩:∃ c1 c2 c3 c4 c5,p=[c1,c2,c3,c4,c5]:=by
        match p,hp with
        | [c1,c2,c3,c4,c5],_=>exact ⟨c1,c2,c3,c4,c5,rfl⟩
      cases ks with
      | nil =>
        simp only [buildS,buildL,kidsC,kidsG,List.nil_append]
        simp -implicitDefEqProofs (disch:=omega) only [Rx,simprocAttr,B161x0,k1,hg,GRow.pv,hu,hr]
      | cons k0 ks0 =>
        have hkl:(k0::ks0).length+1≤1048576:=by omega
        simp only [buildS,buildL,kidsC,kidsG,List.cons_append,List.length_cons,List.length_append,List.length_nil] at hkl ⊢
        simp -implicitDefEqProofs (disch:=omega) only [Rx,simprocAttr,B161x0,k1,hg,GRow.pv,hu,hr,List.length_append]
    | false =>
      right
      have hu':¬ y.up=(a:Int)+1:=by simpa using hu
      refine ⟨_, ?_, ?_,nx,ks,hI, ?_,rfl⟩
      rotate_right
      · rcases Nat.lt_or_ge nx (endOf l (a+1)) with h5 | h5
        · obtain ⟨z,hz,hzu⟩:=kid_next hs (h:=a+1) (cur:=nx) (by omega) h5 hcl (by omega)
          rw [hy] at hz
          cases hz
          exact absurd (by omega) hu'
        · omega
      · simp only [buildS,buildL]
        simp -implicitDefEqProofs (disch:=omega) only [Rx,simprocAttr,B161x0,k1,hg,GRow.pv,hu,kidsC_m]
      · simp
  · right
    have k1:¬ (nx:Int)<(l.length:Int):=by omega
    refine ⟨_, ?_, ?_,nx,ks,hI, ?_,rfl⟩
    · simp only [buildS,buildL]
      simp -implicitDefEqProofs (disch:=omega) only [Rx,simprocAttr,B161x0,k1,kidsC_m]
    · simp
    · omega
theorem buildE_run (l:List GRow) (hl:l.length≤1048576) (hs:sound l) (hal:∀ x ∈ l,x.attrs.length≤1048577):∀ (d a n:Nat),a<l.length→l.length - a≤d→∃ b p,BT l a b p∧b=endOf l (a+1)∧∀ g,acall T (n+d+3) 161 [.p (.list (l.map GRow.pv)),.p (.int .i64 a)] g=some (.tuple [.p (.agg p),.p (.int .i64 b)],g):=by
  intro d
  induction d with
  | zero=>intro a n ha hd;omega
  | succ d ih =>
    intro a n ha hd
    obtain ⟨x,hx⟩:=get_some ha
    have hg:=getD_map (f:=GRow.pv) hx
    have k1:(a:Int)<(l.length:Int):=by omega
    obtain ⟨r,hr,nx,ks,hbt,hlast,rfl⟩:=buildE_loop (n:=n+d+3) (N:=n+d+3) l hl hs a x hx (by omega) (fun m h1 h2=>by
      obtain ⟨b,p,q1,q2,q3⟩:=ih m n h2 (by omega)
      exact ⟨b,p,q1,q2,q3⟩)
    refine ⟨nx,nodeCells x ks,.mk hx hbt,hlast,fun g => ?_⟩
    rw [show n+(d+1)+3=n+d+3+1 by omega,acall_code T161,run_pure rfl rfl rfl]
    have hcl:=fun g=>cloneA_run x.attrs (hal x (List.mem_of_getElem? hx)) g (n+d+2)
    cases ks with
    | nil =>
      simp only [buildS,buildL,kidsC,kidsG,Int.natCast_add,Int.natCast_one] at hr
      simp only [nodeCells]
      simp -implicitDefEqProofs (disch:=omega) only [Rx,simprocAttr,F161,k1,hg,GRow.pv,attrsPV,hcl,hr,attrs_same]
    | cons k0 ks0 =>
      simp only [buildS,buildL,kidsC,kidsG,Int.natCast_add,Int.natCast_one] at hr
      simp only [nodeCells]
      simp -implicitDefEqProofs (disch:=omega) only [Rx,simprocAttr,F161,k1,hg,GRow.pv,attrsPV,hcl,hr,attrs_same]
end Go.TA.Tryz


end
section
/- Rows that are right for the document's answer are right for the program. -/
namespace Go.TA.Tryz
theorem chain_one {l:List GRow} {x:GRow} (hs:standTo l l.length) (hx:l[0]? = some x):chain l 1=[1]:=by
 have hlt:0<l.length:=(List.getElem?_eq_some_iff.1 hx).1
 rw [chain_succ hs (Nat.le_refl _) hlt]
 have:=upAt_le hs hlt hlt
 have:upAt l 1=0:=by simpa using this
 rw [this];rfl
end Go.TA.Tryz


end
section
/- Rows that are right for the document's answer are right for the program. -/
namespace Go.TA.Tryz
end Go.TA.Tryz


end
