/- Part 15 of 15 of a proof; joined from CofValidG, CofBoth, CofValidR, ConcatD, CofConcatG, CofConcatT, CofConcatR, CofHeavyG, CofAttrsEq, CofOpsEq, CofSame31, CofConcatLaw, CofConcatOfFin. The law ConcatOf, for every input of bulk at most 1048576: the call returns true, and nothing that was there has changed. -/
import Derived.Test.YtnjblmbobmbgkaaGreatDoorCp1
import Derived.Test.YtnjblmbobmbgkaaGreatDoorCp13
import Derived.Test.YtnjblmbobmbgkaaGreatDoorCp14
import Derived.Test.YtnjblmbobmbgkaaGreatDoorCp7
import Derived.Test.YtnjblmbobmbgkaaGreatDoorCp6
import Derived.Test.YtnjblmbobmbgkaaGreatDoorCp11
import Derived.Test.YtnjblmbobmbgkaaGreatDoorCp10
import Derived.Test.YtnjblmbobmbgkaaGreatDoorCards
import Derived.Test.YtnjblmbobmbgkaaGreatDoorTie
import Derived.WalkKit
import Derived.ProofKit
import Derived.OpenShut
import Derived.JoinedCond
import Derived.Deep.DeepHandedRow
import Derived.Lib.LaidTab
set_option linter.unusedSimpArgs false
set_option linter.unusedVariables false
section
/- Whether a script is valid: the program, and the document's answer. -/
set_option maxRecDepth 100000
set_option maxHeartbeats 8000000
namespace Go.TA.Tryz
noncomputable def lastM (l:List GRow) (L:List GOp):MS:=(runM (S0 l) L 0).2.2
noncomputable def lastE (l:List GRow) (L:List GOp) (left:Int):Int:=endE (lastM l L) (bnd l.length L.length) L left
noncomputable def lastR (l:List GRow) (L:List GOp):List GRow:=rowsM (lastM l L) (bnd l.length L.length)
noncomputable def validE (l:List GRow) (L:List GOp) (left:Int):Nat × Int :=
 if check13 l≠0 then (0,check13 l) else if (firstE L 0).2≠0 then firstE L 0 else if (runM (S0 l) L 0).2.1≠0 then ((runM (S0 l) L 0).1,(runM (S0 l) L 0).2.1)
 else if lastE l L left≠0 then (L.length,lastE l L left) else (0,0)
noncomputable def validR (l:List GRow) (L:List GOp) (left:Int):List GRow:=if (validE l L left).2=0 then lastR l L else []
theorem valid_gen (l:List GRow) (hsm:Rows.mid 1048577 l) (L:List GOp) (hL:∀ x ∈ L,smallOp x) (hl:l.length≤500000) (hLl:L.length≤500000) (left:Int) (g:List AObj) {F:Nat} (hF:bnd l.length L.length+bnd l.length L.length+6000000<F) :
  acall T (F+1) 27 [.p (.list (l.map GRow.pv)),.p (.list (L.map GOp.pv)),.p (.int .i64 left)] g=some (.tuple [.p (.list ((validR l L left).map GRow.pv)),.p (.int .i64 (validE l L left).1),.p (.int .i64 (validE l L left).2)],g):=by
 have hlb:l.length≤bnd l.length L.length:=by
  have:=bnd_mono l.length (Nat.zero_le L.length)
  exact this
 rw [acall_code T27,run_pure rfl rfl rfl]
 have eV:validE l L left=if check13 l≠0 then (0,check13 l) else if (firstE L 0).2≠0 then firstE L 0 else if (runM (S0 l) L 0).2.1≠0 then ((runM (S0 l) L 0).1,(runM (S0 l) L 0).2.1)
  else if lastE l L left≠0 then (L.length,lastE l L left) else (0,0):=rfl
 unfold validR
 by_cases h1:check13 l=0
 rotate_left
 ·have hnew:=newE_run l hsm (Nat.le_refl _) h1 (n:=F - l.length - 44) (by omega)
  rw [show F - l.length - 44+l.length+44=F by omega] at hnew
  have e1:(check13 l==0)=false:=by simpa using h1
  rw [eV,if_pos h1]
  generalize check13 l=e at *
  simp -implicitDefEqProofs (disch:=omega) only [Rx,simprocAttr,F27,hnew,e1,h1,Int.natCast_zero]
 rw [if_neg (by simpa using h1)] at eV
 have hs:sound l:=formed_sound (check13_ok h1).1
 have hS0:=S0_ok hs hsm (Nat.le_refl _)
 obtain ⟨av,rest,hnew,hM,_⟩:=new_run l hsm (Nat.le_refl _) h1 (n:=F - l.length - 44) (by omega)
 rw [show F - l.length - 44+l.length+44=F by omega] at hnew
 have hf:=firstP_run L (fun x hx=>(hL x hx).1) (by omega) [] (n:=F - 39) (by omega)
 rw [show F - 39+39=F by omega] at hf
 by_cases h2:(firstE L 0).2=0
 rotate_left
 ·rw [if_pos h2] at eV
  have e1:((firstE L 0).2==0)=false:=by simpa using h2
  rw [eV]
  generalize (firstE L 0).1=k at *
  generalize (firstE L 0).2=e at *
  simp only [machG] at hnew
  simp -implicitDefEqProofs (disch:=omega) only [Rx,simprocAttr,F27,hnew,hf,e1,h2]
 rw [if_neg (by simpa using h2)] at eV
 rw [h2] at hf
 have hN0:(S0 l).N=l.length+1:=rfl
 obtain ⟨av2,rest2,R',hrm,hM2,_,_,_,_⟩:=mrun_run hS0 L (fun x hx=>(hL x hx).1) (by omega) av rest hM (F:=F - 1) (by omega)
 rw [show F - 1+1=F by omega] at hrm
 have hmg:machG (S0 l).N (S0 l).st av rest=machG (l.length+1) (st0 l) av rest:=rfl
 rw [hmg] at hrm
 generalize machG (l.length+1) (st0 l) av rest=g1 at hnew hrm
 by_cases h3:(runM (S0 l) L 0).2.1=0
 rotate_left
 ·rw [if_pos h3] at eV
  have e1:((runM (S0 l) L 0).2.1==0)=false:=by simpa using h3
  rw [eV]
  simp only
  generalize (runM (S0 l) L 0).1=k at *
  generalize (runM (S0 l) L 0).2.1=e at *
  generalize machG (runM (S0 l) L 0).2.2.N (runM (S0 l) L 0).2.2.st av2 rest2=g2 at hrm
  generalize (firstE L 0).1=k0 at hf
  simp -implicitDefEqProofs (disch:=omega) only [Rx,simprocAttr,F27,hnew,hf,hrm,e1,h3]
 rw [if_neg (by simpa using h3)] at eV
 rw [h3] at hrm
 obtain ⟨q1,q2,q3⟩:=runM_facts L hS0 (S0_small hsm (Nat.le_refl _)) hL 0
 obtain ⟨rest3,he,hq⟩:=endG_run q1 q2 (by omega) L (by omega) left av2 rest2 hM2 (F:=F - 1) (by omega)
 rw [show F - 1+1=F by omega] at he
 have hrl:((rowsM (runM (S0 l) L 0).2.2 (bnd l.length L.length)).map GRow.pv).length=(rowsM (runM (S0 l) L 0).2.2 (bnd l.length L.length)).length:=by simp
 have hE:lastE l L left=endE (runM (S0 l) L 0).2.2 (bnd l.length L.length) L left:=rfl
 have hR:lastR l L=rowsM (runM (S0 l) L 0).2.2 (bnd l.length L.length):=rfl
 rw [← hE, ← hR] at he
 rw [← hR] at hrl hq
 generalize hX:(lastR l L).map GRow.pv=X at *
 generalize (lastR l L).length=k at he hrl
 generalize (firstE L 0).1=k0 at hf
 generalize (runM (S0 l) L 0).1=k1 at hrm
 simp only [machG] at hrm he
 have ll:(L.map GOp.pv).length=L.length:=by simp
 by_cases h4:lastE l L left=0
 ·rw [if_neg (by simpa using h4)] at eV
  rw [eV]
  rw [h4,if_pos rfl] at he
  simp only [if_pos,hX]
  simp -implicitDefEqProofs (disch:=omega) only [Rx,simprocAttr,F27,hnew,hf,hrm,he,hq,hrl,Int.natCast_zero]
 ·rw [if_pos h4] at eV
  rw [eV]
  simp only
  have e1:(lastE l L left==0)=false:=by simpa using h4
  rw [if_neg h4] at he
  generalize lastE l L left=e at *
  simp -implicitDefEqProofs (disch:=omega) only [Rx,simprocAttr,F27,hnew,hf,hrm,he,ll,e1,h4]
end Go.TA.Tryz


end
section
/- A machine and the document's answer beside each other in memory. Plain. -/
namespace Go.TA
structure Both (S:MS) (g:List AObj) (av:Nat→AV) (rest:List AObj) (avD:Nat→AV) (p q:Nat):Prop where
 is:g=machG S.N S.st av rest
 mok:MOk S.N av S.kd rest
 dm:DM (liveL S) S.st S.kd S.N avD p q g
 p2:2≤p
 q2:2≤q
 refs2:∀ h,h ∈ liveL S→∀ r,refOf (avD h)=some r→2≤r
 apart:∀ h,h<S.N→∀ r,refOf (av h)=some r→r≠p∧r≠q∧∀ h',h' ∈ liveL S→refOf (avD h')≠some r
theorem DM.onto {L:List Nat} {st:Nat→MNode} {kd:Nat→List Int} {nx:Int} {av:Nat→AV} {p q:Nat} {g g':List AObj} (h:DM L st kd nx av p q g) (hp:g'[p]? = g[p]?) (hq:g'[q]? = g[q]?) (hr:∀ k,k ∈ L→∀ r,refOf (av k)=some r→g'[r]? = g[r]?):DM L st kd nx av p q g' where
 core:=⟨by rw [hp];exact h.core.obj,by rw [hq];exact h.core.row,h.core.pq,h.core.nodup⟩
 kids k hk:=(h.kids k hk).keep fun r e=>hr k hk r e
 away:=h.away
 disj:=h.disj
theorem DM.p_lt {L:List Nat} {st:Nat→MNode} {kd:Nat→List Int} {nx:Int} {av:Nat→AV} {p q:Nat} {g:List AObj} (h:DM L st kd nx av p q g):p<g.length:=(List.getElem?_eq_some_iff.1 h.core.obj).1
theorem DM.q_lt {L:List Nat} {st:Nat→MNode} {kd:Nat→List Int} {nx:Int} {av:Nat→AV} {p q:Nat} {g:List AObj} (h:DM L st kd nx av p q g):q<g.length:=by
 obtain ⟨o,ho,_⟩:=h.core.row
 exact (List.getElem?_eq_some_iff.1 ho).1
theorem mach_of {A B:AObj} {g:List AObj} (h0:g[0]? = some A) (h1:g[1]? = some B):g=A::B::g.drop 2:=by
  match g,h0,h1 with
  | a :: b :: r, h0, h1 =>
    simp only [List.getElem?_cons_zero,List.getElem?_cons_succ,Option.some.injEq] at h0 h1
    simp [h0,h1]
theorem Both.step {S S' : MS} {g : List AObj} {av : Nat → AV} {rest : List AObj} {avD : Nat → AV} {p q : Nat} (h : Both S g av rest avD p q) {av' : Nat → AV} {rest' : List AObj} (hf : Fr S.N av rest S'.N av' rest') (hm : MOk S'.N av' S'.kd rest') {avD' : Nat → AV} {q' : Nat} {g' : List AObj} (hd : DM (liveL S') S'.st S'.kd S'.N avD' p q' g') (hfd : DFr (liveL S) avD p q (machG S'.N S'.st av' rest') (liveL S') avD' q' g') :
    ∃ rest2,Both S' g' av' rest2 avD' p q':=by
  have hg:g.length=rest.length+2:=by rw [h.is];simp [machG]
  have hlen:(machG S'.N S'.st av' rest').length=rest'.length+2:=by simp [machG]
  have hlr:=hf.len
  have hap:∀ k,k<S'.N→∀ r,refOf (av' k)=some r→r≠p∧r≠q∧(∀ h',h' ∈ liveL S→refOf (avD h')≠some r)∧r<rest'.length+2:=fun k hk r hr=>by
    have hlt:=(hm.kids k hk).ref_lt hr
    have h2:2≤r:=by
      rcases (hm.kids k hk).inv with ⟨e,_⟩ | ⟨i,e,_⟩ | e
      · rw [e] at hr;cases hr
      · rw [e] at hr;simp only [refOf,Option.some.injEq] at hr;omega
      · rw [e] at hr;cases hr
    obtain ⟨i,rfl⟩:∃ i,r=i+1+1:=⟨r - 2,by omega⟩
    by_cases hi:i<rest.length
    · obtain ⟨k0,hk0,e0⟩:=hf.refs k hk i hr hi
      obtain ⟨a1,a2,a3⟩:=h.apart k0 hk0 _ e0
      exact ⟨a1,a2,a3,by omega⟩
    · have hp:=h.dm.p_lt
      have hq:=h.dm.q_lt
      refine ⟨by omega,by omega,fun h' hh' e => ?_,by omega⟩
      have:=(h.dm.kids h' hh').ref_lt e
      omega
  have keep:∀ j,j<rest'.length+2→j≠p→j≠q→(∀ h',h' ∈ liveL S→refOf (avD h')≠some j)→g'[j]? = (machG S'.N S'.st av' rest')[j]? := fun j hj=>hfd.keep j (by omega)
  have hp2:=h.p2
  have hq2:=h.q2
  have e0:g'[0]? = some (.cells 7 (rowsAV S'.N S'.st av')):=by
    rw [keep 0 (by omega) (by omega) (by omega) fun h' hh' e=>by have:=h.refs2 h' hh' 0 e;omega];rfl
  have e1:g'[1]? = some (.cells 1 [[.own true 0 S'.N]]):=by
    rw [keep 1 (by omega) (by omega) (by omega) fun h' hh' e=>by have:=h.refs2 h' hh' 1 e;omega];rfl
  have his:=mach_of e0 e1
  refine ⟨g'.drop 2,his,⟨fun k hk => ?_,hm.disj⟩,hd,h.p2, ?_,fun k hk r hr => ?_,fun k hk r hr => ?_⟩
  · rcases (hm.kids k hk).inv with ⟨e,e2⟩ | ⟨i,e,hi⟩ | e
    · rw [e,e2];exact .none
    · have hr:refOf (av' k)=some (i+1+1):=by rw [e];rfl
      obtain ⟨a1,a2,a3,a4⟩:=hap k hk _ hr
      rw [e]
      refine .own ?_
      rw [List.getElem?_drop,show 2+i=i+1+1 by omega,keep _ a4 a1 a2 a3]
      simpa [machG] using hi
    · rw [e];exact .list
  · rcases hfd.row with e | e
    · omega
    · omega
  · by_cases hlt:r<(machG S'.N S'.st av' rest').length
    · obtain ⟨k0,hk0,e⟩:=hfd.refs k hk r hr hlt
      exact h.refs2 k0 hk0 r e
    · omega
  · obtain ⟨a1,a2,a3,a4⟩:=hap k hk r hr
    refine ⟨a1, ?_,fun h' hh' e => ?_⟩
    · rcases hfd.row with e | e <;> omega
    · by_cases hlt:r<(machG S'.N S'.st av' rest').length
      · obtain ⟨k0,hk0,e2⟩:=hfd.refs h' hh' r e hlt
        exact a3 k0 hk0 e2
      · omega
theorem Both.more {S:MS} {g:List AObj} {av:Nat→AV} {rest:List AObj} {avD:Nat→AV} {p q:Nat} (h:Both S g av rest avD p q) (X:List AObj):Both S (g++X) av (rest++X) avD p q where
 is:=by rw [h.is];simp [machG]
 mok:=⟨fun k hk=>(h.mok.kids k hk).more _,h.mok.disj⟩
 dm:=h.dm.onto (List.getElem?_append_left h.dm.p_lt) (List.getElem?_append_left h.dm.q_lt) fun k hk r hr=>List.getElem?_append_left ((h.dm.kids k hk).ref_lt hr)
 p2:=h.p2
 q2:=h.q2
 refs2:=h.refs2
 apart:=h.apart
end Go.TA


end
section
/- Whether a script is valid: the document's answer. -/
set_option maxRecDepth 100000
set_option maxHeartbeats 8000000
namespace Go.TA.Tryz
theorem DM.more {L:List Nat} {st:Nat→MNode} {kd:Nat→List Int} {nx:Int} {av:Nat→AV} {p q:Nat} {g:List AObj} (h:DM L st kd nx av p q g) (X:List AObj):DM L st kd nx av p q (g++X) :=
 h.onto (List.getElem?_append_left h.p_lt) (List.getElem?_append_left h.q_lt) fun k hk r hr=>List.getElem?_append_left ((h.kids k hk).ref_lt hr)
theorem liveL_zero {R:Nat} {S:MS} (hS:S.Ok R):(liveL S)[0]? = some 0:=by
 obtain ⟨k,hk⟩:∃ k,S.N=k+1:=⟨S.N - 1,by have:=hS.pos;omega⟩
 unfold liveL
 rw [hk,List.range_succ_eq_map,List.filter_cons,if_pos hS.top.1]
 rfl
theorem valid_ref (l:List GRow) (hsm:Rows.mid 1048577 l) (L:List GOp) (hL:∀ x ∈ L,smallOp x) (hl:l.length≤500000) (hLl:L.length≤500000) (left:Int) (g:List AObj) {F:Nat} (hF:bnd l.length L.length+bnd l.length L.length+6000000<F) :
  acall T (F+1) 28 [.p (.list (l.map GRow.pv)),.p (.list (L.map GOp.pv)),.p (.int .i64 left)] g=some (.tuple [.p (.list ((validR l L left).map GRow.pv)),.p (.int .i64 (validE l L left).1),.p (.int .i64 (validE l L left).2)],g):=by
 have hlb:l.length≤bnd l.length L.length:=bnd_mono l.length (Nat.zero_le L.length)
 rw [acall_code T28,run_pure rfl rfl rfl]
 have eV:validE l L left=if check13 l≠0 then (0,check13 l) else if (firstE L 0).2≠0 then firstE L 0 else if (runM (S0 l) L 0).2.1≠0 then ((runM (S0 l) L 0).1,(runM (S0 l) L 0).2.1)
  else if lastE l L left≠0 then (L.length,lastE l L left) else (0,0):=rfl
 unfold validR
 have hck:=check13_mid l hsm (Nat.le_refl _) (n:=F - 38) (by omega) []
 rw [show F - 38+38=F by omega] at hck
 by_cases h1:check13 l=0
 rotate_left
 ·have e1:(check13 l==0)=false:=by simpa using h1
  rw [eV,if_pos h1]
  generalize check13 l=e at *
  simp -implicitDefEqProofs (disch:=omega) only [Rx,simprocAttr,F28,hck,e1,h1,Int.natCast_zero]
 rw [if_neg (by simpa using h1)] at eV
 rw [h1] at hck
 have hs:sound l:=formed_sound (check13_ok h1).1
 have hS0:=S0_ok hs hsm (Nat.le_refl _)
 have hf:=firstR_run L (fun x hx=>⟨(hL x hx).1,(hL x hx).2.1⟩) (by omega) [] (n:=F - 38) (by omega)
 rw [show F - 38+38=F by omega] at hf
 by_cases h2:(firstE L 0).2=0
 rotate_left
 ·rw [if_pos h2] at eV
  have e1:((firstE L 0).2==0)=false:=by simpa using h2
  rw [eV]
  generalize (firstE L 0).1=k at *
  generalize (firstE L 0).2=e at *
  simp -implicitDefEqProofs (disch:=omega) only [Rx,simprocAttr,F28,hck,hf,e1,h2]
 rw [if_neg (by simpa using h2)] at eV
 rw [h2] at hf
 have hN0:(S0 l).N=l.length+1:=rfl
 obtain ⟨avD,g2,hnd,hDM,_⟩:=newR_run l (by omega) hs.1 [] (n:=F - 2) (by omega)
 rw [show F - 2+2=F by omega] at hnd
 simp only [List.length_nil,Nat.zero_add] at hnd hDM
 obtain ⟨avD2,q2,g3,hrd,hD2,_⟩:=refRun_run hS0 L (fun x hx=>⟨(hL x hx).1,(hL x hx).2.1⟩) (by omega) (by omega) avD _ _ _ hDM (F:=F - 1) (by omega)
 rw [show F - 1+1=F by omega] at hrd
 by_cases h3:(runM (S0 l) L 0).2.1=0
 rotate_left
 ·rw [if_pos h3] at eV
  have e1:((runM (S0 l) L 0).2.1==0)=false:=by simpa using h3
  rw [eV]
  simp only
  generalize (runM (S0 l) L 0).1=k at *
  generalize (runM (S0 l) L 0).2.1=e at *
  generalize (firstE L 0).1=k0 at hf
  simp -implicitDefEqProofs (disch:=omega) only [Rx,simprocAttr,F28,hck,hf,hnd,hrd,e1,h3]
 rw [if_neg (by simpa using h3)] at eV
 rw [h3] at hrd
 obtain ⟨hok,hsmS,hNS⟩:=runM_facts L hS0 (S0_small hsm (Nat.le_refl _)) hL 0
 have eL:lastM l L=(runM (S0 l) L 0).2.2:=rfl
 rw [← eL] at hok hsmS hNS hD2
 generalize (firstE L 0).1=k0 at hf
 generalize (runM (S0 l) L 0).1=k1 at hrd
 have eE:lastE l L left=if 0<(looseM (lastM l L)).length then 19 else if 1<tops (lastR l L) then 20 else if check13 (lastR l L)≠0 then check13 (lastR l L) else if (times L 1:Int)≤left then 0 else 21:=rfl
 have hlive:=liveL_len (lastM l L)
 have hlo:=looseD_run hD2 (by omega) (n:=F - 1) (by omega)
 rw [show F - 1+1=F by omega] at hlo
 have hll:=looseM_len (lastM l L)
 have hD3:=DM.more hD2 [.pcells 1 (intsPV (looseM (lastM l L)))]
 obtain ⟨o,ho,hrep⟩:=hD3.core.row
 have hob:=hD3.core.obj
 have h0:=liveL_zero hok
 have rd2:=rd_node hrep h0 (j:=2) (by omega)
 have hix:=fun s i=>hrep.idx rowsD_len s true q2 i
 have hK:=hD3.kids 0 (List.mem_of_getElem? h0)
 have htop:tops (lastR l L)=((lastM l L).kd 0).length:=tops_rows _ _
 have htl:=tops_le (lastR l L)
 have hpos:0<(liveL (lastM l L)).length:=(List.getElem?_eq_some_iff.1 h0).1
 have hrd2:=Read_run hok (by omega) hD3 (by omega) (n:=F - bnd l.length L.length - 2) (by omega)
 rw [show F - bnd l.length L.length - 2+bnd l.length L.length+2=F by omega] at hrd2
 have hRR:lastR l L=rowsM (lastM l L) (bnd l.length L.length):=rfl
 have hlen:=rowsM_len hok (bnd l.length L.length)
 have hsm2:=rowsM_small hok hsmS (by omega) (bnd l.length L.length)
 rw [← hRR] at hrd2 hlen hsm2
 have hck2:=check13_mid (lastR l L) hsm2 (Nat.le_refl _) (n:=F - 38) (by omega) []
 rw [show F - 38+38=F by omega] at hck2
 have htm:=times_run L (by omega) 1 [] (n:=F - 1) (by omega)
 rw [show F - 1+1=F by omega] at htm
 have ll:(L.map GOp.pv).length=L.length:=by simp
 have hrl:((lastR l L).map GRow.pv).length=(lastR l L).length:=by simp
 simp only [nAV] at rd2
 generalize looseM (lastM l L)=lo at *
 generalize hX:(lastR l L).map GRow.pv=X at *
 generalize hg4:g3++[AObj.pcells 1 (intsPV lo)]=g4 at *
 have q5:(g4++[AObj.pcells 6 X])[g4.length]? = some (.pcells 6 X):=by simp
 rw [htop] at eE htl
 generalize htp:((lastM l L).kd 0).length=tp at eE htl
 have fin:∀ K:AV,o.rd 1 (liveL (lastM l L)).length 0 2 7 false=some K→((K = .nils∧tp=0)∨(∃ r,K = .own true r tp)∨∃ Y:List (List PV),K = .p (.list Y)∧Y.length=tp) →
   rg (br (acall T F) F28 (aexec (acall T F) F F28.body (enterSt [.p (.list (l.map GRow.pv)),.p (.list (L.map GOp.pv)),.p (.int .i64 left)] []))) g=some (.tuple [.p (.list ((if (validE l L left).2=0 then lastR l L else []).map GRow.pv)),.p (.int .i64 (validE l L left).1),.p (.int .i64 (validE l L left).2)],g):=by
  intro K hK2 hcase
  generalize (liveL (lastM l L)).length=nl at *
  generalize rowsD (liveL (lastM l L)) (lastM l L).st avD2=rd at *
  by_cases c1:0<lo.length
  ·have e:lastE l L left=19:=by rw [eE,if_pos c1]
   rw [e,if_pos (by decide)] at eV
   rw [eV]
   simp -implicitDefEqProofs (disch:=omega) only [Rx,simprocAttr,F28,hck,hf,hnd,hrd,hlo,ll]
  by_cases c2:1<tp
  ·have e:lastE l L left=20:=by rw [eE,if_neg c1,if_pos c2]
   rw [e,if_pos (by decide)] at eV
   rw [eV]
   rcases hcase with ⟨rfl,k0⟩ | ⟨r,rfl⟩ | ⟨Y,rfl,k0⟩
   ·omega
   ·simp -implicitDefEqProofs (disch:=omega) only [Rx,simprocAttr,F28,hck,hf,hnd,hrd,hlo,hob,ho,hix,hK2,ll]
   ·simp -implicitDefEqProofs (disch:=omega) only [Rx,simprocAttr,F28,hck,hf,hnd,hrd,hlo,hob,ho,hix,hK2,ll,k0]
  by_cases c3:check13 (lastR l L)=0
  rotate_left
  ·have e:lastE l L left=check13 (lastR l L):=by rw [eE,if_neg c1,if_neg c2,if_pos c3]
   rw [if_pos (by rw [e];exact c3),e] at eV
   rw [eV]
   have c3':(check13 (lastR l L)==0)=false:=by simpa using c3
   generalize check13 (lastR l L)=e at hck2 c3 c3'
   rcases hcase with ⟨rfl,k0⟩ | ⟨r,rfl⟩ | ⟨Y,rfl,k0⟩
   ·simp -implicitDefEqProofs (disch:=omega) only [Rx,simprocAttr,F28,hck,hf,hnd,hrd,hlo,hob,ho,hix,hK2,hrd2,hck2,q5,hrl,ll,c3,c3']
   ·simp -implicitDefEqProofs (disch:=omega) only [Rx,simprocAttr,F28,hck,hf,hnd,hrd,hlo,hob,ho,hix,hK2,hrd2,hck2,q5,hrl,ll,c3,c3']
   ·simp -implicitDefEqProofs (disch:=omega) only [Rx,simprocAttr,F28,hck,hf,hnd,hrd,hlo,hob,ho,hix,hK2,hrd2,hck2,q5,hrl,ll,k0,c3,c3']
  rw [c3] at hck2
  generalize times L 1=t1 at *
  by_cases c4:(t1:Int)≤left
  ·have e:lastE l L left=0:=by rw [eE,if_neg c1,if_neg c2,if_neg (by simpa using c3),if_pos c4]
   rw [e,if_neg (by decide)] at eV
   rw [eV]
   simp only [if_pos,hX]
   have c4':¬ left<(t1:Int):=by omega
   rcases hcase with ⟨rfl,k0⟩ | ⟨r,rfl⟩ | ⟨Y,rfl,k0⟩
   ·simp -implicitDefEqProofs (disch:=omega) only [Rx,simprocAttr,F28,hck,hf,hnd,hrd,hlo,hob,ho,hix,hK2,hrd2,hck2,htm,q5,hrl,ll,c4',Int.natCast_zero]
   ·simp -implicitDefEqProofs (disch:=omega) only [Rx,simprocAttr,F28,hck,hf,hnd,hrd,hlo,hob,ho,hix,hK2,hrd2,hck2,htm,q5,hrl,ll,c4',Int.natCast_zero]
   ·simp -implicitDefEqProofs (disch:=omega) only [Rx,simprocAttr,F28,hck,hf,hnd,hrd,hlo,hob,ho,hix,hK2,hrd2,hck2,htm,q5,hrl,ll,k0,c4',Int.natCast_zero]
  ·have e:lastE l L left=21:=by rw [eE,if_neg c1,if_neg c2,if_neg (by simpa using c3),if_neg c4]
   rw [e,if_pos (by decide)] at eV
   rw [eV]
   have c4':left<(t1:Int):=by omega
   rcases hcase with ⟨rfl,k0⟩ | ⟨r,rfl⟩ | ⟨Y,rfl,k0⟩
   ·simp -implicitDefEqProofs (disch:=omega) only [Rx,simprocAttr,F28,hck,hf,hnd,hrd,hlo,hob,ho,hix,hK2,hrd2,hck2,htm,q5,hrl,ll,c4']
   ·simp -implicitDefEqProofs (disch:=omega) only [Rx,simprocAttr,F28,hck,hf,hnd,hrd,hlo,hob,ho,hix,hK2,hrd2,hck2,htm,q5,hrl,ll,c4']
   ·simp -implicitDefEqProofs (disch:=omega) only [Rx,simprocAttr,F28,hck,hf,hnd,hrd,hlo,hob,ho,hix,hK2,hrd2,hck2,htm,q5,hrl,ll,k0,c4']
 refine fin _ rd2 ?_
 rcases hK.inv with ⟨hav,hk0⟩ | ⟨r,hav,_⟩ | hav
 ·exact .inl ⟨hav,by rw [← htp,hk0];rfl⟩
 ·exact .inr (.inl ⟨r,by rw [← htp];exact hav⟩)
 ·exact .inr (.inr ⟨_,hav,by rw [intsPV_len,htp]⟩)
end Go.TA.Tryz


end
section
/- Two scripts together. Plain. -/
namespace Go.TA
def shiftOp (f:Int→Int) (x:GOp):GOp:={ x with node:=f x.node,up:=f x.up,before:=f x.before }
def otherH (mid:List GRow) (made h:Int):Int:=if h=0 then 0 else if h≤(mid.length:Int) then ((mid[(h - 1).toNat]?).map GRow.id).getD 0 else made+h - (mid.length:Int)
theorem shiftOp_id (l:List GOp):l.map (shiftOp fun h=>h)=l:=by
 have:(shiftOp fun h=>h)=id:=by funext x;rfl
 rw [this,List.map_id]
end Go.TA


end
section
/- Two scripts together: what the program makes of them. -/
set_option maxRecDepth 100000
set_option maxHeartbeats 8000000
namespace Go.TA.Tryz
def Answers (n:Nat) (f:Nat) (caps:List AV) (fn:Int→Int) (ok:Int→Prop) (g:List AObj):Prop:=∀ X h,ok h→acall T n f (.p (.int .i64 h)::caps) (g++X)=some (.p (.int .i64 (fn h)),g++X)
def okH (ok:Int→Prop) (x:GOp):Prop:=ok x.node∧ok x.up∧ok x.before
theorem cloneA_any (l:List Attr) (h:l.length≤1048577) (n:Nat) (hn:0<n):acall T n 37 [.p (.list (l.map Attr.pv))] []=some (.own true 0 l.length,[.pcells 2 (l.map Attr.pv)]):=by
 obtain ⟨k,rfl⟩:∃ k,n=k+1:=⟨n - 1,by omega⟩
 exact cloneA_run l h [] k
theorem shift_run (L:List GOp) (hL:∀ x ∈ L,x.attrs.length≤1048576) (hlen:L.length≤1048576) {f:Nat} {caps:List AV} {fn:Int→Int} {ok:Int→Prop} {g:List AObj} {n:Nat} (hno:noLocals caps=true) (hme:∀ ks,mentionsL ks caps=false) (hsl:AV.sameL caps caps=true) (hf:Answers n f caps fn ok g) (hok:∀ x ∈ L,okH ok x) (hn:L.length<n) (X:List AObj) :
  acall T (n+1) 93 [.p (.list (L.map GOp.pv)),.func f caps] (g++X)=some (.own true (g++X).length L.length,g++X++[.pcells 9 ((L.map (shiftOp fn)).map GOp.pv)]):=by
 have ll:(L.map GOp.pv).length=L.length:=by simp
 have hlast:∀ Y Z:List AObj,∀ o:AObj,(Y++[o])[Y.length]? = some o:=fun Y Z o=>by simp
 generalize hG:g++X=G
 have hset:∀ o o':AObj,(G++[o]).set G.length o'=G++[o']:=fun o o'=>by simp [List.set_append]
 have hat:∀ o:AObj,(G++[o])[G.length]? = some o:=fun o=>by simp
 have hf':∀ o h,ok h→acall T n f (.p (.int .i64 h)::caps) (G++[o])=some (.p (.int .i64 (fn h)),G++[o]):=fun o h hh=>by
  have:=hf (X++[o]) h hh
  rw [← List.append_assoc,hG] at this
  exact this
 have key:=loop_rule' (C:=acall T n) (N:=n) (B:=B93x0) (σ := Nat) (S:=fun i=>⟨[(1,.func f caps),(5,.own true G.length i),(11,.p (.list (L.map GOp.pv))),(12,.p (.int .i64 L.length)),(13,.p (.int .i64 i))],[],G++[.pcells 9 (((L.take i).map (shiftOp fn)).map GOp.pv)]⟩)
  (I:=fun i=>i≤L.length) (μ := fun i=>L.length - i) (Φ := fun i=>(.exit 0,⟨[(5,.own true G.length L.length)],[],G++[.pcells 9 ((L.map (shiftOp fn)).map GOp.pv)]⟩)) ?_ 0 (by omega) (by omega)
 ·simp only [List.take_zero,List.map_nil,Int.natCast_zero] at key
  have hl2:L.length*120≤140737488355328:=by omega
  rw [acall_code T93,run_code rfl rfl]
  simp -implicitDefEqProofs (disch:=omega) only [Rx,simprocAttr,F93,ll,key,hme,List.replicate_zero]
 intro i hi
 by_cases h:i<L.length
 ·left
  obtain ⟨x,hx⟩:=get_some h
  have hg:=getD_map (f:=GOp.pv) hx
  have hxm:=List.mem_of_getElem? hx
  have k1:(i:Int)<(L.length:Int):=by omega
  obtain ⟨o1,o2,o3⟩:=hok x hxm
  have c1:=fun o=>hf' o x.node o1
  have c2:=fun o=>hf' o x.up o2
  have c3:=fun o=>hf' o x.before o3
  have hcl:=cloneA_any x.attrs (by have:=hL x hxm;omega) n (by omega)
  have hs:((L.take (i+1)).map (shiftOp fn)).map GOp.pv=((L.take i).map (shiftOp fn)).map GOp.pv++[(shiftOp fn x).pv]:=by
   rw [List.take_add_one,hx]
   simp
  have hli:(((L.take i).map (shiftOp fn)).map GOp.pv).length=i:=by simp;omega
  refine ⟨i+1, ?_,by omega,by omega,rfl⟩
  rw [hs]
  generalize ((L.take i).map (shiftOp fn)).map GOp.pv=A at hli
  simp only [GOp.pv,attrsPV,shiftOp] at hg ⊢
  simp -implicitDefEqProofs (disch:=omega) only [Rx,simprocAttr,B93x0,k1,ll,hg,hno,hme,c1,c2,c3,hcl,hat,hset,hli,List.length_append]
 ·right
  obtain rfl:i=L.length:=by omega
  have k1:¬ (L.length:Int)<(L.length:Int):=by omega
  refine ⟨?_,by simp⟩
  rw [List.take_length]
  simp -implicitDefEqProofs (disch:=omega) only [Rx,simprocAttr,B93x0,k1,hme]
end Go.TA.Tryz


end
section
/- Two scripts together: the program. -/
set_option maxRecDepth 100000
set_option maxHeartbeats 8000000
namespace Go.TA.Tryz
noncomputable def midR (l:List GRow) (s:List GOp):List GRow:=validR l s 1048576
noncomputable def concatE (l:List GRow) (s t:List GOp):Nat × Int :=
 if (validE l s 1048576).2≠0 then validE l s 1048576 else if (validE (midR l s) t 1048576).2≠0 then (s.length+(validE (midR l s) t 1048576).1,(validE (midR l s) t 1048576).2) else (0,0)
noncomputable def concatL (l:List GRow) (s t:List GOp):List GOp:=if (concatE l s t).2=0 then s++t.map (shiftOp (otherH (midR l s) ((l.length:Int)+times s 1))) else []
theorem validR_mid (l:List GRow) (hsm:Rows.mid 1048577 l) (L:List GOp) (hL:∀ x ∈ L,smallOp x) (hl:l.length≤500000) (hLl:L.length≤500000) (left:Int):Rows.mid 1048577 (validR l L left)∧(validR l L left).length≤l.length+L.length+1:=by
 unfold validR
 split
 ·rename_i h
  by_cases h1:check13 l=0
  ·have hs:sound l:=formed_sound (check13_ok h1).1
   have hS0:=S0_ok hs hsm (Nat.le_refl _)
   obtain ⟨q1,q2,q3⟩:=runM_facts L hS0 (S0_small hsm (Nat.le_refl _)) hL 0
   have hN0:(S0 l).N=l.length+1:=rfl
   have hlen:=rowsM_len q1 (bnd l.length L.length)
   have hsm2:=rowsM_small q1 q2 (by omega) (bnd l.length L.length)
   refine ⟨hsm2, ?_⟩
   show (rowsM (runM (S0 l) L 0).2.2 (bnd l.length L.length)).length≤l.length+L.length+1
   omega
  ·rw [validE,if_pos h1] at h
   exact absurd h h1
 ·exact ⟨⟨by simp,by simp⟩,by simp⟩
theorem validE_ops {l:List GRow} {L:List GOp} {left:Int} (h:(validE l L left).2=0):∀ x ∈ L,opErr x=0:=by
 unfold validE at h
 split at h
 ·rename_i h1;exact absurd h h1
 split at h
 ·rename_i h1;exact absurd h h1
 ·rename_i h1
  exact (firstE_err (by simpa using h1)).2
theorem firstE_le:∀ (L:List GOp) (i:Nat),(firstE L i).1≤i+L.length
  | [],i=>by simp [firstE]
  | x :: l, i => by
    rw [firstE]
    have:=firstE_le l (i+1)
    split
    · simp only [List.length_cons];omega
    · simp only;omega
theorem runM_le:∀ (L:List GOp) (S:MS) (i:Nat),(runM S L i).1≤i+L.length
  | [],S,i=>by simp [runM]
  | x :: l, S, i => by
    rw [runM]
    have:=runM_le l (doE S x).2 (i+1)
    split
    · simp only [List.length_cons];omega
    · simp only;omega
theorem validE_le (l:List GRow) (L:List GOp) (left:Int):(validE l L left).1≤L.length:=by
 have h1:=firstE_le L 0
 have h2:=runM_le L (S0 l) 0
 unfold validE
 split
 ·simp
 split
 ·omega
 split
 ·simp only;omega
 split <;> simp
def hand32 (h:Int):Prop:=0≤h∧h≤4294967295
theorem opErr_hand {x:GOp} (h:opErr x=0):okH hand32 x:=by
 unfold opErr at h
 split at h
 ·simp at h
 split at h
 ·simp at h
 split at h
 ·simp at h
 split at h
 ·simp at h
 split at h
 ·simp at h
 rename_i h1 h2 h3
 simp only [hOk,Bool.not_eq_false,Bool.and_eq_true,decide_eq_true_eq] at h1 h2 h3
 exact ⟨⟨by omega,by omega⟩,⟨by omega,by omega⟩,⟨by omega,by omega⟩⟩
def memT (mid:List GRow) (made:Int):List AObj:=[.pcells 6 [],.cells 1 [[.p (.list (mid.map GRow.pv))]],.pcells 1 [[.int .i64 made]]]
def capsT:List AV:=[.ptr true 1 1 1 0 0,.ptr true 2 1 1 0 0]
theorem other_ans (mid:List GRow) (hmid:mid.length≤1048576) (made:Int) (hm:0≤made) (hm2:made≤4194304) (n:Nat):Answers (n+1) 91 capsT (otherH mid made) hand32 (memT mid made):=by
 intro X h hh
 have ml:(mid.map GRow.pv).length=mid.length:=by simp
 obtain ⟨h1,h2⟩:=hh
 rw [acall_code T91,run_code rfl rfl]
 by_cases h0:h=0
 ·subst h0
  have e:otherH mid made 0=0:=rfl
  rw [e]
  simp -implicitDefEqProofs (disch:=omega) only [Rx,simprocAttr,F91,capsT,memT]
 have e0:(h==0)=false:=by simpa using h0
 by_cases hle:h≤(mid.length:Int)
 ·obtain ⟨k,rfl⟩:∃ k:Nat,h=(k:Int)+1:=⟨(h - 1).toNat,by omega⟩
  obtain ⟨x,hx⟩:=get_some (show k<mid.length by omega)
  have hg:=getD_map (f:=GRow.pv) hx
  have e1:(k:Int)+1 - 1=(k:Int):=by omega
  have e:otherH mid made ((k:Int)+1)=x.id:=by
   unfold otherH
   rw [if_neg h0,if_pos hle,e1,Int.toNat_natCast,hx];rfl
  have k1:(k:Int)<(mid.length:Int):=by omega
  rw [e]
  simp -implicitDefEqProofs (disch:=omega) only [Rx,simprocAttr,F91,capsT,memT,e0,hle,ml,hg,GRow.pv,e1,k1]
 ·have e:otherH mid made h=made+h - (mid.length:Int):=by
   unfold otherH
   rw [if_neg h0,if_neg hle]
  rw [e]
  simp -implicitDefEqProofs (disch:=omega) only [Rx,simprocAttr,F91,capsT,memT,e0,hle,ml]
theorem same_ans (g:List AObj) (n:Nat):Answers (n+1) 92 [] (fun h=>h) (fun _=>True) g:=by
 intro X h _
 rw [acall_code T92,run_pure rfl rfl rfl]
 simp -implicitDefEqProofs (disch:=omega) only [Rx,simprocAttr,F92]
theorem two_run (l:List GRow) (hsm:Rows.mid 1048577 l) (s t:List GOp) (hs:∀ x ∈ s,smallOp x) (ht:∀ x ∈ t,smallOp x) (hl:l.length≤200000) (hsl:s.length≤200000) (htl:t.length≤200000) (g:List AObj) {F:Nat}
  (hF:bnd l.length s.length+bnd l.length s.length+6000001<F) (hF2:bnd (midR l s).length t.length+bnd (midR l s).length t.length+6000001<F) :
  acall T (F+1) 58 [.p (.list (l.map GRow.pv)),.p (.list (s.map GOp.pv)),.p (.list (t.map GOp.pv))] g=some (.tuple [.p (.list ((concatL l s t).map GOp.pv)),.p (.int .i64 (concatE l s t).1),.p (.int .i64 (concatE l s t).2)],g):=by
 obtain ⟨hmid,hml⟩:=validR_mid l hsm s hs (by omega) (by omega) 1048576
 have eM:midR l s=validR l s 1048576:=rfl
 rw [← eM] at hmid hml
 have hv1:=valid_gen l hsm s hs (by omega) (by omega) 1048576 [] (F:=F - 1) (by omega)
 have hv2:=valid_gen (midR l s) hmid t ht (by omega) (by omega) 1048576 [] (F:=F - 1) (by omega)
 rw [show F - 1+1=F by omega] at hv1 hv2
 rw [← eM] at hv1
 have eC:concatE l s t=if (validE l s 1048576).2≠0 then validE l s 1048576 else if (validE (midR l s) t 1048576).2≠0 then (s.length+(validE (midR l s) t 1048576).1,(validE (midR l s) t 1048576).2) else (0,0):=rfl
 have ls:(s.map GOp.pv).length=s.length:=by simp
 have lt:(t.map GOp.pv).length=t.length:=by simp
 have lr:(l.map GRow.pv).length=l.length:=by simp
 have hcount:=count_run s (by omega) [] (n:=F - 1) (by omega)
 rw [show F - 1+1=F by omega] at hcount
 have htm:=times_le s 1
 rw [acall_code T58,run_pure rfl rfl rfl]
 unfold concatL
 by_cases h1:(validE l s 1048576).2=0
 rotate_left
 ·have e1:((validE l s 1048576).2==0)=false:=by simpa using h1
  rw [eC,if_pos h1]
  generalize (validE l s 1048576).1=a at *
  generalize (validE l s 1048576).2=e at *
  generalize (midR l s).map GRow.pv=M at *
  simp -implicitDefEqProofs (disch:=omega) only [Rx,simprocAttr,F58,hv1,e1,h1]
 rw [if_neg (by simpa using h1)] at eC
 rw [h1] at hv1
 generalize (validE l s 1048576).1=a0 at hv1
 by_cases h2:(validE (midR l s) t 1048576).2=0
 rotate_left
 ·have e1:((validE (midR l s) t 1048576).2==0)=false:=by simpa using h2
  have hat:(validE (midR l s) t 1048576).1≤1048576:=by have:=validE_le (midR l s) t 1048576;omega
  rw [eC,if_pos h2]
  generalize (validE (midR l s) t 1048576).1=a at *
  generalize (validE (midR l s) t 1048576).2=e at *
  generalize (midR l s).map GRow.pv=M at *
  simp -implicitDefEqProofs (disch:=omega) only [Rx,simprocAttr,F58,hv1,hv2,ls,e1,h2]
 rw [if_neg (by simpa using h2)] at eC
 have hop:=validE_ops h2
 rw [h2] at hv2
 generalize (validE (midR l s) t 1048576).1=a1 at hv2
 have hmade:((l.length:Int)+times s 1)≤4194304:=by omega
 have ha1:=other_ans (midR l s) (by omega) ((l.length:Int)+times s 1) (by omega) hmade (F - 2)
 have hsh2:=shift_run t (fun x hx=>(ht x hx).1) (by omega) (by decide) (fun ks=>by simp [capsT,mentionsL,mentions]) (by decide) ha1 (fun x hx=>opErr_hand (hop x hx)) (by omega) [.pcells 9 (s.map GOp.pv)]
 have ha2:=same_ans (memT (midR l s) ((l.length:Int)+times s 1)) (F - 2)
 have hsh1:=shift_run s (fun x hx=>(hs x hx).1) (by omega) (by decide) (fun ks=>rfl) (by decide) ha2 (fun x hx=>⟨trivial,trivial,trivial⟩) (by omega) []
 rw [show F - 2+1+1=F by omega] at hsh1 hsh2
 rw [eC,if_pos rfl,List.map_append]
 rw [shiftOp_id] at hsh1
 have lt2:((t.map (shiftOp (otherH (midR l s) ((l.length:Int)+times s 1)))).map GOp.pv).length=t.length:=by simp
 have ha9:(s.map GOp.pv).all (fun x=>x.length==9)=true:=by simp [List.all_eq_true,GOp.pv]
 have hb9:((t.map (shiftOp (otherH (midR l s) ((l.length:Int)+times s 1)))).map GOp.pv).all (fun x=>x.length==9)=true:=by simp [List.all_eq_true,GOp.pv]
 have hm2:memT (midR l s) ((l.length:Int)+times s 1)=[.pcells 6 [],.cells 1 [[.p (.list ((midR l s).map GRow.pv))]],.pcells 1 [[.int .i64 ((l.length:Int)+times s 1)]]]:=rfl
 rw [hm2] at hsh1 hsh2
 generalize (t.map (shiftOp (otherH (midR l s) ((l.length:Int)+times s 1)))).map GOp.pv=Y at *
 generalize s.map GOp.pv=X at *
 generalize (midR l s).map GRow.pv=M at *
 generalize times s 1=t1 at *
 simp only [capsT,List.append_nil,List.cons_append,List.nil_append,List.length_cons,List.length_nil] at hsh1 hsh2
 have hcap:(s.length+t.length)*120≤140737488355328:=by omega
 have hbig:¬ (1048576:Int)<((s.length+t.length:Nat):Int):=by omega
 simp -implicitDefEqProofs (disch:=omega) only [Rx,simprocAttr,F58,hv1,hv2,hcount,hsh1,hsh2,ls,lr,lt2,hb9,hcap,List.length_append]
end Go.TA.Tryz


end
section
/- Two scripts together: the document's answer. -/
set_option maxRecDepth 100000
set_option maxHeartbeats 8000000
namespace Go.TA.Tryz
theorem refOther_run (mid:List GRow) (hmid:mid.length≤1048576) (made:Int) (hm:0≤made) (hm2:made≤4194304) {h:Int} (hh:hand32 h) (g:List AObj) (n:Nat) :
  acall T (n+1) 59 [.p (.int .i64 h),.p (.list (mid.map GRow.pv)),.p (.int .i64 made)] g=some (.p (.int .i64 (otherH mid made h)),g):=by
 have ml:(mid.map GRow.pv).length=mid.length:=by simp
 obtain ⟨h1,h2⟩:=hh
 rw [acall_code T59,run_pure rfl rfl rfl]
 by_cases h0:h=0
 ·subst h0
  have e:otherH mid made 0=0:=rfl
  rw [e]
  simp -implicitDefEqProofs (disch:=omega) only [Rx,simprocAttr,F59]
 have e0:(h==0)=false:=by simpa using h0
 by_cases hle:h≤(mid.length:Int)
 ·obtain ⟨k,rfl⟩:∃ k:Nat,h=(k:Int)+1:=⟨(h - 1).toNat,by omega⟩
  obtain ⟨x,hx⟩:=get_some (show k<mid.length by omega)
  have hg:=getD_map (f:=GRow.pv) hx
  have e1:(k:Int)+1 - 1=(k:Int):=by omega
  have e:otherH mid made ((k:Int)+1)=x.id:=by
   unfold otherH
   rw [if_neg h0,if_pos hle,e1,Int.toNat_natCast,hx];rfl
  have k1:(k:Int)<(mid.length:Int):=by omega
  have hnl:¬ (mid.length:Int)<(k:Int)+1:=by omega
  rw [e]
  simp -implicitDefEqProofs (disch:=omega) only [Rx,simprocAttr,F59,e0,hnl,ml,hg,GRow.pv,e1,k1]
 ·have e:otherH mid made h=made+h - (mid.length:Int):=by
   unfold otherH
   rw [if_neg h0,if_neg hle]
  have hgl:(mid.length:Int)<h:=by omega
  rw [e]
  simp -implicitDefEqProofs (disch:=omega) only [Rx,simprocAttr,F59,e0,hgl,ml]
def ofS (mid:List GRow) (made:Int) (t:List GOp) (A:List (List PV)) (i:Nat):St:=⟨[(2,.p (.list (t.map GOp.pv))),(9,.p (.list (mid.map GRow.pv))),(15,.p (.int .i64 made)),(16,.own false 1000 A.length),(59,.p (.int .i64 t.length)),(60,.p (.int .i64 i))],[(1000,.pcells 9 A)],[]⟩
theorem of_loop (mid:List GRow) (hmid:mid.length≤1048576) (made:Int) (hm:0≤made) (hm2:made≤4194304) (s t:List GOp) (hs:s.length≤1048576) (ht:t.length≤1048576) (hok:∀ x ∈ t,okH hand32 x) {n:Nat} (hn:t.length<n) :
  aexec (acall T n) n (.loop B32x0) (ofS mid made t (s.map GOp.pv) 0)=some (.exit 0,⟨[(16,.own false 1000 (s.length+t.length))],[(1000,.pcells 9 ((s++t.map (shiftOp (otherH mid made))).map GOp.pv))],[]⟩):=by
 have lt:(t.map GOp.pv).length=t.length:=by simp
 have key:=loop_rule' (C:=acall T n) (N:=n) (B:=B32x0) (σ := Nat) (S:=fun i=>ofS mid made t ((s++(t.take i).map (shiftOp (otherH mid made))).map GOp.pv) i)
  (I:=fun i=>i≤t.length) (μ := fun i=>t.length - i) (Φ := fun i=>(.exit 0,⟨[(16,.own false 1000 (s.length+t.length))],[(1000,.pcells 9 ((s++t.map (shiftOp (otherH mid made))).map GOp.pv))],[]⟩)) ?_ 0 (by omega) (by omega)
 ·simpa using key
 intro i hi
 by_cases h:i<t.length
 ·left
  obtain ⟨x,hx⟩:=get_some h
  have hg:=getD_map (f:=GOp.pv) hx
  have k1:(i:Int)<(t.length:Int):=by omega
  obtain ⟨o1,o2,o3⟩:=hok x (List.mem_of_getElem? hx)
  obtain ⟨m,rfl⟩:∃ m,n=m+1:=⟨n - 1,by omega⟩
  have c1:=refOther_run mid hmid made hm hm2 o1 [] m
  have c2:=refOther_run mid hmid made hm hm2 o2 [] m
  have c3:=refOther_run mid hmid made hm hm2 o3 [] m
  have hS:(s++(t.take (i+1)).map (shiftOp (otherH mid made))).map GOp.pv=(s++(t.take i).map (shiftOp (otherH mid made))).map GOp.pv++[(shiftOp (otherH mid made) x).pv]:=by
   rw [List.take_add_one,hx]
   simp
  have hli:((s++(t.take i).map (shiftOp (otherH mid made))).map GOp.pv).length≤2097152:=by simp;omega
  refine ⟨i+1, ?_,by omega,by omega,rfl⟩
  rw [hS]
  generalize (s++(t.take i).map (shiftOp (otherH mid made))).map GOp.pv=A at hli
  simp only [GOp.pv,attrsPV,shiftOp,ofS] at hg ⊢
  simp -implicitDefEqProofs (disch:=omega) only [Rx,simprocAttr,B32x0,k1,lt,hg,c1,c2,c3,List.length_append]
 ·right
  obtain rfl:i=t.length:=by omega
  have k1:¬ (t.length:Int)<(t.length:Int):=by omega
  refine ⟨?_,by simp⟩
  have e:((s++(t.take t.length).map (shiftOp (otherH mid made))).map GOp.pv).length=s.length+t.length:=by simp
  simp only [ofS,e]
  rw [List.take_length]
  simp -implicitDefEqProofs (disch:=omega) only [Rx,simprocAttr,B32x0,k1]
theorem refOf_run (l:List GRow) (hsm:Rows.mid 1048577 l) (s t:List GOp) (hs:∀ x ∈ s,smallOp x) (ht:∀ x ∈ t,smallOp x) (hl:l.length≤200000) (hsl:s.length≤200000) (htl:t.length≤200000) (g:List AObj) {F:Nat}
  (hF:bnd l.length s.length+bnd l.length s.length+6000001<F) (hF2:bnd (midR l s).length t.length+bnd (midR l s).length t.length+6000001<F) :
  acall T (F+1) 32 [.p (.list (l.map GRow.pv)),.p (.list (s.map GOp.pv)),.p (.list (t.map GOp.pv))] g=some (.tuple [.p (.list ((concatL l s t).map GOp.pv)),.p (.int .i64 (concatE l s t).1),.p (.int .i64 (concatE l s t).2)],g):=by
 obtain ⟨hmid,hml⟩:=validR_mid l hsm s hs (by omega) (by omega) 1048576
 have eM:midR l s=validR l s 1048576:=rfl
 rw [← eM] at hmid hml
 have hv1:=valid_ref l hsm s hs (by omega) (by omega) 1048576 [] (F:=F - 1) (by omega)
 have hv2:=valid_ref (midR l s) hmid t ht (by omega) (by omega) 1048576 [] (F:=F - 1) (by omega)
 rw [show F - 1+1=F by omega] at hv1 hv2
 rw [← eM] at hv1
 have eC:concatE l s t=if (validE l s 1048576).2≠0 then validE l s 1048576 else if (validE (midR l s) t 1048576).2≠0 then (s.length+(validE (midR l s) t 1048576).1,(validE (midR l s) t 1048576).2) else (0,0):=rfl
 have ls:(s.map GOp.pv).length=s.length:=by simp
 have lt:(t.map GOp.pv).length=t.length:=by simp
 have lr:(l.map GRow.pv).length=l.length:=by simp
 have hcount:=times_run s (by omega) 1 [] (n:=F - 1) (by omega)
 rw [show F - 1+1=F by omega] at hcount
 have htm:=times_le s 1
 rw [acall_code T32,run_pure rfl rfl rfl]
 unfold concatL
 by_cases h1:(validE l s 1048576).2=0
 rotate_left
 ·have e1:((validE l s 1048576).2==0)=false:=by simpa using h1
  rw [eC,if_pos h1]
  generalize (validE l s 1048576).1=a at *
  generalize (validE l s 1048576).2=e at *
  generalize (midR l s).map GRow.pv=M at *
  simp -implicitDefEqProofs (disch:=omega) only [Rx,simprocAttr,F32,hv1,e1,h1]
 rw [if_neg (by simpa using h1)] at eC
 rw [h1] at hv1
 generalize (validE l s 1048576).1=a0 at hv1
 by_cases h2:(validE (midR l s) t 1048576).2=0
 rotate_left
 ·have e1:((validE (midR l s) t 1048576).2==0)=false:=by simpa using h2
  have hat:(validE (midR l s) t 1048576).1≤1048576:=by have:=validE_le (midR l s) t 1048576;omega
  rw [eC,if_pos h2]
  generalize (validE (midR l s) t 1048576).1=a at *
  generalize (validE (midR l s) t 1048576).2=e at *
  generalize (midR l s).map GRow.pv=M at *
  simp -implicitDefEqProofs (disch:=omega) only [Rx,simprocAttr,F32,hv1,hv2,ls,e1,h2]
 rw [if_neg (by simpa using h2)] at eC
 have hop:=validE_ops h2
 rw [h2] at hv2
 generalize (validE (midR l s) t 1048576).1=a1 at hv2
 have hloop:=of_loop (midR l s) (by omega) ((l.length:Int)+times s 1) (by omega) (by omega) s t (by omega) (by omega) (fun x hx=>opErr_hand (hop x hx)) (n:=F) (by omega)
 rw [eC,if_pos rfl]
 have hlen:((s++t.map (shiftOp (otherH (midR l s) ((l.length:Int)+times s 1)))).map GOp.pv).length=s.length+t.length:=by simp
 have ha9:(s.map GOp.pv).all (fun x=>x.length==9)=true:=by simp [List.all_eq_true,GOp.pv]
 simp only [ofS,ls,Int.natCast_zero] at hloop
 generalize (s++t.map (shiftOp (otherH (midR l s) ((l.length:Int)+times s 1)))).map GOp.pv=Y at *
 generalize s.map GOp.pv=X at *
 generalize (midR l s).map GRow.pv=M at *
 generalize times s 1=t1 at *
 have hcap:s.length*120≤140737488355328:=by omega
 have hbig:¬ (1048576:Int)<(s.length:Int)+(t.length:Int):=by omega
 simp -implicitDefEqProofs (disch:=omega) only [Rx,simprocAttr,F32,hv1,hv2,hcount,hloop,ls,lt,lr,hlen,ha9,hbig]
end Go.TA.Tryz


end
section
/- Are rows, or scripts, more than are gone through? -/
set_option maxRecDepth 100000
set_option maxHeartbeats 8000000
namespace Go.TA.Tryz
def opsPV (l:List GOp):List PV:=[.list (l.map GOp.pv)]
def heavyB (l:List GRow) (Ls:List (List GOp)):Bool:=decide (5<Ls.length) || (!fewRows l 100 || Ls.any fun L => !fewOps L 100)
theorem heavy_run (l:List GRow) (Ls:List (List GOp)) (hsm:Rows.small 1048577 l) (hL:∀ L ∈ Ls,L.length≤1048576∧∀ x ∈ L,smallOp x) (hLs:Ls.length≤1048576) (g:List AObj) {n:Nat} (hn:1048577<n) :
    acall T (n+2) 29 [.p (.list (l.map GRow.pv)),.p (.list (Ls.map opsPV))] g=some (.p (.bool (heavyB l Ls)),g):=by
  have hfr:=fun g=>fewR_run l 100 g hsm (Nat.le_refl _) (by omega) (by omega) (m:=n) (by omega)
  have hfo:=fun L (hm:L ∈ Ls) g=>few_run L 100 g (n:=n) (fun y hy=>⟨(hL L hm).2 y hy,by have:=((hL L hm).2 y hy).1;omega⟩) (hL L hm).1 (by have:=(hL L hm).1;omega) (by omega) (by omega)
  have ll:(Ls.map opsPV).length=Ls.length:=by simp
  rw [acall_code T29,run_pure rfl rfl rfl]
  by_cases h5:5<Ls.length
  · have k5:(5:Int)<(Ls.length:Int):=by omega
    have e:heavyB l Ls=true:=by simp [heavyB,h5]
    rw [e]
    simp -implicitDefEqProofs (disch:=omega) only [Rx,simprocAttr,F29,ll,k5]
  have k5:¬ (5:Int)<(Ls.length:Int):=by omega
  cases h1:fewRows l 100 with
  | false =>
    rw [h1] at hfr
    have e:heavyB l Ls=true:=by simp [heavyB,h1]
    rw [e]
    simp -implicitDefEqProofs (disch:=omega) only [Rx,simprocAttr,F29,ll,k5,hfr]
  | true=>
  rw [h1] at hfr
  have e:heavyB l Ls=Ls.any fun L => !fewOps L 100:=by simp [heavyB,h1,h5]
  rw [e]
  have key:=loop_inv (C:=acall T (n+1)) (N:=n+1) (B:=B29x0) (σ := Nat) (S:=fun i=>⟨[(1,.p (.list (Ls.map opsPV))),(15,.p (.int .i64 Ls.length)),(16,.p (.int .i64 i))],[],[]⟩)
    (I:=fun i=>i≤Ls.length∧((Ls.any fun L => !fewOps L 100)=(Ls.drop i).any fun L => !fewOps L 100)) (μ := fun i=>Ls.length - i) (Q:=fun r=>((Ls.any fun L => !fewOps L 100)=true∧r=(.ret,⟨[(4,.p (.bool true))],[],[]⟩))∨((Ls.any fun L => !fewOps L 100)=false∧r=(.exit 0,⟨[],[],[]⟩))) ?_ 0 (by simp) (by omega)
  · obtain ⟨r,hr,hq⟩:=key
    simp only [Int.natCast_zero] at hr
    rcases hq with ⟨e,rfl⟩ | ⟨e,rfl⟩
    · rw [e]
      simp -implicitDefEqProofs (disch:=omega) only [Rx,simprocAttr,F29,ll,k5,hfr,hr]
    · rw [e]
      simp -implicitDefEqProofs (disch:=omega) only [Rx,simprocAttr,F29,ll,k5,hfr,hr]
  rintro i ⟨hi,hd⟩
  by_cases h:i<Ls.length
  · obtain ⟨L,hx⟩:=get_some h
    have hg:(Ls.map opsPV).getD i []=opsPV L:=getD_map (f:=opsPV) hx
    have k1:(i:Int)<(Ls.length:Int):=by omega
    have hf:=hfo L (List.mem_of_getElem? hx)
    have hdr:Ls.drop i=L::Ls.drop (i+1):=by rw [List.drop_eq_getElem?_toList_append,hx];rfl
    rw [hdr,List.any_cons] at hd
    cases h2:fewOps L 100 with
    | false =>
      right
      rw [h2] at hf hd
      refine ⟨_, ?_, ?_,.inl ⟨by simpa using hd,rfl⟩⟩
      · simp -implicitDefEqProofs (disch:=omega) only [Rx,simprocAttr,B29x0,k1,ll,hg,opsPV,hf]
      · simp
    | true =>
      left
      rw [h2] at hf hd
      refine ⟨i+1, ?_,⟨by omega,by simpa using hd⟩,by omega⟩
      simp -implicitDefEqProofs (disch:=omega) only [Rx,simprocAttr,B29x0,k1,ll,hg,opsPV,hf]
  · right
    obtain rfl:i=Ls.length:=by omega
    have k1:¬ (Ls.length:Int)<(Ls.length:Int):=by omega
    rw [List.drop_length] at hd
    refine ⟨_, ?_, ?_,.inr ⟨hd,rfl⟩⟩
    · simp -implicitDefEqProofs (disch:=omega) only [Rx,simprocAttr,B29x0,k1]
    · simp
end Go.TA.Tryz


end
section
/- Attributes held against themselves. -/
set_option maxRecDepth 100000
set_option maxHeartbeats 8000000
namespace Go.TA.Tryz
theorem attrsEq_run (l:List Attr) (hl:l.length≤4194304) (g:List AObj) {n:Nat} (hn:l.length<n):acall T (n+1) 60 [.p (.list (l.map Attr.pv)),.p (.list (l.map Attr.pv))] g=some (.p (.bool true),g):=by
 have ll:(l.map Attr.pv).length=l.length:=by simp
 have hl:=loop_rule' (C:=acall T n) (N:=n) (B:=B60x0) (σ := Nat) (S:=fun i=>⟨[(0,.p (.list (l.map Attr.pv))),(1,.p (.list (l.map Attr.pv))),(12,.p (.int .i64 l.length)),(13,.p (.int .i64 i))],[],[]⟩) (I:=fun i=>i≤l.length) (μ := fun i=>l.length - i) (Φ := fun i=>(.exit 0,⟨[],[],[]⟩)) ?_ 0 (by omega) (by omega)
 ·rw [acall_code T60,run_pure rfl rfl rfl]
  simp only [Int.natCast_zero] at hl
  simp -implicitDefEqProofs (disch:=omega) only [Rx,simprocAttr,F60,hl,ll]
 intro i hi
 by_cases h:i<l.length
 ·left
  obtain ⟨x,hx⟩:=get_some h
  have hg:=getD_map (f:=Attr.pv) hx
  have k1:(i:Int)<(l.length:Int):=by omega
  refine ⟨i+1, ?_,by omega,by omega,rfl⟩
  simp -implicitDefEqProofs (disch:=omega) only [Rx,simprocAttr,B60x0,k1,ll,hg,Attr.pv,Bool.and_self]
 ·right
  obtain rfl:i=l.length:=by omega
  have k1:¬ (l.length:Int)<(l.length:Int):=by omega
  refine ⟨?_,by simp⟩
  simp -implicitDefEqProofs (disch:=omega) only [Rx,simprocAttr,B60x0,k1]
end Go.TA.Tryz


end
section
/- Scripts held against themselves. -/
set_option maxRecDepth 100000
set_option maxHeartbeats 8000000
namespace Go.TA.Tryz
theorem opEq_run (x:GOp) (hx:x.attrs.length≤4194304) (g:List AObj) {n:Nat} (hn:x.attrs.length<n):acall T (n+2) 57 [.p (.agg x.pv),.p (.agg x.pv)] g=some (.p (.bool true),g):=by
 have ha:=fun g=>attrsEq_run x.attrs hx g hn
 rw [acall_code T57,run_pure rfl rfl rfl]
 simp -implicitDefEqProofs (maxSteps:=4000000) (disch:=omega) only [Rx,simprocAttr,sameG_self,F57,GOp.pv,attrsPV,ha]
theorem opsEq_run (L:List GOp) (hl:L.length≤4194304) (ha:∀ x ∈ L,x.attrs.length≤4194304) (g:List AObj) {n:Nat} (hn:L.length<n) (hn2:4194304<n):acall T (n+3) 33 [.p (.list (L.map GOp.pv)),.p (.list (L.map GOp.pv))] g=some (.p (.bool true),g):=by
 have ll:(L.map GOp.pv).length=L.length:=by simp
 have hl:=loop_rule' (C:=acall T (n+2)) (N:=n+2) (B:=B33x0) (σ := Nat) (S:=fun i=>⟨[(0,.p (.list (L.map GOp.pv))),(1,.p (.list (L.map GOp.pv))),(12,.p (.int .i64 L.length)),(13,.p (.int .i64 i))],[],[]⟩) (I:=fun i=>i≤L.length) (μ := fun i=>L.length - i) (Φ := fun i=>(.exit 0,⟨[],[],[]⟩)) ?_ 0 (by omega) (by omega)
 ·rw [acall_code T33,run_pure rfl rfl rfl]
  simp only [Int.natCast_zero] at hl
  simp -implicitDefEqProofs (disch:=omega) only [Rx,simprocAttr,F33,hl,ll]
 intro i hi
 by_cases h:i<L.length
 ·left
  obtain ⟨x,hx⟩:=get_some h
  have hg:=getD_map (f:=GOp.pv) hx
  have hxa:=ha x (List.mem_of_getElem? hx)
  have k1:(i:Int)<(L.length:Int):=by omega
  have he:=opEq_run x hxa [] (n:=n) (by omega)
  simp only [GOp.pv,attrsPV] at he
  refine ⟨i+1, ?_,by omega,by omega,rfl⟩
  simp -implicitDefEqProofs (disch:=omega) only [Rx,simprocAttr,B33x0,k1,ll,hg,GOp.pv,attrsPV,he]
 ·right
  obtain rfl:i=L.length:=by omega
  have k1:¬ (L.length:Int)<(L.length:Int):=by omega
  refine ⟨?_,by simp⟩
  simp -implicitDefEqProofs (disch:=omega) only [Rx,simprocAttr,B33x0,k1]
end Go.TA.Tryz


end
section
/- The example that the statements contain, run. -/
set_option maxRecDepth 100000
namespace Go.TA.Tryz
theorem same31 (n:Nat):acall T (n+80) 30 [] []=some (.p (.bool true),[]):=by kernel_rfl
end Go.TA.Tryz


end
section
/- The law ConcatOf, in the machine. -/
set_option maxRecDepth 100000
set_option maxHeartbeats 8000000
namespace Go.TA.Tryz
theorem concatL_len (l:List GRow) (s t:List GOp) (hs:∀ x ∈ s,smallOp x) (ht:∀ x ∈ t,smallOp x):(concatL l s t).length≤s.length+t.length∧∀ x ∈ concatL l s t,x.attrs.length≤1048576:=by
 unfold concatL
 split
 ·refine ⟨by simp,fun x hx => ?_⟩
  rcases List.mem_append.1 hx with h | h
  ·exact (hs x h).1
  ·obtain ⟨y,hy,rfl⟩:=List.mem_map.1 h
   exact (ht y hy).1
 ·exact ⟨by simp,by simp⟩
theorem concatOf_run (l:List GRow) (s t:List GOp) (hsm:Rows.small 1048577 l) (hs:∀ x ∈ s,smallOp x) (hsl:s.length≤1048575) (ht:∀ x ∈ t,smallOp x) (htl:t.length≤1048575) :
    ∃ n,acall T n 6 [.p (.list (l.map GRow.pv)),.p (.list (s.map GOp.pv)),.p (.list (t.map GOp.pv))] []=some (.p (.bool true),[]):=by
  have hlen:=hsm.len
  obtain ⟨F,hF⟩:∃ F,F=bnd l.length s.length+bnd l.length s.length+(bnd (midR l s).length t.length+bnd (midR l s).length t.length)+12000000:=⟨_,rfl⟩
  refine ⟨F+1, ?_⟩
  have hsame:=same31 (F - 80)
  rw [show F - 80+80=F by omega] at hsame
  have hhv:=heavy_run l [s,t] hsm (fun L hL=>by
    simp only [List.mem_cons,List.not_mem_nil,or_false] at hL
    rcases hL with rfl | rfl
    · exact ⟨by omega,hs⟩
    · exact ⟨by omega,ht⟩) (by simp) [] (n:=F - 2) (by omega)
  rw [show F - 2+2=F by omega] at hhv
  simp only [List.map_cons,List.map_nil,opsPV] at hhv
  rw [acall_code T6,run_pure rfl rfl rfl]
  cases h1:heavyB l [s,t] with
  | true =>
    rw [h1] at hhv
    simp -implicitDefEqProofs (disch:=omega) only [Rx,simprocAttr,F6,hhv,hsame]
  | false=>
  rw [h1] at hhv
  simp only [heavyB,List.any_cons,List.any_nil,Bool.or_eq_false_iff,Bool.not_eq_false',Bool.or_false] at h1
  obtain ⟨_,h2,h3,h4⟩:=h1
  have l1:=fewRows_len h2
  have l2:=fewOps_len h3
  have l3:=fewOps_len h4
  have hp:=two_run l hsm.mid s t hs ht (by omega) (by omega) (by omega) [] (F:=F - 2) (by omega) (by omega)
  rw [show F - 2+1=F - 1 by omega] at hp
  have hr:=refOf_run l hsm.mid s t hs ht (by omega) (by omega) (by omega) [] (F:=F - 1) (by omega) (by omega)
  rw [show F - 1+1=F by omega] at hr
  obtain ⟨v1,v2⟩:=concatL_len l s t hs ht
  have he:=opsEq_run (concatL l s t) (by omega) (fun x hx=>by have:=v2 x hx;omega) [] (n:=F - 3) (by omega) (by omega)
  rw [show F - 3+3=F by omega] at he
  have hpo:acall T F 31 [.p (.list (l.map GRow.pv)),.p (.list (s.map GOp.pv)),.p (.list (t.map GOp.pv))] []=some (.tuple [.p (.list ((concatL l s t).map GOp.pv)),.p (.int .i64 (concatE l s t).1),.p (.int .i64 (concatE l s t).2)],[]):=by
    rw [show F=F - 1+1 by omega,acall_code T31,run_pure rfl rfl rfl]
    generalize (concatL l s t).map GOp.pv=X at *
    simp -implicitDefEqProofs (disch:=omega) only [Rx,simprocAttr,F31,hp]
  generalize (concatL l s t).map GOp.pv=X at *
  generalize (concatE l s t).1=a at *
  generalize (concatE l s t).2=e at *
  simp -implicitDefEqProofs (disch:=omega) only [Rx,simprocAttr,F6,hhv,hpo,hr,he,hsame]
end Go.TA.Tryz


end
section
/- The law ConcatOf, for every input of bulk at most 1048576: the call returns true, and nothing that was there has changed. -/
namespace Go.Proofs.YtnjblmbobmbgkaaGreatDoor.concatOf
open Go.ChangeShapes Go.WideShapes Go.ChangeAt Go.RowKit Go.TA
set_option maxRecDepth 100000
theorem own:ownKnob Tryz.prog.godebug=none:=by kernel_rfl
theorem kids:Kids Tryz.prog (· < Tryz.prog.types.size):=kids_rows (by kernel_rfl) (by kernel_rfl)
theorem full:∀ t e,t<Tryz.prog.types.size→Tryz.prog.underlying t=some (.slice e)→0<Tryz.prog.cellsOf e:=slices_full_of Tryz.prog (by kernel_rfl)
theorem bulk {H:Type}:Bulk (H:=H) Rows.uptoBulk Rows.uptoBulkAll where
 str bs:=by simp [Rows.uptoBulk]
 lit l:=by cases l <;> simp [Rows.uptoBulk]
 nil:=by simp [Rows.uptoBulk]
 slice a b:=by simp [Rows.uptoBulk]
 agg a:=by simp [Rows.uptoBulk]
 nilA:=by simp [Rows.uptoBulkAll]
 consA d r:=by simp [Rows.uptoBulkAll]
theorem laidVars_tail {P:Program} {w:World} {x:String × DataW Unit} {r:List (String × DataW Unit)} {ps:List MemPlace} (h:DataW.LaidVars P w (x::r) ps):∃ qs,DataW.LaidVars P w r qs:=by
 obtain ⟨n,d⟩:=x
 obtain ⟨g,t,cs,fuel,p,q,_,_,_,_,hq,_⟩:=h
 exact ⟨q,hq⟩
theorem tab_of_vars {P:Program} {W:World} {name:String} {k:IntKind} {zs:List Int} {rest:List (String × DataW Unit)} {ps:List MemPlace} {g:Nat} {t e:TypeId} {n:Nat}
  (hg:P.globalNamed name=some g) (hty:(P.globals[g]?).map (·.type)=some t) (ht:P.underlying t=some (.array n e)) (he:P.underlying e=some (.int k)) (hce:P.cellsOf e=1) (hct:P.cellsOf t=n)
  (h:DataW.LaidVars P W ((name,Lib.tabData k zs)::rest) ps):Lib.TabIs P W name k zs:=by
 obtain ⟨g',t',cs,fuel,p,q,hg',ht',hvar,hd,_,_⟩:=h
 obtain rfl:=Option.some.inj (hg.symm.trans hg')
 obtain rfl:=Option.some.inj (hty.symm.trans ht')
 unfold Lib.TabIs
 rw [hvar, ← Lib.cells_of_tab ht he hce hct hd]
theorem table {W:World} (h:laidMetH Tryz.prog Rows.concatOfRow.laid W):Lib.TabIs Tryz.prog W "internal/strconv.uint64pow10" .u64 Lib.pow10Tab:=by
 have h':laidMet Tryz.prog Rows.concatOfRow.laid W:=h
 obtain ⟨ps,hv,_⟩:=h'
 obtain ⟨qs,hv⟩:=laidVars_tail hv
 obtain ⟨qs,hv⟩:=laidVars_tail hv
 exact tab_of_vars (g:=0) (t:=176) (e:=167) (n:=20) (rest:=[]) (by kernel_rfl) (by kernel_rfl) (by kernel_rfl) (by kernel_rfl) (by kernel_rfl) (by kernel_rfl) hv
def types:List TypeId:=[22,68,23,37,3,9,35,70]
theorem closed:closedB Tryz.prog 9 types=true:=by decide +kernel
theorem shRows:shOf Tryz.prog 9 22=some [.sl 68]:=by decide +kernel
theorem shRow:shOf Tryz.prog 9 68=some (rowSh 70):=by decide +kernel
theorem shOps:shOf Tryz.prog 9 23=some [.sl 37]:=by decide +kernel
theorem shOp:shOf Tryz.prog 9 37=some (opSh 70):=by decide +kernel
theorem shAttr:shOf Tryz.prog 9 70=some [.str,.str]:=by decide +kernel
theorem params:Tryz.f6.params.toList=[22,23,23]:=by kernel_rfl
theorem bulk_ops:∀ (L:List GOp),(∀ x ∈ L,bulkL x.pv≤bulkLL (L.map GOp.pv))∧9*L.length≤bulkLL (L.map GOp.pv)
  | []=>by simp [bulkLL]
  | a :: l => by
    obtain ⟨h1,h2⟩:=bulk_ops l
    have:=bulk_op a
    simp only [List.map_cons,bulkLL,List.length_cons]
    refine ⟨fun b hb => ?_,by omega⟩
    rcases List.mem_cons.1 hb with rfl | hb
    · omega
    · have:=h1 b hb;omega
theorem contract (H:Type) (enc:TypeId × Value→H) (W:World) (base:Nat) (args:Array Value) (ds gs:List (DataW H)) (before:List MemPlace)
  (hval:∀ (j:Nat) t v,Tryz.f6.params[j]? = some t→args[j]? = some v→Value.okWide Tryz.prog W .any base t v)
  (hW:DataW.Whole enc Tryz.prog Tryz.f6.params.toList Rows.concatOfSpec.vars false W args.toList ds gs before) (hk:Rows.uptoSmall H (ds++gs)=true) (hL:laidMetH Tryz.prog Rows.concatOfRow.laid W) :
  Calls Tryz.prog 6 args W fun e W'=>∃ v,e = .returned v∧Rows.concatOfSpec.post enc Tryz.prog Tryz.f6 false true false false W args v W':=by
 have hW':=hW
 obtain ⟨p,q,hA,hV,rfl,_,_⟩:=hW'
 obtain ⟨rfl,rfl⟩:=trodVars_none hV
 rw [List.append_nil] at hk
 have hbound:Rows.uptoBulkAll ds≤1048576:=of_decide_eq_true hk
 have hlen:=trod_len hA
 rw [params] at hA hlen
 obtain ⟨pss,h1,h2,h3,h4⟩:=args_rel (gs:=types) (D0:=9) kids full bulk closed hA (by decide) (fun j t v hj hv=>⟨_,_,hval j t v (by rw [← Array.getElem?_toList,params];exact hj) (by simpa using hv)⟩)
 match pss,h1 with
 | [ps1,ps2,ps3],h1=>
 obtain ⟨⟨shs1,hs1,hok1⟩,⟨shs2,hs2,hok2⟩,⟨shs3,hs3,hok3⟩,_⟩:=h1
 rw [shRows] at hs1
 rw [shOps] at hs2
 rw [shOps] at hs3
 simp only [Option.some.injEq] at hs1 hs2 hs3
 subst hs1 hs2 hs3
 obtain ⟨xs1,r1,rfl,hx1,hr1⟩:=dec_list shRow hok1
 obtain rfl:=dec_nil hr1
 obtain ⟨l1,rfl,hl1⟩:=dec_rows shAttr hx1
 obtain ⟨xs2,r2,rfl,hx2,hr2⟩:=dec_list shOp hok2
 obtain rfl:=dec_nil hr2
 obtain ⟨l2,rfl,hl2⟩:=dec_ops shAttr hx2
 obtain ⟨xs3,r3,rfl,hx3,hr3⟩:=dec_list shOp hok3
 obtain rfl:=dec_nil hr3
 obtain ⟨l3,rfl,hl3⟩:=dec_ops shAttr hx3
 have hb1:bulkLL (l1.map GRow.pv)<1048577:=by simp only [bulkLL,bulkL,PV.bulk] at h2;omega
 have hb2:bulkLL (l2.map GOp.pv)≤1048575:=by simp only [bulkLL,bulkL,PV.bulk] at h2;omega
 have hb3:bulkLL (l3.map GOp.pv)≤1048575:=by simp only [bulkLL,bulkL,PV.bulk] at h2;omega
 obtain ⟨fuel,hrun⟩:=Go.TA.Tryz.concatOf_run l1 l2 l3 (small_rows hb1 (Nat.le_refl _)) (fun x hx=>(Go.TA.Tryz.smallOp_of (n:=1048576) (by have:=(bulk_ops l2).1 x hx;omega) (Nat.le_refl _)).1) (by have:=(bulk_ops l2).2;omega) (fun x hx=>(Go.TA.Tryz.smallOp_of (n:=1048576) (by have:=(bulk_ops l3).1 x hx;omega) (Nat.le_refl _)).1) (by have:=(bulk_ops l3).2;omega)
 have ha0:aggT Tryz.prog 22=false:=by decide +kernel
 have ha1:aggT Tryz.prog 23=false:=by decide +kernel
 have hargs:argsOf Tryz.prog [22,23,23] [[.list (l1.map GRow.pv)],[.list (l2.map GOp.pv)],[.list (l3.map GOp.pv)]]=[.list (l1.map GRow.pv),.list (l2.map GOp.pv),.list (l3.map GOp.pv)]:=by simp [argsOf,argOf,ha0,ha1]
 rw [hargs] at h3 h4
 refine (law_calls_at (ΓW_holds (table hL)) Go.TA.Tryz.mixed (Go.TA.Tryz.T_okW W) (ps:=[.list (l1.map GRow.pv),.list (l2.map GOp.pv),.list (l3.map GOp.pv)]) hrun (by simpa using h3) h4).mono fun e W' ⟨he,hB⟩=>⟨_,he, ?_⟩
 refine law_post kids full hW rfl (tb:=4) rfl (by kernel_rfl) (by rw [params];decide +kernel) ?_ hB
 match ds,hlen with
 | [d1,d2,d3],_=>rfl
def wargs:Array Value := #[.slice none 0 0,.slice none 0 0,.slice none 0 0]
def put (k:IntKind) (zs:List Int):Obj→Obj
 | .cells _ t frozen => .cells (zs.map fun z=>Value.int k z).toArray t frozen
 | o=>o
def bits32:List Int:=[0,1,28,2,29,14,24,3,30,22,20,15,25,17,4,8,31,27,13,23,21,19,16,7,26,12,18,6,11,5,10,9]
def bits64:List Int:=[0,1,56,2,57,49,28,3,61,58,42,50,38,29,17,4,62,47,59,36,45,43,51,22,53,39,33,30,24,18,12,5,63,55,48,27,60,41,37,16,46,35,44,21,52,32,23,11,54,26,40,15,34,20,31,10,25,14,19,9,13,8,7,6]
noncomputable def laidWorld (os:Os):World :=
 { World.holding Tryz.prog os ⟨#[], #[],[]⟩ with heap:=(((World.holding Tryz.prog os ⟨#[], #[],[]⟩).heap.modify 0 (put .u64 Lib.pow10Tab)).modify 2 (put .u8 bits32)).modify 3 (put .u8 bits64) }
theorem laid_met (os:Os):laidMet Tryz.prog Rows.concatOfRow.laid ((laidWorld os).forCall (fun _ _=>0) ⟨#[],wargs,[]⟩).memory :=
 laidMet_of_run' 8 (by kernel_rfl) (by kernel_rfl)
theorem reads (os:Os) {H:Type} (enc:TypeId × Value→H):∃ places,DataW.whole enc Tryz.prog ((laidWorld os).forCall (fun _ _=>0) ⟨#[],wargs,[]⟩).memory Tryz.f6.params.toList Rows.concatOfSpec.vars false wargs.toList 8=some ([.nil,.nil,.nil],[],places) :=
 ⟨[],by kernel_rfl⟩
theorem liftedUpto (os:Os) (started:os.Started) (H:Type) (enc:TypeId × Value→H) (F:Stop.Interp) :
  ReturnsInHanded {} Tryz.checked os 6 .any ((Rows.OpenSpec.upto Rows.concatOfSpec).preRow enc Tryz.prog Tryz.f6 Rows.concatOfUptoRow.domain false Rows.concatOfUptoRow.laid) (((Rows.OpenSpec.upto Rows.concatOfSpec).at F).post enc Tryz.prog Tryz.f6 false true false false):=by
 obtain ⟨places,hx⟩:=reads os enc
 refine returnsInHanded_of_row (C:=Tryz.checked) (s:=Rows.OpenSpec.upto Rows.concatOfSpec) own started (by kernel_rfl) Tryz.func6
  (witness_row_at (enc:=enc) (C:=Tryz.checked) false (laidWorld os) wargs rfl (by kernel_rfl) (by kernel_rfl) (by kernel_rfl)
   (OpenSpec.preRow_of_cond 8 hx (by kernel_rfl) (fun k hk=>by cases hk;kernel_rfl) (by kernel_rfl) (laid_met os))) ?_
 intro W base args ds gs before hval hW _ hcond _ hL _ _
 exact contract H enc W base args ds gs before hval hW (hcond _ rfl) hL
theorem saidUpto:Rows.ConcatOfUptoSaid :=
 OpenClaim.holds_of_cond 6 Tryz.f6 rfl rfl rfl rfl rfl rfl rfl ⟨rfl,rfl,rfl,rfl,rfl⟩ rfl rfl rfl rfl rfl (by kernel_rfl) Tryz.func6 (by kernel_rfl)
  (of_decide_eq_true (by kernel_rfl)) (by unfold Func.isWrapper;first | (rw [if_pos (by decide +kernel)];kernel_rfl) | (rw [if_neg (by decide +kernel)];exact ⟨rfl,rfl⟩))
  (fun os started H enc _ F=>by rw [OpenClaim.pre_eq_preRow];exact liftedUpto os started H enc F)
theorem plain (f:FuncId) (fn:Func) (hf:Tryz.pinned.checked.prog.funcNamed "tendril/tendrillaw31.ConcatOf" = some f) (hfn:Tryz.pinned.checked.prog.funcs[f]? = some fn) :
  false=Tryz.pinned.checked.prog.looks []∧∀ (j:Nat) t,fn.params[j]? = some t→Tryz.pinned.checked.prog.wantsStandIn t=false:=by
 obtain rfl:f=6:=Option.some.inj ((show Tryz.prog.funcNamed "tendril/tendrillaw31.ConcatOf" = some 6 by kernel_rfl).symm.trans hf) |>.symm
 obtain rfl:fn=Tryz.f6:=(Option.some.inj (Tryz.func6.symm.trans hfn)).symm
 refine ⟨by kernel_rfl,fun j t ht => ?_⟩
 have hm:t ∈ [22,23,23]:=by
  rw [← params]
  exact Array.mem_toList_iff.2 (Array.mem_of_getElem? ht)
 have hall:[22,23,23].all (fun t=>Tryz.prog.wantsStandIn t==false)=true:=by kernel_rfl
 exact beq_iff_eq.1 (List.all_eq_true.1 hall t hm)
theorem holds:Rows.ConcatOfUptoCardSaid :=
 Claim7.holds_tied_plain_at .later [] _ _ _ _ saidUpto (fun _ h=>by cases h) (by kernel_rfl) (fun _ h=>by cases h) concatOfUpto_row_tie rfl ⟨rfl,rfl⟩ (by kernel_rfl) rfl plain (by kernel_rfl)
end Go.Proofs.YtnjblmbobmbgkaaGreatDoor.concatOf


end
