/- Part 15 of 15 of a proof; joined from VrsRLoose, VrsEndG, VrsFirstG, VrsPNew, VrsRunsNew, VrsRDo, VrsRDo2, VrsRRun, VrsValidG, VrsValidR, VrsSame28, VrsValidLaw, VrsValidRunsFin. The law ValidRuns, for every input of bulk at most 1048576: the call returns true, and nothing that was there has changed. -/
import Derived.Test.YtnjblmbobmbgkaaGreatDoorVa1
import Derived.Test.YtnjblmbobmbgkaaGreatDoorVa12
import Derived.Test.YtnjblmbobmbgkaaGreatDoorVa14
import Derived.Test.YtnjblmbobmbgkaaGreatDoorVa13
import Derived.Test.YtnjblmbobmbgkaaGreatDoorVa6
import Derived.Test.YtnjblmbobmbgkaaGreatDoorVa11
import Derived.Test.YtnjblmbobmbgkaaGreatDoorVa10
import Derived.Test.YtnjblmbobmbgkaaGreatDoorCards
import Derived.Test.YtnjblmbobmbgkaaGreatDoorTie
import Derived.WalkKit
import Derived.ProofKit
import Derived.OpenShut
import Derived.JoinedCond
import Derived.Deep.DeepHandedRow
import Derived.Lib.LaidTab
set_option linter.unusedSimpArgs false
set_option linter.unusedVariables false
section
/- The row of loose tops, read. -/
set_option maxRecDepth 100000
set_option maxHeartbeats 8000000
namespace Go.TA
namespace Tryz
section
variable {R:Nat} {S:MS} {nx:Int} {av:Nat→AV} {p q:Nat} {g:List AObj}
def looP (S:MS) (h:Nat):Bool := !(h==0) && decide ((S.st h).up<0)
theorem looseD_run (hD : DM (liveL S) S.st S.kd nx av p q g) (hL : (liveL S).length ≤ 4194304) {n : Nat} (hn : (liveL S).length < n) :
    acall T (n+1) 24 [DP p] g=some (.own true g.length (looseM S).length,g++[.pcells 1 (intsPV (looseM S))]):=by
  obtain ⟨o,ho,hrep⟩:=hD.core.row
  have hpl:=(List.getElem?_eq_some_iff.1 hD.core.obj).1
  have hql:=(List.getElem?_eq_some_iff.1 ho).1
  have hob:∀ X,(g++[X])[p]? = some (.cells 2 [[.own true q (liveL S).length,.p (.int .i64 nx)]]):=fun X=>by rw [List.getElem?_append_left hpl];exact hD.core.obj
  have hoX:∀ X,(g++[X])[q]? = some o:=fun X=>by rw [List.getElem?_append_left hql];exact ho
  have hlast:∀ X,(g++[X])[g.length]? = some X:=fun X=>by simp
  have hsetX:∀ X Y,(g++[X]).set g.length Y=g++[Y]:=fun X Y=>by simp [List.set_append]
  have hix:=fun s i=>hrep.idx rowsD_len s true q i
  have hlm:looseM S=((liveL S).filter (looP S)).map fun h:Nat=>(h:Int):=rfl
  rw [hlm]
  have hlen:∀ i,(((liveL S).take i).filter (looP S)).length≤4194304:=fun i=>by
    have h3:=List.length_filter_le (looP S) ((liveL S).take i)
    rw [List.length_take] at h3
    omega
  generalize hacc:(fun i:Nat=>(((liveL S).take i).filter (looP S)).map fun h:Nat=>(h:Int))=acc
  have hal:∀ i,(acc i).length≤4194304:=fun i=>by rw [← hacc];simp only [List.length_map];exact hlen i
  have key:=loop_inv (C:=acall T n) (N:=n) (B:=B24x0) (σ := Nat) (S:=fun i=>⟨[(0,DP p),(3,.own true g.length (acc i).length),(9,.p (.int .i64 (liveL S).length)),(10,.p (.int .i64 i))],[],g++[.pcells 1 (intsPV (acc i))]⟩)
    (I:=fun i=>i≤(liveL S).length) (μ := fun i=>(liveL S).length - i) (Q:=fun r=>r=(.exit 0,⟨[(3,.own true g.length (acc (liveL S).length).length)],[],g++[.pcells 1 (intsPV (acc (liveL S).length))]⟩)) ?_ 0 (by omega) (by omega)
  · obtain ⟨r,hr,rfl⟩:=key
    have e0:acc 0=[]:=by rw [← hacc];simp
    have e1:acc (liveL S).length=((liveL S).filter (looP S)).map fun h:Nat=>(h:Int):=by rw [← hacc];simp
    rw [e0,e1] at hr
    generalize ((liveL S).filter (looP S)).map (fun h:Nat=>(h:Int))=l1 at hr ⊢
    simp only [List.length_nil,Int.natCast_zero,show intsPV []=[] from rfl] at hr
    rw [acall_code T24,run_code rfl rfl]
    simp -implicitDefEqProofs (disch:=omega) only [Rx,simprocAttr,F24,hob,hr]
  intro i hi
  by_cases h1:i<(liveL S).length
  · left
    obtain ⟨h,hh⟩:=get_some h1
    have k1:(i:Int)<((liveL S).length:Int):=by omega
    have rd0:=rd_node hrep hh (j:=0) (by omega)
    have rd1:=rd_node hrep hh (j:=1) (by omega)
    simp only [nAV] at rd0 rd1
    have hs:acc (i+1)=acc i++if looP S h=true then [(h:Int)] else []:=by
      rw [← hacc]
      simp only
      rw [List.take_add_one,hh,List.filter_append,List.map_append]
      congr 1
      simp only [Option.toList_some,List.filter_cons,List.filter_nil]
      split <;> rfl
    have hll:=hal i
    have il:=intsPV_len (acc i)
    refine ⟨i+1, ?_,by omega,by omega⟩
    rw [hs]
    by_cases e0:h=0
    · subst e0
      have ep:looP S 0=false:=rfl
      rw [ep]
      simp only [Bool.false_eq_true,if_false,List.append_nil]
      have e1:((((0:Nat):Int))==0)=true:=rfl
      simp -implicitDefEqProofs (disch:=omega) only [Rx,simprocAttr,B24x0,k1,hob,hoX,hix,rd0]
    · have e1:((h:Int)==0)=false:=by simp;omega
      by_cases eu:(S.st h).up<0
      · have ep:looP S h=true:=by simp [looP,e0,eu]
        rw [ep,if_pos rfl]
        have os1:=intsPV_snoc (acc i) (h:Int)
        have ol1:(intsPV (acc i++[(h:Int)])).length=(acc i).length+1:=by rw [intsPV_len,List.length_append];rfl
        have ol3:(acc i++[(h:Int)]).length=(acc i).length+1:=by rw [List.length_append];rfl
        rw [ol3]
        generalize acc i++[(h:Int)]=acc1 at os1 ol1
        generalize acc i=a0 at hll il os1 ol1
        simp -implicitDefEqProofs (disch:=omega) only [Rx,simprocAttr,B24x0,k1,hob,hoX,hix,rd0,rd1,e1,eu,hlast,hsetX,il,os1,ol1]
      · have ep:looP S h=false:=by simp [looP,eu]
        rw [ep]
        simp only [Bool.false_eq_true,if_false,List.append_nil]
        simp -implicitDefEqProofs (disch:=omega) only [Rx,simprocAttr,B24x0,k1,hob,hoX,hix,rd0,rd1,e1,eu]
  · right
    obtain rfl:i=(liveL S).length:=by omega
    have k1:¬ ((liveL S).length:Int)<((liveL S).length:Int):=by omega
    refine ⟨_, ?_, ?_,rfl⟩
    · simp -implicitDefEqProofs (disch:=omega) only [Rx,simprocAttr,B24x0,k1]
    · simp
end
end Tryz
end Go.TA


end
section
/- What a machine's end comes to, by the program and by the document's answer. -/
set_option maxRecDepth 100000
set_option maxHeartbeats 8000000
namespace Go.TA
namespace Tryz
def endE (S:MS) (R:Nat) (L:List GOp) (left:Int):Int :=
 if 0<(looseM S).length then 19 else if 1<tops (rowsM S R) then 20 else if check13 (rowsM S R)≠0 then check13 (rowsM S R) else if (times L 1:Int)≤left then 0 else 21
theorem endG_run {R:Nat} {S:MS} (hS:S.Ok R) (hs:S.small) (hN:S.N≤1048576) (L:List GOp) (hL:L.length≤1048576) (left:Int) (av:Nat→AV) (rest:List AObj) (hM:MOk S.N av S.kd rest) {F:Nat} (hF:R+3145800<F) :
    ∃ rest', acall T (F + 1) 54 [MP, .p (.list (L.map GOp.pv)), .p (.int .i64 left)] (machG S.N S.st av rest) = some (.tuple [if endE S R L left = 0 then .own true (rest.length + 1 + 1) (rowsM S R).length else .p (.list []), .p (.int .i64 (endE S R L left))], machG S.N S.st av rest')
      ∧ rest'[rest.length]? = some (.pcells 6 ((rowsM S R).map GRow.pv)):=by
  have hlen:=rowsM_len hS R
  have hsm:=rowsM_small hS hs (by omega) R
  have hrows:=Rows_run hS (by omega) av rest hM (n:=F - R - 2) (by omega)
  rw [show F - R - 2+R+2=F by omega] at hrows
  have hM':MOk S.N av S.kd (rest++[.pcells 6 ((rowsM S R).map GRow.pv)]):=⟨fun h hh=>(hM.kids h hh).more _,hM.disj⟩
  have hloose:=loose_run S (by omega) av (rest++[.pcells 6 ((rowsM S R).map GRow.pv)]) hM' (n:=F - 1) (by omega)
  rw [show F - 1+1=F by omega] at hloose
  have hflat:=flatCheckE_mid (rowsM S R) hsm (Nat.le_refl _) (n:=F - (rowsM S R).length - 43) (by omega) []
  rw [show F - (rowsM S R).length - 43+(rowsM S R).length+43=F by omega] at hflat
  have hcount:=count_run L hL [] (n:=F - 1) (by omega)
  rw [show F - 1+1=F by omega] at hcount
  have hll:=looseM_len S
  have htl:=tops_le (rowsM S R)
  have e19:endE S R L left=if 0<(looseM S).length then 19 else if 1<tops (rowsM S R) then 20 else if check13 (rowsM S R)≠0 then check13 (rowsM S R) else if (times L 1:Int)≤left then 0 else 21:=rfl
  refine ⟨rest++[.pcells 6 ((rowsM S R).map GRow.pv)]++[.pcells 1 (intsPV (looseM S))], ?_,by simp⟩
  generalize looseM S=lo at *
  have hrl:((rowsM S R).map GRow.pv).length=(rowsM S R).length:=by simp
  have hget:∀ i x,(rowsM S R)[i]? = some x→((rowsM S R).map GRow.pv).getD i []=x.pv:=fun i x hx=>getD_map (f:=GRow.pv) hx
  generalize rowsM S R=rows at *
  generalize hX:rows.map GRow.pv=X at *
  have q1:(rest++[AObj.pcells 6 X])[rest.length]? = some (.pcells 6 X):=by simp
  have q2:(rest++[AObj.pcells 6 X]++[.pcells 1 (intsPV lo)])[rest.length]? = some (.pcells 6 X):=by simp
  have hloop:=loop_rule' (C:=acall T F) (N:=F) (B:=B54x0) (σ := Nat) (S:=fun i=>⟨[(0,MP),(1,.p (.list (L.map GOp.pv))),(2,.p (.int .i64 left)),(8,.own true (rest.length+1+1) rows.length),(9,.p (.int .i64 (tops (rows.take i)))),(15,.own true (rest.length+1+1) rows.length),(16,.p (.int .i64 rows.length)),(17,.p (.int .i64 i))],[],machG S.N S.st av (rest++[.pcells 6 X])⟩) (I:=fun i=>i≤rows.length) (μ := fun i=>rows.length - i)
    (Φ := fun i=>(.exit 0,⟨[(0,MP),(1,.p (.list (L.map GOp.pv))),(2,.p (.int .i64 left)),(8,.own true (rest.length+1+1) rows.length),(9,.p (.int .i64 (tops rows)))],[],machG S.N S.st av (rest++[.pcells 6 X])⟩)) ?_ 0 (by omega) (by omega)
  · have t0:tops (rows.take 0)=0:=rfl
    rw [t0] at hloop
    have ll:(L.map GOp.pv).length=L.length:=by simp
    rw [acall_code T54,run_code rfl rfl]
    generalize tops rows=tp at *
    generalize times L 1=t1 at *
    simp only [machG,Int.natCast_zero] at hloop hrows hloose ⊢
    by_cases h1:0<lo.length
    · have e:endE S R L left=19:=by rw [e19,if_pos h1]
      rw [e]
      simp -implicitDefEqProofs (disch:=omega) only [Rx,simprocAttr,F54,hrows,hloop,hloose]
    by_cases h2:1<tp
    · have e:endE S R L left=20:=by rw [e19,if_neg h1,if_pos h2]
      rw [e]
      simp -implicitDefEqProofs (disch:=omega) only [Rx,simprocAttr,F54,hrows,hloop,hloose]
    by_cases h3:check13 rows=0
    rotate_left
    · have e:endE S R L left=check13 rows:=by rw [e19,if_neg h1,if_neg h2,if_pos h3]
      rw [e]
      have h3':(check13 rows==0)=false:=by simpa using h3
      generalize check13 rows=c at hflat h3 h3'
      simp -implicitDefEqProofs (disch:=omega) only [Rx,simprocAttr,F54,hrows,hloop,hloose,hflat,hrl,q2,h3,h3']
    rw [h3] at hflat
    by_cases h4:(t1:Int)≤left
    · have e:endE S R L left=0:=by rw [e19,if_neg h1,if_neg h2,if_neg (by simpa using h3),if_pos h4]
      rw [e]
      simp -implicitDefEqProofs (disch:=omega) only [Rx,simprocAttr,F54,hrows,hloop,hloose,hflat,hcount,hrl,q2,h4]
    · have e:endE S R L left=21:=by rw [e19,if_neg h1,if_neg h2,if_neg (by simpa using h3),if_neg h4]
      rw [e]
      simp -implicitDefEqProofs (disch:=omega) only [Rx,simprocAttr,F54,hrows,hloop,hloose,hflat,hcount,hrl,q2,h4]
  intro i hi
  by_cases h:i<rows.length
  · left
    obtain ⟨x,hx⟩:=get_some h
    have k1:(i:Int)<(rows.length:Int):=by omega
    have hg:=hget i x hx
    have ht:=tops_take hx
    have hle:=tops_le (rows.take i)
    rw [List.length_take] at hle
    refine ⟨i+1, ?_,by omega,by omega,rfl⟩
    rw [ht]
    generalize tops (rows.take i)=c at *
    simp only [machG] at ⊢
    by_cases e:x.up=0
    · have e1:(x.up==0)=true:=by simpa using e
      rw [if_pos e]
      simp -implicitDefEqProofs (disch:=omega) only [Rx,simprocAttr,B54x0,k1,hrl,q1,hg,GRow.pv,attrsPV,e1]
    · have e1:(x.up==0)=false:=by simpa using e
      rw [if_neg e]
      simp -implicitDefEqProofs (disch:=omega) only [Rx,simprocAttr,B54x0,k1,hrl,q1,hg,GRow.pv,attrsPV,e1,Nat.add_zero]
  · right
    obtain rfl:i=rows.length:=by omega
    have k1:¬ (rows.length:Int)<(rows.length:Int):=by omega
    refine ⟨?_,by simp⟩
    rw [List.take_length]
    simp -implicitDefEqProofs (disch:=omega) only [Rx,simprocAttr,B54x0,k1]
end Tryz
end Go.TA


end
section
/- The first operation of a list that may not be, by the program and by the document's answer. -/
set_option maxRecDepth 100000
set_option maxHeartbeats 8000000
namespace Go.TA.Tryz
noncomputable def firstE:List GOp→Nat→Nat × Int
 | [],i=>(0,0)
 | x::l,i=>if opErr x=0 then firstE l (i+1) else (i,opErr x)
theorem firstE_drop {L:List GOp} {i:Nat} {x:GOp} (hx:L[i]? = some x):firstE (L.drop i) i=if opErr x=0 then firstE (L.drop (i+1)) (i+1) else (i,opErr x):=by
 have:L.drop i=x::L.drop (i+1):=by rw [List.drop_eq_getElem?_toList_append,hx];rfl
 rw [this,firstE]
theorem firstP_run (L : List GOp) (hL : ∀ x ∈ L, x.attrs.length ≤ 1048576) (hlen : L.length ≤ 1048576) (g : List AObj) {n : Nat} (hn : 1048577 < n) :
    acall T (n+39) 53 [.p (.list (L.map GOp.pv))] g=some (.tuple [.p (.int .i64 (firstE L 0).1),.p (.int .i64 (firstE L 0).2)],g):=by
  have key:=loop_inv (C:=acall T (n+38)) (N:=n+38) (B:=B53x0) (σ := Nat) (S:=fun i=>⟨[(7,.p (.list (L.map GOp.pv))),(8,.p (.int .i64 L.length)),(9,.p (.int .i64 i))],[],[]⟩)
    (I:=fun i=>i≤L.length∧firstE L 0=firstE (L.drop i) i) (μ := fun i=>L.length - i) (Q:=fun r=>(firstE L 0=(0,0)∧r=(.exit 0,⟨[],[],[]⟩))∨r=(.ret,⟨[(2,.p (.int .i64 (firstE L 0).1)),(3,.p (.int .i64 (firstE L 0).2))],[],[]⟩)) ?_ 0 (by simp) (by omega)
  · obtain ⟨r,hr,hq⟩:=key
    rw [acall_code T53,run_pure rfl rfl rfl]
    simp only [Int.natCast_zero] at hr
    rcases hq with ⟨e,rfl⟩ | rfl
    · rw [e]
      simp -implicitDefEqProofs (disch:=omega) only [Rx,simprocAttr,F53,hr,Int.natCast_zero]
    · simp -implicitDefEqProofs (disch:=omega) only [Rx,simprocAttr,F53,hr]
  rintro i ⟨hi,hf⟩
  by_cases h:i<L.length
  · obtain ⟨x,hx⟩:=get_some h
    have hg:=getD_map (f:=GOp.pv) hx
    have hxl:=hL x (List.mem_of_getElem? hx)
    have k1:(i:Int)<(L.length:Int):=by omega
    have k2:((i:Int)==1048576)=false:=by simp;omega
    have hc:=fun g=>opsP_run x g (n:=n) (by omega) hxl
    simp only [GOp.pv,attrsPV] at hc
    rw [firstE_drop hx] at hf
    by_cases he:opErr x=0
    · left
      rw [if_pos he] at hf
      refine ⟨i+1, ?_,⟨by omega,hf⟩,by omega⟩
      rw [he] at hc
      simp -implicitDefEqProofs (disch:=omega) only [Rx,simprocAttr,B53x0,k1,k2,hg,GOp.pv,attrsPV,hc]
    · right
      rw [if_neg he] at hf
      have he':(opErr x==0)=false:=by simpa using he
      refine ⟨_, ?_, ?_,.inr rfl⟩
      · rw [hf]
        simp -implicitDefEqProofs (disch:=omega) only [Rx,simprocAttr,B53x0,k1,k2,hg,GOp.pv,attrsPV,hc,he']
      · simp
  · right
    obtain rfl:i=L.length:=by omega
    have k1:¬ (L.length:Int)<(L.length:Int):=by omega
    rw [List.drop_length] at hf
    refine ⟨_, ?_, ?_,.inl ⟨hf,rfl⟩⟩
    · simp -implicitDefEqProofs (disch:=omega) only [Rx,simprocAttr,B53x0,k1]
    · simp
theorem firstR_run (L : List GOp) (hL : ∀ x ∈ L, x.attrs.length ≤ 1048576 ∧ smallAttrs x.attrs) (hlen : L.length ≤ 1048576) (g : List AObj) {n : Nat} (hn : 1048577 < n) :
    acall T (n+38) 55 [.p (.list (L.map GOp.pv))] g=some (.tuple [.p (.int .i64 (firstE L 0).1),.p (.int .i64 (firstE L 0).2)],g):=by
  have key:=loop_inv (C:=acall T (n+37)) (N:=n+37) (B:=B55x0) (σ := Nat) (S:=fun i=>⟨[(0,.p (.list (L.map GOp.pv))),(7,.p (.int .i64 L.length)),(8,.p (.int .i64 i))],[],[]⟩)
    (I:=fun i=>i≤L.length∧firstE L 0=firstE (L.drop i) i) (μ := fun i=>L.length - i) (Q:=fun r=>(firstE L 0=(0,0)∧r=(.exit 0,⟨[],[],[]⟩))∨r=(.ret,⟨[(2,.p (.int .i64 (firstE L 0).1)),(3,.p (.int .i64 (firstE L 0).2))],[],[]⟩)) ?_ 0 (by simp) (by omega)
  · obtain ⟨r,hr,hq⟩:=key
    rw [acall_code T55,run_pure rfl rfl rfl]
    simp only [Int.natCast_zero] at hr
    rcases hq with ⟨e,rfl⟩ | rfl
    · rw [e]
      simp -implicitDefEqProofs (disch:=omega) only [Rx,simprocAttr,F55,hr,Int.natCast_zero]
    · simp -implicitDefEqProofs (disch:=omega) only [Rx,simprocAttr,F55,hr]
  rintro i ⟨hi,hf⟩
  by_cases h:i<L.length
  · obtain ⟨x,hx⟩:=get_some h
    have hg:=getD_map (f:=GOp.pv) hx
    obtain ⟨hxl,hxs⟩:=hL x (List.mem_of_getElem? hx)
    have k1:(i:Int)<(L.length:Int):=by omega
    have k2:((i:Int)==1048576)=false:=by simp;omega
    have hc:=fun g=>ref25_run x hxs g (n:=n) (by omega) (by omega)
    simp only [GOp.pv,attrsPV] at hc
    rw [firstE_drop hx] at hf
    by_cases he:opErr x=0
    · left
      rw [if_pos he] at hf
      refine ⟨i+1, ?_,⟨by omega,hf⟩,by omega⟩
      rw [he] at hc
      simp -implicitDefEqProofs (disch:=omega) only [Rx,simprocAttr,B55x0,k1,k2,hg,GOp.pv,attrsPV,hc]
    · right
      rw [if_neg he] at hf
      have he':(opErr x==0)=false:=by simpa using he
      refine ⟨_, ?_, ?_,.inr rfl⟩
      · rw [hf]
        simp -implicitDefEqProofs (disch:=omega) only [Rx,simprocAttr,B55x0,k1,k2,hg,GOp.pv,attrsPV,hc,he']
      · simp
  · right
    obtain rfl:i=L.length:=by omega
    have k1:¬ (L.length:Int)<(L.length:Int):=by omega
    rw [List.drop_length] at hf
    refine ⟨_, ?_, ?_,.inl ⟨hf,rfl⟩⟩
    · simp -implicitDefEqProofs (disch:=omega) only [Rx,simprocAttr,B55x0,k1]
    · simp
end Go.TA.Tryz


end
section
/- The machine of rows that are right. -/
set_option maxRecDepth 100000
set_option maxHeartbeats 8000000
namespace Go.TA.Tryz
def newS (l:List GRow) (i:Nat) (av:Nat→AV) (rest:List AObj):St:=⟨[(5,.ptr true 1 1 1 0 0),(17,.p (.list (l.map GRow.pv))),(18,.p (.int .i64 l.length)),(19,.p (.int .i64 i))],[],machG (i+1) (st0 l) av rest⟩
theorem new_loop {n N : Nat} (l : List GRow) (hl : l.length ≤ 1048576) (hal : ∀ x ∈ l, x.attrs.length ≤ 1048577) (hs : standTo l l.length) (hN : l.length < N) :
    ∃ r,aexec (acall T (n+1)) N (.loop B12x0) (newS l 0 (fun _ => .nils) [])=some r∧∃ av rest,r=(.exit 0,⟨[(5,.ptr true 1 1 1 0 0)],[],machG (l.length+1) (st0 l) av rest⟩)∧MOk (l.length+1) av (kd0 l l.length) rest∧∀ h,h<l.length+1→∀ ks,av h ≠ .p ks:=by
  refine loop_inv (σ := Nat × (Nat→AV) × List AObj) (S:=fun s=>newS l s.1 s.2.1 s.2.2) (I:=fun s=>s.1≤l.length∧MOk (s.1+1) s.2.1 (kd0 l s.1) s.2.2∧∀ h,h<s.1+1→∀ ks,s.2.1 h ≠ .p ks) (μ := fun s=>l.length - s.1)
    (Q:=fun r=>∃ av rest,r=(.exit 0,⟨[(5,.ptr true 1 1 1 0 0)],[],machG (l.length+1) (st0 l) av rest⟩)∧MOk (l.length+1) av (kd0 l l.length) rest∧∀ h,h<l.length+1→∀ ks,av h ≠ .p ks) ?_ (0,(fun _ => .nils),[]) ⟨by omega,⟨fun h _ => .none,fun _ _ _ _ _ => .inl rfl⟩,fun h _ ks=>by simp⟩ (by simp only;omega)
  rintro ⟨i,av,rest⟩ ⟨h1,h2,h3⟩
  simp only at h1 h2 h3 ⊢
  by_cases hi:i<l.length
  · left
    obtain ⟨x,hx,hu⟩:=up_val hs (Nat.le_refl _) hi
    have hle:=upAt_le hs hi hi
    have hg:=getD_map (f:=GRow.pv) hx
    have k1:(i:Int)<(l.length:Int):=by omega
    have hcl:=cloneA_run x.attrs (hal x (List.mem_of_getElem? hx)) [] n
    generalize hU:upAt l (i+1)=u at hu hle
    have hst:st0 l (i+1)=nodeOf x:=by simp [st0,hx]
    have hpush:rowsAV (i+1) (st0 l) av++[[.p (.bool true),.p (.int .i64 u),.nils,.p (.str x.tag),.p (.str x.key),.p (.str x.text),.p (.list (x.attrs.map Attr.pv))]]=rowsAV (i+1+1) (st0 l) (upd av (i+1) .nils):=by
      have:=rowsAV_push (N:=i+1) (st:=st0 l) (av:=av) (nodeOf x) .nils
      simp only [nodeAV,nodeOf,hu] at this
      rw [this]
      refine rowsAV_congr fun k hk=>⟨?_,rfl⟩
      by_cases e:k=i+1
      · subst e;rw [upd_at,hst,nodeOf,hu]
      · rw [upd_ne e]
    have hM:=h2.push
    have len1:(rowsAV (i+1) (st0 l) av).length=i+1:=rowsAV_len
    have len2:(rowsAV (i+1+1) (st0 l) (upd av (i+1) .nils)).length=i+1+1:=rowsAV_len
    have hgu:(rowsAV (i+1+1) (st0 l) (upd av (i+1) .nils)).getD u []=nodeAV (st0 l u) (upd av (i+1) .nils u):=rowsAV_get (by omega)
    have hkd:∀ h,h<i+1+1→upd (upd (kd0 l i) (i+1) []) u (upd (kd0 l i) (i+1) [] u++[(i:Int)+1]) h=kd0 l (i+1) h:=by
      intro h hh
      have hnew:upd (kd0 l i) (i+1) [] h=kd0 l i h:=by
        by_cases e:h=i+1
        · subst e;rw [upd_at,kd0_new (hs.mono (by omega)) (by omega)]
        · rw [upd_ne e]
      rw [kd0_succ hx,hu]
      by_cases e:h=u
      · subst e
        rw [upd_at,hnew,if_pos rfl]
      · rw [upd_ne e,hnew,if_neg (by omega)]
    have hset:∀ a,(rowsAV (i+1+1) (st0 l) (upd av (i+1) .nils)).set u [.p (.bool (st0 l u).live),.p (.int .i64 (st0 l u).up),a,.p (.str (st0 l u).tag),.p (.str (st0 l u).key),.p (.str (st0 l u).text),.p (.list ((st0 l u).attrs.map Attr.pv))]=rowsAV (i+1+1) (st0 l) (upd (upd av (i+1) .nils) u a):=by
      intro a
      have:=rowsAV_set (N:=i+1+1) (st:=st0 l) (av:=upd av (i+1) .nils) (h:=u) (by omega) (st0 l u) a
      simp only [nodeAV] at this
      rw [this]
      refine rowsAV_congr fun k hk=>⟨?_,rfl⟩
      by_cases e:k=u
      · subst e;rw [upd_at]
      · rw [upd_ne e]
    have hK:=hM.kids u (by omega)
    generalize hav:upd av (i+1) .nils u=a at hK hgu
    generalize hks:upd (kd0 l i) (i+1) [] u=ks at hK hkd
    simp only [nodeAV] at hgu
    have hle2:(u:Int)<(i:Int)+1+1:=by omega
    have hkl:ks.length≤1048576:=by
      rw [← hks]
      by_cases e:u=i+1
      · rw [e,upd_at];simp
      · rw [upd_ne e]
        simp only [kd0,List.length_map]
        have:=List.length_filter_le (fun k=>((l[k]?).map (fun x=>x.up==(u:Int))).getD false) (List.range i)
        simp only [List.length_range] at this
        omega
    rcases hK.inv with ⟨rfl,rfl⟩ | ⟨r,rfl,hr⟩ | rfl
    · refine ⟨(i+1,upd (upd av (i+1) .nils) u (.own true (rest.length+1+1) 1),rest++[.pcells 1 [[.int .i64 ((i:Int)+1)]]]), ?_,⟨by omega, ?_, ?_⟩,by simp only;omega⟩
      · have hsl:∀ o o':AObj,(rest++[o]).set rest.length o'=rest++[o']:=fun o o'=>by simp [List.set_append]
        simp only [newS,machG]
        simp -implicitDefEqProofs (disch:=omega) only [Rx,simprocAttr,B12x0,k1,hg,GRow.pv,attrsPV,hcl,hpush,len1,len2,hgu,hset,hu,hle2,hsl]
      · have:=hM.fresh (u:=u) (by omega) [(i:Int)+1]
        simp only [List.length_singleton,intsPV,List.map_cons,List.map_nil] at this
        refine ⟨fun h hh => ?_,this.disj⟩
        have q:=this.kids h hh
        rw [← hkd h hh]
        simpa [hks] using q
      · intro h hh ks
        by_cases e:h=u
        · subst e;simp [upd]
        · simp only
          rw [upd_ne e]
          by_cases e':h=i+1
          · subst e';simp [upd]
          · rw [upd_ne e'];exact h3 h (by omega) ks
    · have hrl:r<rest.length:=(List.getElem?_eq_some_iff.1 hr).1
      refine ⟨(i+1,upd (upd av (i+1) .nils) u (.own true (r+1+1) (ks.length+1)),rest.set r (.pcells 1 (intsPV ks++[[.int .i64 ((i:Int)+1)]]))), ?_,⟨by omega, ?_, ?_⟩,by simp only;omega⟩
      · simp only [newS,machG]
        have il:=intsPV_len ks
        simp -implicitDefEqProofs (disch:=omega) only [Rx,simprocAttr,B12x0,k1,hg,GRow.pv,attrsPV,hcl,hpush,len1,len2,hgu,hset,hu,hle2,hr,il,List.length_append]
      · have:=hM.turn (u:=u) (r:=r) (by omega) (by rw [hav,hks]) hrl (ks++[(i:Int)+1])
        simp only [List.length_append,List.length_singleton, ← intsPV_snoc] at this
        refine ⟨fun h hh => ?_,this.disj⟩
        have q:=this.kids h hh
        rw [← hkd h hh]
        exact q
      · intro h hh ks
        by_cases e:h=u
        · subst e;simp [upd]
        · simp only
          rw [upd_ne e]
          by_cases e':h=i+1
          · subst e';simp [upd]
          · rw [upd_ne e'];exact h3 h (by omega) ks
    · exfalso
      by_cases e:u=i+1
      · rw [e,upd_at] at hav;cases hav
      · rw [upd_ne e] at hav;exact h3 u (by omega) _ hav
  · right
    obtain rfl:i=l.length:=by omega
    have k1:¬ (l.length:Int)<(l.length:Int):=by omega
    refine ⟨_, ?_, ?_,av,rest,rfl,h2,h3⟩
    · simp only [newS]
      simp -implicitDefEqProofs (disch:=omega) only [Rx,simprocAttr,B12x0,k1]
    · simp
theorem new_run (l:List GRow) {m:Nat} (hl:Rows.mid m l) (hm:m≤1048577) (h:check13 l=0) {n:Nat} (hn:1048577<n) :
  ∃ av rest,acall T (n+l.length+44) 12 [.p (.list (l.map GRow.pv))] []=some (.tuple [.ptr true 1 1 1 0 0,.p (.int .i64 0)],machG (l.length+1) (st0 l) av rest)∧MOk (l.length+1) av (kd0 l l.length) rest∧∀ h,h<l.length+1→∀ ks,av h ≠ .p ks:=by
 have hlen:=hl.len
 have hfc:=flatCheckE_mid l hl hm hn []
 rw [h] at hfc
 have hs:standTo l l.length:=formed_stands (check13_ok h).1
 obtain ⟨r,hr,av,rest,rfl,hok,hpp⟩:=new_loop (n:=n+l.length+42) (N:=n+l.length+43) l (by omega) (fun x hx=>by have:=(hl.row x hx).attrs;omega) hs (by omega)
 refine ⟨av,rest, ?_,hok,hpp⟩
 rw [acall_code T12,run_code rfl rfl]
 have h0:rowsAV 1 (st0 l) (fun _=>AV.nils)=[nodeAV holder .nils]:=rfl
 simp only [newS,machG,Nat.zero_add,Int.natCast_zero,h0,nodeAV,holder,List.map_nil] at hr ⊢
 simp -implicitDefEqProofs (disch:=omega) only [Rx,simprocAttr,F12,hfc,hr]
end Go.TA.Tryz


end
section
/- Rows that are not right: no machine. -/
set_option maxRecDepth 100000
set_option maxHeartbeats 8000000
namespace Go.TA.Tryz
theorem newE_run (l:List GRow) {m:Nat} (hl:Rows.mid m l) (hm:m≤1048577) (h:check13 l≠0) {n:Nat} (hn:1048577<n) :
  acall T (n+l.length+44) 12 [.p (.list (l.map GRow.pv))] []=some (.tuple [.p .nilp,.p (.int .i64 (check13 l))],[]):=by
 have hfc:=flatCheckE_mid l hl hm hn []
 have e1:(check13 l==0)=false:=by simpa using h
 rw [acall_code T12,run_code rfl rfl]
 generalize check13 l=e at hfc e1 ⊢
 simp -implicitDefEqProofs (disch:=omega) only [Rx,simprocAttr,F12,hfc,e1]
end Go.TA.Tryz


end
section
/- The document's answer: any operation. -/
set_option maxRecDepth 100000
set_option maxHeartbeats 8000000
namespace Go.TA.Tryz
section
variable {R:Nat} {S:MS} {av:Nat→AV} {p q:Nat} {g:List AObj}
theorem insertD_N (S:MS) (id up b:Int):(insertD S id up b).2.N=S.N:=by
 unfold insertD;repeat' split
 all_goals rfl
theorem moveD_N (S:MS) (id b:Int):(moveD S id b).2.N=S.N:=by
 unfold moveD;repeat' split
 all_goals first | rfl | simp [placeM,takeM_N]
theorem removeD_N (S:MS) (id:Int):(removeD S id).2.N=S.N:=by
 unfold removeD;split
 ·rfl
 ·simp [endM,takeM_N]
theorem setD_N (S:MS) (id:Int) (name v:Bs):(setD S id name v).2.N=S.N:=by
 unfold setD;repeat' split
 all_goals rfl
theorem delD_N (S:MS) (id:Int) (name:Bs):(delD S id name).2.N=S.N:=by
 unfold delD;repeat' split
 all_goals rfl
theorem textD_N (S:MS) (id:Int) (s:Bs):(textD S id s).2.N=S.N:=by
 unfold textD;repeat' split
 all_goals rfl
theorem doD_run (hS:S.Ok R) (hD:DM (liveL S) S.st S.kd S.N av p q g) (hL:(liveL S).length≤4194304) (x:GOp) (hs:smallAttrs x.attrs) {n:Nat} (hn:(liveL S).length<n) (hR:R+3<n) (hx:x.attrs.length<n) (hn2:1048577<n) :
  ∃ av' q' g',acall T (n+38) 52 [DP p,.p (.agg x.pv)] g=some (.tuple [.p (.int .i64 (doD S x).1),.p (.int .i64 (doD S x).2.1)],g')∧DM (liveL (doD S x).2.2) (doD S x).2.2.st (doD S x).2.2.kd (doD S x).2.2.N av' p q' g'∧DFr (liveL S) av p q g (liveL (doD S x).2.2) av' q' g':=by
 unfold doD
 by_cases h1:x.kind=1
 ·rw [if_pos h1]
  have e1:(x.kind==1)=true:=by simpa using h1
  obtain ⟨av',g',hc,hD',hF⟩:=createD_run hD hL x hs (n:=n) (by omega) (by omega)
  by_cases hz:createErr S.N x=0
  ·rw [if_pos hz] at hc hD' hF ⊢
   refine ⟨av',q,g', ?_,hD',hF⟩
   rw [acall_code T52,run_code rfl rfl]
   simp -implicitDefEqProofs (disch:=omega) only [Rx,simprocAttr,F52,GOp.pv,attrsPV,e1,hc]
  ·rw [if_neg hz] at hc hD' hF ⊢
   refine ⟨av',q,g', ?_,hD',hF⟩
   generalize createErr S.N x=e at hc
   rw [acall_code T52,run_code rfl rfl]
   simp -implicitDefEqProofs (disch:=omega) only [Rx,simprocAttr,F52,GOp.pv,attrsPV,e1,hc]
 rw [if_neg h1]
 have e1:(x.kind==1)=false:=by simpa using h1
 by_cases h2:x.kind=2
 ·rw [if_pos h2]
  have e2:(x.kind==2)=true:=by simpa using h2
  obtain ⟨av',g',hc,hD',hF⟩:=insertD_run hS hD hL x.node x.up x.before (n:=n+33) (by omega) (by omega)
  refine ⟨av',q,g', ?_,by rw [insertD_N];exact hD',hF⟩
  generalize insertD S x.node x.up x.before=z at hc
  rw [acall_code T52,run_code rfl rfl]
  simp -implicitDefEqProofs (disch:=omega) only [Rx,simprocAttr,F52,GOp.pv,attrsPV,e1,e2,hc]
 rw [if_neg h2]
 have e2:(x.kind==2)=false:=by simpa using h2
 by_cases h3:x.kind=3
 ·rw [if_pos h3]
  have e3:(x.kind==3)=true:=by simpa using h3
  obtain ⟨av',g',hc,hD',hF⟩:=moveD_run hS hD hL x.node x.before (n:=n+33) (by omega)
  refine ⟨av',q,g', ?_,by rw [moveD_N];exact hD',hF⟩
  generalize moveD S x.node x.before=z at hc
  rw [acall_code T52,run_code rfl rfl]
  simp -implicitDefEqProofs (disch:=omega) only [Rx,simprocAttr,F52,GOp.pv,attrsPV,e1,e2,e3,hc]
 rw [if_neg h3]
 have e3:(x.kind==3)=false:=by simpa using h3
 by_cases h4:x.kind=4
 ·rw [if_pos h4]
  have e4:(x.kind==4)=true:=by simpa using h4
  obtain ⟨av',q',g',hc,hD',hF⟩:=removeD_run hS hD hL x.node (n:=n+33) (by omega) (by omega)
  refine ⟨av',q',g', ?_,by rw [removeD_N];exact hD',hF⟩
  generalize removeD S x.node=z at hc
  rw [acall_code T52,run_code rfl rfl]
  simp -implicitDefEqProofs (disch:=omega) only [Rx,simprocAttr,F52,GOp.pv,attrsPV,e1,e2,e3,e4,hc]
 rw [if_neg h4]
 have e4:(x.kind==4)=false:=by simpa using h4
 by_cases h5:x.kind=5
 ·rw [if_pos h5]
  have e5:(x.kind==5)=true:=by simpa using h5
  obtain ⟨g',hc,hD',hF⟩:=setD_run hS hD hL x.node x.name x.text (n:=n+1) (by omega) (by omega)
  refine ⟨av,q,g', ?_,by rw [setD_N];exact hD',hF⟩
  generalize setD S x.node x.name x.text=z at hc
  rw [acall_code T52,run_code rfl rfl]
  simp -implicitDefEqProofs (disch:=omega) only [Rx,simprocAttr,F52,GOp.pv,attrsPV,e1,e2,e3,e4,e5,hc]
 rw [if_neg h5]
 have e5:(x.kind==5)=false:=by simpa using h5
 by_cases h6:x.kind=6
 ·rw [if_pos h6]
  have e6:(x.kind==6)=true:=by simpa using h6
  obtain ⟨g',hc,hD',hF⟩:=delD_run hS hD hL x.node x.name (n:=n+34) (by omega) (by omega)
  refine ⟨av,q,g', ?_,by rw [delD_N];exact hD',hF⟩
  generalize delD S x.node x.name=z at hc
  rw [acall_code T52,run_code rfl rfl]
  simp -implicitDefEqProofs (disch:=omega) only [Rx,simprocAttr,F52,GOp.pv,attrsPV,e1,e2,e3,e4,e5,e6,hc]
 rw [if_neg h6]
 have e6:(x.kind==6)=false:=by simpa using h6
 by_cases h7:x.kind=7
 ·rw [if_pos h7]
  have e7:(x.kind==7)=true:=by simpa using h7
  obtain ⟨g',hc,hD',hF⟩:=textD_run hD hL x.node x.text (n:=n+34) (by omega)
  refine ⟨av,q,g', ?_,by rw [textD_N];exact hD',hF⟩
  generalize textD S x.node x.text=z at hc
  rw [acall_code T52,run_code rfl rfl]
  simp -implicitDefEqProofs (disch:=omega) only [Rx,simprocAttr,F52,GOp.pv,attrsPV,e1,e2,e3,e4,e5,e6,e7,hc]
 rw [if_neg h7]
 have e7:(x.kind==7)=false:=by simpa using h7
 refine ⟨av,q,g, ?_,hD,DFr.refl _ _ _ _ _⟩
 rw [acall_code T52,run_code rfl rfl]
 simp -implicitDefEqProofs (disch:=omega) only [Rx,simprocAttr,F52,GOp.pv,attrsPV,e1,e2,e3,e4,e5,e6,e7]
end
end Go.TA.Tryz


end
section
/- The document's answer does what a machine does. -/
set_option maxRecDepth 100000
set_option maxHeartbeats 8000000
namespace Go.TA.Tryz
structure FineOp (x:GOp):Prop where
 kind:1≤x.kind∧x.kind≤7
 tag:x.kind=1→namedB false x.tag=true
 name:x.kind=5∨x.kind=6→namedB true x.name=true
 key:(x.key.length:Int)≤65536
 text:(x.text.length:Int)≤65536
 attrs:attrsErr x.attrs=0
 hs:0≤x.node∧x.node≤4294967295∧0≤x.up∧x.up≤4294967295∧0≤x.before∧x.before≤4294967295
 none:noneB x=false
theorem fineOp_of {x:GOp} (h:opErr x=0):FineOp x:=by
 unfold opErr at h
 split at h
 ·omega
 split at h
 ·omega
 split at h
 ·omega
 split at h
 ·omega
 split at h
 ·omega
 split at h
 ·omega
 split at h
 ·omega
 split at h
 ·omega
 split at h
 ·omega
 split at h
 ·omega
 rename_i h1 h2 h3 h4 h5 h6 h7 h8 h9 h10
 simp only [Bool.not_eq_false,Bool.not_eq_true] at h3 h4 h5 h6 h7 h8
 simp only [hOk,Bool.and_eq_true,decide_eq_true_eq] at h3 h4 h5
 refine ⟨⟨by omega,by omega⟩,fun hk => ?_,fun hk => ?_,by omega,by omega,h,⟨h3.1,h3.2,h4.1,h4.2,h5.1,h5.2⟩,h6⟩
 ·simpa [tagBad,hk] using h7
 ·rcases hk with hk | hk
  ·simpa [nameBad,hk] using h8
  ·simpa [nameBad,hk] using h8
theorem fit_node {S:MS} {h:Int} (h0:h≠0):fitE S h=if liveB S h=true then 0 else 13:=by simp [fitE,h0]
theorem doD_doM {S:MS} {x:GOp} (h:opErr x=0) (hN:S.N≤4294967295):(doD S x).2=doM S x:=by
 have hf:=fineOp_of h
 unfold doD doM
 by_cases h1:x.kind=1
 ·rw [if_pos h1,if_pos h1]
  have hz:createErr S.N x=0:=by
   have:=hf.key
   have:=hf.text
   simp only [createErr,hf.tag h1,Bool.true_eq_false,if_false,hf.attrs,ne_eq,not_true_eq_false]
   rw [if_neg (by omega),if_neg (by omega)]
  rw [if_pos hz]
 rw [if_neg h1,if_neg h1]
 by_cases h0:x.node=0
 ·rw [if_pos h0]
  have f0:fitE S x.node=14:=by simp [fitE,h0]
  by_cases h2:x.kind=2
  ·simp only [if_pos h2,insertD,f0];rfl
  rw [if_neg h2]
  by_cases h3:x.kind=3
  ·simp only [if_pos h3,moveD,f0];rfl
  rw [if_neg h3]
  by_cases h4:x.kind=4
  ·simp only [if_pos h4,removeD,f0];rfl
  rw [if_neg h4]
  by_cases h5:x.kind=5
  ·simp only [if_pos h5,setD,f0];rfl
  rw [if_neg h5]
  by_cases h6:x.kind=6
  ·simp only [if_pos h6,delD,f0];rfl
  rw [if_neg h6]
  have h7:x.kind=7:=by have:=hf.kind;omega
  simp only [if_pos h7,textD,f0];rfl
 rw [if_neg h0]
 have fn:=fit_node (S:=S) h0
 by_cases h2:x.kind=2
 ·rw [if_pos h2,if_pos h2]
  unfold insertD insertM
  rw [fn]
  cases hl:liveB S x.node <;> simp
 rw [if_neg h2,if_neg h2]
 by_cases h3:x.kind=3
 ·rw [if_pos h3,if_pos h3]
  unfold moveD moveM
  rw [fn]
  cases hl:liveB S x.node <;> simp
 rw [if_neg h3,if_neg h3]
 by_cases h4:x.kind=4
 ·rw [if_pos h4,if_pos h4]
  unfold removeD
  rw [fn]
  cases hl:liveB S x.node <;> simp
 rw [if_neg h4,if_neg h4]
 unfold changeM
 by_cases h5:x.kind=5
 ·have:=hf.text
  have hn:=hf.name (.inl h5)
  rw [if_pos h5,if_pos h5]
  unfold setD
  rw [fn]
  cases hl:liveB S x.node
  ·simp
  ·simp only [if_true,ne_eq,not_true_eq_false,if_false,hn,Bool.true_eq_false]
   rw [if_neg (by omega)]
 rw [if_neg h5,if_neg h5]
 by_cases h6:x.kind=6
 ·rw [if_pos h6,if_pos h6]
  unfold delD
  rw [fn]
  cases hl:liveB S x.node <;> simp
 rw [if_neg h6,if_neg h6]
 have h7:x.kind=7:=by have:=hf.kind;omega
 rw [if_pos h7,if_pos h7]
 unfold textD
 rw [fn]
 have:=hf.text
 cases hl:liveB S x.node
 ·simp
 ·simp only [if_true,ne_eq,not_true_eq_false,if_false,Bool.true_eq_false]
  rw [if_neg (by omega)]
section
variable {R:Nat} {S:MS} {av:Nat→AV} {p q:Nat} {g:List AObj}
theorem refDo_run (hS:S.Ok R) (hD:DM (liveL S) S.st S.kd S.N av p q g) (hL:(liveL S).length≤4194304) (hN:S.N≤4294967295) (x:GOp) (hs:smallAttrs x.attrs) {n:Nat} (hn:(liveL S).length<n) (hR:R+3<n) (hx:x.attrs.length<n) (hn2:1048577<n) :
  ∃ av' q' g',acall T (n+39) 25 [DP p,.p (.agg x.pv)] g=some (.p (.int .i64 (doE S x).1),g')∧DM (liveL (doE S x).2) (doE S x).2.st (doE S x).2.kd (doE S x).2.N av' p q' g'∧DFr (liveL S) av p q g (liveL (doE S x).2) av' q' g':=by
 have hck:=fun g=>ref25_run x hs g (n:=n+1) (by omega) (by omega)
 unfold doE
 by_cases h:opErr x=0
 ·rw [if_pos h]
  rw [h] at hck
  obtain ⟨av',q',g',hc,hD',hF⟩:=doD_run hS hD hL x hs hn hR hx hn2
  have e:=doD_doM (S:=S) h hN
  rw [e] at hc hD' hF
  refine ⟨av',q',g', ?_,hD',hF⟩
  rw [acall_code T25,run_code rfl rfl]
  generalize (doD S x).1=z at hc
  generalize doM S x=y at hc
  simp only [GOp.pv,attrsPV] at hc hck
  simp -implicitDefEqProofs (disch:=omega) only [Rx,simprocAttr,F25,GOp.pv,attrsPV,hck,hc]
 ·rw [if_neg h]
  have e1:(opErr x==0)=false:=by simpa using h
  refine ⟨av,q,g, ?_,hD,DFr.refl _ _ _ _ _⟩
  rw [acall_code T25,run_code rfl rfl]
  generalize opErr x=e at hck e1 ⊢
  simp only [GOp.pv,attrsPV] at hck
  simp -implicitDefEqProofs (disch:=omega) only [Rx,simprocAttr,F25,GOp.pv,attrsPV,hck,e1]
end
end Go.TA.Tryz


end
section
/- The document's answer runs a script. -/
set_option maxRecDepth 100000
set_option maxHeartbeats 8000000
namespace Go.TA.Tryz
theorem refRun_run {R : Nat} {S : MS} (hS : S.Ok R) (L : List GOp) (hL : ∀ x ∈ L, x.attrs.length ≤ 1048576 ∧ smallAttrs x.attrs) (hN : S.N + L.length ≤ 4194303) (hLl : L.length ≤ 1048576) (av : Nat → AV) (p q : Nat) (g : List AObj) (hD : DM (liveL S) S.st S.kd S.N av p q g) {F : Nat} (hF : S.N + L.length + bnd R L.length + bnd R L.length + 1048700 < F) :
    ∃ av' q' g', acall T (F + 1) 20 [DP p, .p (.list (L.map GOp.pv))] g = some (.tuple [.p (.int .i64 (runM S L 0).1), .p (.int .i64 (runM S L 0).2.1)], g')
      ∧ DM (liveL (runM S L 0).2.2) (runM S L 0).2.2.st (runM S L 0).2.2.kd (runM S L 0).2.2.N av' p q' g'∧DFr (liveL S) av p q g (liveL (runM S L 0).2.2) av' q' g':=by
  have key:=loop_inv (C:=acall T F) (N:=F) (B:=B20x0) (σ := Nat × MS × (Nat→AV) × Nat × List AObj) (S:=fun s=>⟨[(0,DP p),(1,.p (.list (L.map GOp.pv))),(9,.p (.int .i64 L.length)),(10,.p (.int .i64 s.1))],[],s.2.2.2.2⟩)
    (I:=fun s=>s.1≤L.length∧s.2.1.Ok (bnd R s.1)∧DM (liveL s.2.1) s.2.1.st s.2.1.kd s.2.1.N s.2.2.1 p s.2.2.2.1 s.2.2.2.2∧s.2.1.N≤S.N+s.1∧runM S L 0=runM s.2.1 (L.drop s.1) s.1∧DFr (liveL S) av p q g (liveL s.2.1) s.2.2.1 s.2.2.2.1 s.2.2.2.2) (μ := fun s=>L.length - s.1)
    (Q:=fun z=>∃ av' q' g',(((runM S L 0).2.1=0∧(runM S L 0).1=L.length∧z=(.exit 0,⟨[(1,.p (.list (L.map GOp.pv)))],[],g'⟩))∨z=(.ret,⟨[(4,.p (.int .i64 (runM S L 0).1)),(5,.p (.int .i64 (runM S L 0).2.1))],[],g'⟩))
      ∧ DM (liveL (runM S L 0).2.2) (runM S L 0).2.2.st (runM S L 0).2.2.kd (runM S L 0).2.2.N av' p q' g'∧DFr (liveL S) av p q g (liveL (runM S L 0).2.2) av' q' g') ?_ (0,S,av,q,g) ⟨by simp,hS,hD,by simp,by simp,DFr.refl _ _ _ _ _⟩ (by simp only;omega)
  · obtain ⟨z,hz,av',q',g',hz2,h2⟩:=key
    refine ⟨av',q',g', ?_,h2⟩
    have ll:(L.map GOp.pv).length=L.length:=by simp
    rw [acall_code T20,run_code rfl rfl]
    simp only [Int.natCast_zero] at hz
    rcases hz2 with ⟨z1,z2,rfl⟩ | rfl
    · rw [z1,z2]
      simp -implicitDefEqProofs (disch:=omega) only [Rx,simprocAttr,F20,ll,hz]
    · simp -implicitDefEqProofs (disch:=omega) only [Rx,simprocAttr,F20,ll,hz]
  rintro ⟨i,S1,av1,q1,g1⟩ ⟨h1,h2,h3,h4,h5,h6⟩
  simp only at h1 h2 h3 h4 h5 h6 ⊢
  have hb:=bnd_mono R h1
  by_cases hi:i<L.length
  · obtain ⟨x,hx⟩:∃ x,L[i]? = some x:=⟨_,List.getElem?_eq_getElem hi⟩
    obtain ⟨hxm,hxs⟩:=hL x (List.mem_of_getElem? hx)
    have k1:(i:Int)<(L.length:Int):=by omega
    have hg:=getD_map (f:=GOp.pv) hx
    have hll:=liveL_len S1
    obtain ⟨av2,q2,g2,hd,hD2,hfr⟩:=refDo_run h2 h3 (by omega) (by omega) x hxs (n:=F - 39) (by omega) (by omega) (by omega) (by omega)
    rw [show F - 39+39=F by omega] at hd
    obtain ⟨hok,hn1,hn2⟩:=doE_ok h2 x (by omega)
    have hr:=runM_drop hx S1
    by_cases e:(doE S1 x).1=0
    · left
      rw [if_pos e] at hr
      rw [hr] at h5
      refine ⟨(i+1,(doE S1 x).2,av2,q2,g2), ?_,⟨by simp only;omega,hok,hD2,by simp only;omega,h5,h6.trans hfr⟩,by simp only;omega⟩
      rw [e] at hd
      simp only [GOp.pv,attrsPV] at hd
      simp -implicitDefEqProofs (disch:=omega) only [Rx,simprocAttr,B20x0,k1,hg,GOp.pv,attrsPV,hd]
    · right
      rw [if_neg e] at hr
      rw [hr] at h5
      rw [h5]
      simp only
      refine ⟨_, ?_, ?_,av2,q2,g2,.inr rfl,hD2,h6.trans hfr⟩
      · have e1:((doE S1 x).1==0)=false:=by simpa using e
        generalize (doE S1 x).1=z at hd e1
        simp only [GOp.pv,attrsPV] at hd
        simp -implicitDefEqProofs (disch:=omega) only [Rx,simprocAttr,B20x0,k1,hg,GOp.pv,attrsPV,hd,e1]
      · simp
  · right
    obtain rfl:i=L.length:=by omega
    have k1:¬ (L.length:Int)<(L.length:Int):=by omega
    have hr:runM S1 (L.drop L.length) L.length=(L.length,0,S1):=by rw [List.drop_length];rfl
    rw [hr] at h5
    rw [h5]
    simp only
    refine ⟨_, ?_, ?_,av1,q1,g1,.inl ⟨trivial,trivial,rfl⟩,h3,h6⟩
    · simp -implicitDefEqProofs (disch:=omega) only [Rx,simprocAttr,B20x0,k1]
    · simp
end Go.TA.Tryz


end
section
/- Whether a script is valid: the program, and the document's answer. -/
set_option maxRecDepth 100000
set_option maxHeartbeats 8000000
namespace Go.TA.Tryz
noncomputable def lastM (l:List GRow) (L:List GOp):MS:=(runM (S0 l) L 0).2.2
noncomputable def lastE (l:List GRow) (L:List GOp) (left:Int):Int:=endE (lastM l L) (bnd l.length L.length) L left
noncomputable def lastR (l:List GRow) (L:List GOp):List GRow:=rowsM (lastM l L) (bnd l.length L.length)
noncomputable def validE (l:List GRow) (L:List GOp) (left:Int):Nat × Int :=
 if check13 l≠0 then (0,check13 l) else if (firstE L 0).2≠0 then firstE L 0 else if (runM (S0 l) L 0).2.1≠0 then ((runM (S0 l) L 0).1,(runM (S0 l) L 0).2.1)
 else if lastE l L left≠0 then (L.length,lastE l L left) else (0,0)
noncomputable def validR (l:List GRow) (L:List GOp) (left:Int):List GRow:=if (validE l L left).2=0 then lastR l L else []
theorem valid_gen (l:List GRow) (hsm:Rows.mid 1048577 l) (L:List GOp) (hL:∀ x ∈ L,smallOp x) (hl:l.length≤500000) (hLl:L.length≤500000) (left:Int) (g:List AObj) {F:Nat} (hF:bnd l.length L.length+bnd l.length L.length+6000000<F) :
  acall T (F+1) 27 [.p (.list (l.map GRow.pv)),.p (.list (L.map GOp.pv)),.p (.int .i64 left)] g=some (.tuple [.p (.list ((validR l L left).map GRow.pv)),.p (.int .i64 (validE l L left).1),.p (.int .i64 (validE l L left).2)],g):=by
 have hlb:l.length≤bnd l.length L.length:=by
  have:=bnd_mono l.length (Nat.zero_le L.length)
  exact this
 rw [acall_code T27,run_pure rfl rfl rfl]
 have eV:validE l L left=if check13 l≠0 then (0,check13 l) else if (firstE L 0).2≠0 then firstE L 0 else if (runM (S0 l) L 0).2.1≠0 then ((runM (S0 l) L 0).1,(runM (S0 l) L 0).2.1)
  else if lastE l L left≠0 then (L.length,lastE l L left) else (0,0):=rfl
 unfold validR
 by_cases h1:check13 l=0
 rotate_left
 ·have hnew:=newE_run l hsm (Nat.le_refl _) h1 (n:=F - l.length - 44) (by omega)
  rw [show F - l.length - 44+l.length+44=F by omega] at hnew
  have e1:(check13 l==0)=false:=by simpa using h1
  rw [eV,if_pos h1]
  generalize check13 l=e at *
  simp -implicitDefEqProofs (disch:=omega) only [Rx,simprocAttr,F27,hnew,e1,h1,Int.natCast_zero]
 rw [if_neg (by simpa using h1)] at eV
 have hs:sound l:=formed_sound (check13_ok h1).1
 have hS0:=S0_ok hs hsm (Nat.le_refl _)
 obtain ⟨av,rest,hnew,hM,_⟩:=new_run l hsm (Nat.le_refl _) h1 (n:=F - l.length - 44) (by omega)
 rw [show F - l.length - 44+l.length+44=F by omega] at hnew
 have hf:=firstP_run L (fun x hx=>(hL x hx).1) (by omega) [] (n:=F - 39) (by omega)
 rw [show F - 39+39=F by omega] at hf
 by_cases h2:(firstE L 0).2=0
 rotate_left
 ·rw [if_pos h2] at eV
  have e1:((firstE L 0).2==0)=false:=by simpa using h2
  rw [eV]
  generalize (firstE L 0).1=k at *
  generalize (firstE L 0).2=e at *
  simp only [machG] at hnew
  simp -implicitDefEqProofs (disch:=omega) only [Rx,simprocAttr,F27,hnew,hf,e1,h2]
 rw [if_neg (by simpa using h2)] at eV
 rw [h2] at hf
 have hN0:(S0 l).N=l.length+1:=rfl
 obtain ⟨av2,rest2,R',hrm,hM2,_,_,_,_⟩:=mrun_run hS0 L (fun x hx=>(hL x hx).1) (by omega) av rest hM (F:=F - 1) (by omega)
 rw [show F - 1+1=F by omega] at hrm
 have hmg:machG (S0 l).N (S0 l).st av rest=machG (l.length+1) (st0 l) av rest:=rfl
 rw [hmg] at hrm
 generalize machG (l.length+1) (st0 l) av rest=g1 at hnew hrm
 by_cases h3:(runM (S0 l) L 0).2.1=0
 rotate_left
 ·rw [if_pos h3] at eV
  have e1:((runM (S0 l) L 0).2.1==0)=false:=by simpa using h3
  rw [eV]
  simp only
  generalize (runM (S0 l) L 0).1=k at *
  generalize (runM (S0 l) L 0).2.1=e at *
  generalize machG (runM (S0 l) L 0).2.2.N (runM (S0 l) L 0).2.2.st av2 rest2=g2 at hrm
  generalize (firstE L 0).1=k0 at hf
  simp -implicitDefEqProofs (disch:=omega) only [Rx,simprocAttr,F27,hnew,hf,hrm,e1,h3]
 rw [if_neg (by simpa using h3)] at eV
 rw [h3] at hrm
 obtain ⟨q1,q2,q3⟩:=runM_facts L hS0 (S0_small hsm (Nat.le_refl _)) hL 0
 obtain ⟨rest3,he,hq⟩:=endG_run q1 q2 (by omega) L (by omega) left av2 rest2 hM2 (F:=F - 1) (by omega)
 rw [show F - 1+1=F by omega] at he
 have hrl:((rowsM (runM (S0 l) L 0).2.2 (bnd l.length L.length)).map GRow.pv).length=(rowsM (runM (S0 l) L 0).2.2 (bnd l.length L.length)).length:=by simp
 have hE:lastE l L left=endE (runM (S0 l) L 0).2.2 (bnd l.length L.length) L left:=rfl
 have hR:lastR l L=rowsM (runM (S0 l) L 0).2.2 (bnd l.length L.length):=rfl
 rw [← hE, ← hR] at he
 rw [← hR] at hrl hq
 generalize hX:(lastR l L).map GRow.pv=X at *
 generalize (lastR l L).length=k at he hrl
 generalize (firstE L 0).1=k0 at hf
 generalize (runM (S0 l) L 0).1=k1 at hrm
 simp only [machG] at hrm he
 have ll:(L.map GOp.pv).length=L.length:=by simp
 by_cases h4:lastE l L left=0
 ·rw [if_neg (by simpa using h4)] at eV
  rw [eV]
  rw [h4,if_pos rfl] at he
  simp only [if_pos,hX]
  simp -implicitDefEqProofs (disch:=omega) only [Rx,simprocAttr,F27,hnew,hf,hrm,he,hq,hrl,Int.natCast_zero]
 ·rw [if_pos h4] at eV
  rw [eV]
  simp only
  have e1:(lastE l L left==0)=false:=by simpa using h4
  rw [if_neg h4] at he
  generalize lastE l L left=e at *
  simp -implicitDefEqProofs (disch:=omega) only [Rx,simprocAttr,F27,hnew,hf,hrm,he,ll,e1,h4]
end Go.TA.Tryz


end
section
/- Whether a script is valid: the document's answer. -/
set_option maxRecDepth 100000
set_option maxHeartbeats 8000000
namespace Go.TA.Tryz
theorem DM.more {L:List Nat} {st:Nat→MNode} {kd:Nat→List Int} {nx:Int} {av:Nat→AV} {p q:Nat} {g:List AObj} (h:DM L st kd nx av p q g) (X:List AObj):DM L st kd nx av p q (g++X) :=
 h.onto (List.getElem?_append_left h.p_lt) (List.getElem?_append_left h.q_lt) fun k hk r hr=>List.getElem?_append_left ((h.kids k hk).ref_lt hr)
theorem liveL_zero {R:Nat} {S:MS} (hS:S.Ok R):(liveL S)[0]? = some 0:=by
 obtain ⟨k,hk⟩:∃ k,S.N=k+1:=⟨S.N - 1,by have:=hS.pos;omega⟩
 unfold liveL
 rw [hk,List.range_succ_eq_map,List.filter_cons,if_pos hS.top.1]
 rfl
theorem valid_ref (l:List GRow) (hsm:Rows.mid 1048577 l) (L:List GOp) (hL:∀ x ∈ L,smallOp x) (hl:l.length≤500000) (hLl:L.length≤500000) (left:Int) (g:List AObj) {F:Nat} (hF:bnd l.length L.length+bnd l.length L.length+6000000<F) :
  acall T (F+1) 28 [.p (.list (l.map GRow.pv)),.p (.list (L.map GOp.pv)),.p (.int .i64 left)] g=some (.tuple [.p (.list ((validR l L left).map GRow.pv)),.p (.int .i64 (validE l L left).1),.p (.int .i64 (validE l L left).2)],g):=by
 have hlb:l.length≤bnd l.length L.length:=bnd_mono l.length (Nat.zero_le L.length)
 rw [acall_code T28,run_pure rfl rfl rfl]
 have eV:validE l L left=if check13 l≠0 then (0,check13 l) else if (firstE L 0).2≠0 then firstE L 0 else if (runM (S0 l) L 0).2.1≠0 then ((runM (S0 l) L 0).1,(runM (S0 l) L 0).2.1)
  else if lastE l L left≠0 then (L.length,lastE l L left) else (0,0):=rfl
 unfold validR
 have hck:=check13_mid l hsm (Nat.le_refl _) (n:=F - 38) (by omega) []
 rw [show F - 38+38=F by omega] at hck
 by_cases h1:check13 l=0
 rotate_left
 ·have e1:(check13 l==0)=false:=by simpa using h1
  rw [eV,if_pos h1]
  generalize check13 l=e at *
  simp -implicitDefEqProofs (disch:=omega) only [Rx,simprocAttr,F28,hck,e1,h1,Int.natCast_zero]
 rw [if_neg (by simpa using h1)] at eV
 rw [h1] at hck
 have hs:sound l:=formed_sound (check13_ok h1).1
 have hS0:=S0_ok hs hsm (Nat.le_refl _)
 have hf:=firstR_run L (fun x hx=>⟨(hL x hx).1,(hL x hx).2.1⟩) (by omega) [] (n:=F - 38) (by omega)
 rw [show F - 38+38=F by omega] at hf
 by_cases h2:(firstE L 0).2=0
 rotate_left
 ·rw [if_pos h2] at eV
  have e1:((firstE L 0).2==0)=false:=by simpa using h2
  rw [eV]
  generalize (firstE L 0).1=k at *
  generalize (firstE L 0).2=e at *
  simp -implicitDefEqProofs (disch:=omega) only [Rx,simprocAttr,F28,hck,hf,e1,h2]
 rw [if_neg (by simpa using h2)] at eV
 rw [h2] at hf
 have hN0:(S0 l).N=l.length+1:=rfl
 obtain ⟨avD,g2,hnd,hDM,_⟩:=newR_run l (by omega) hs.1 [] (n:=F - 2) (by omega)
 rw [show F - 2+2=F by omega] at hnd
 simp only [List.length_nil,Nat.zero_add] at hnd hDM
 obtain ⟨avD2,q2,g3,hrd,hD2,_⟩:=refRun_run hS0 L (fun x hx=>⟨(hL x hx).1,(hL x hx).2.1⟩) (by omega) (by omega) avD _ _ _ hDM (F:=F - 1) (by omega)
 rw [show F - 1+1=F by omega] at hrd
 by_cases h3:(runM (S0 l) L 0).2.1=0
 rotate_left
 ·rw [if_pos h3] at eV
  have e1:((runM (S0 l) L 0).2.1==0)=false:=by simpa using h3
  rw [eV]
  simp only
  generalize (runM (S0 l) L 0).1=k at *
  generalize (runM (S0 l) L 0).2.1=e at *
  generalize (firstE L 0).1=k0 at hf
  simp -implicitDefEqProofs (disch:=omega) only [Rx,simprocAttr,F28,hck,hf,hnd,hrd,e1,h3]
 rw [if_neg (by simpa using h3)] at eV
 rw [h3] at hrd
 obtain ⟨hok,hsmS,hNS⟩:=runM_facts L hS0 (S0_small hsm (Nat.le_refl _)) hL 0
 have eL:lastM l L=(runM (S0 l) L 0).2.2:=rfl
 rw [← eL] at hok hsmS hNS hD2
 generalize (firstE L 0).1=k0 at hf
 generalize (runM (S0 l) L 0).1=k1 at hrd
 have eE:lastE l L left=if 0<(looseM (lastM l L)).length then 19 else if 1<tops (lastR l L) then 20 else if check13 (lastR l L)≠0 then check13 (lastR l L) else if (times L 1:Int)≤left then 0 else 21:=rfl
 have hlive:=liveL_len (lastM l L)
 have hlo:=looseD_run hD2 (by omega) (n:=F - 1) (by omega)
 rw [show F - 1+1=F by omega] at hlo
 have hll:=looseM_len (lastM l L)
 have hD3:=DM.more hD2 [.pcells 1 (intsPV (looseM (lastM l L)))]
 obtain ⟨o,ho,hrep⟩:=hD3.core.row
 have hob:=hD3.core.obj
 have h0:=liveL_zero hok
 have rd2:=rd_node hrep h0 (j:=2) (by omega)
 have hix:=fun s i=>hrep.idx rowsD_len s true q2 i
 have hK:=hD3.kids 0 (List.mem_of_getElem? h0)
 have htop:tops (lastR l L)=((lastM l L).kd 0).length:=tops_rows _ _
 have htl:=tops_le (lastR l L)
 have hpos:0<(liveL (lastM l L)).length:=(List.getElem?_eq_some_iff.1 h0).1
 have hrd2:=Read_run hok (by omega) hD3 (by omega) (n:=F - bnd l.length L.length - 2) (by omega)
 rw [show F - bnd l.length L.length - 2+bnd l.length L.length+2=F by omega] at hrd2
 have hRR:lastR l L=rowsM (lastM l L) (bnd l.length L.length):=rfl
 have hlen:=rowsM_len hok (bnd l.length L.length)
 have hsm2:=rowsM_small hok hsmS (by omega) (bnd l.length L.length)
 rw [← hRR] at hrd2 hlen hsm2
 have hck2:=check13_mid (lastR l L) hsm2 (Nat.le_refl _) (n:=F - 38) (by omega) []
 rw [show F - 38+38=F by omega] at hck2
 have htm:=times_run L (by omega) 1 [] (n:=F - 1) (by omega)
 rw [show F - 1+1=F by omega] at htm
 have ll:(L.map GOp.pv).length=L.length:=by simp
 have hrl:((lastR l L).map GRow.pv).length=(lastR l L).length:=by simp
 simp only [nAV] at rd2
 generalize looseM (lastM l L)=lo at *
 generalize hX:(lastR l L).map GRow.pv=X at *
 generalize hg4:g3++[AObj.pcells 1 (intsPV lo)]=g4 at *
 have q5:(g4++[AObj.pcells 6 X])[g4.length]? = some (.pcells 6 X):=by simp
 rw [htop] at eE htl
 generalize htp:((lastM l L).kd 0).length=tp at eE htl
 have fin:∀ K:AV,o.rd 1 (liveL (lastM l L)).length 0 2 7 false=some K→((K = .nils∧tp=0)∨(∃ r,K = .own true r tp)∨∃ Y:List (List PV),K = .p (.list Y)∧Y.length=tp) →
   rg (br (acall T F) F28 (aexec (acall T F) F F28.body (enterSt [.p (.list (l.map GRow.pv)),.p (.list (L.map GOp.pv)),.p (.int .i64 left)] []))) g=some (.tuple [.p (.list ((if (validE l L left).2=0 then lastR l L else []).map GRow.pv)),.p (.int .i64 (validE l L left).1),.p (.int .i64 (validE l L left).2)],g):=by
  intro K hK2 hcase
  generalize (liveL (lastM l L)).length=nl at *
  generalize rowsD (liveL (lastM l L)) (lastM l L).st avD2=rd at *
  by_cases c1:0<lo.length
  ·have e:lastE l L left=19:=by rw [eE,if_pos c1]
   rw [e,if_pos (by decide)] at eV
   rw [eV]
   simp -implicitDefEqProofs (disch:=omega) only [Rx,simprocAttr,F28,hck,hf,hnd,hrd,hlo,ll]
  by_cases c2:1<tp
  ·have e:lastE l L left=20:=by rw [eE,if_neg c1,if_pos c2]
   rw [e,if_pos (by decide)] at eV
   rw [eV]
   rcases hcase with ⟨rfl,k0⟩ | ⟨r,rfl⟩ | ⟨Y,rfl,k0⟩
   ·omega
   ·simp -implicitDefEqProofs (disch:=omega) only [Rx,simprocAttr,F28,hck,hf,hnd,hrd,hlo,hob,ho,hix,hK2,ll]
   ·simp -implicitDefEqProofs (disch:=omega) only [Rx,simprocAttr,F28,hck,hf,hnd,hrd,hlo,hob,ho,hix,hK2,ll,k0]
  by_cases c3:check13 (lastR l L)=0
  rotate_left
  ·have e:lastE l L left=check13 (lastR l L):=by rw [eE,if_neg c1,if_neg c2,if_pos c3]
   rw [if_pos (by rw [e];exact c3),e] at eV
   rw [eV]
   have c3':(check13 (lastR l L)==0)=false:=by simpa using c3
   generalize check13 (lastR l L)=e at hck2 c3 c3'
   rcases hcase with ⟨rfl,k0⟩ | ⟨r,rfl⟩ | ⟨Y,rfl,k0⟩
   ·simp -implicitDefEqProofs (disch:=omega) only [Rx,simprocAttr,F28,hck,hf,hnd,hrd,hlo,hob,ho,hix,hK2,hrd2,hck2,q5,hrl,ll,c3,c3']
   ·simp -implicitDefEqProofs (disch:=omega) only [Rx,simprocAttr,F28,hck,hf,hnd,hrd,hlo,hob,ho,hix,hK2,hrd2,hck2,q5,hrl,ll,c3,c3']
   ·simp -implicitDefEqProofs (disch:=omega) only [Rx,simprocAttr,F28,hck,hf,hnd,hrd,hlo,hob,ho,hix,hK2,hrd2,hck2,q5,hrl,ll,k0,c3,c3']
  rw [c3] at hck2
  generalize times L 1=t1 at *
  by_cases c4:(t1:Int)≤left
  ·have e:lastE l L left=0:=by rw [eE,if_neg c1,if_neg c2,if_neg (by simpa using c3),if_pos c4]
   rw [e,if_neg (by decide)] at eV
   rw [eV]
   simp only [if_pos,hX]
   have c4':¬ left<(t1:Int):=by omega
   rcases hcase with ⟨rfl,k0⟩ | ⟨r,rfl⟩ | ⟨Y,rfl,k0⟩
   ·simp -implicitDefEqProofs (disch:=omega) only [Rx,simprocAttr,F28,hck,hf,hnd,hrd,hlo,hob,ho,hix,hK2,hrd2,hck2,htm,q5,hrl,ll,c4',Int.natCast_zero]
   ·simp -implicitDefEqProofs (disch:=omega) only [Rx,simprocAttr,F28,hck,hf,hnd,hrd,hlo,hob,ho,hix,hK2,hrd2,hck2,htm,q5,hrl,ll,c4',Int.natCast_zero]
   ·simp -implicitDefEqProofs (disch:=omega) only [Rx,simprocAttr,F28,hck,hf,hnd,hrd,hlo,hob,ho,hix,hK2,hrd2,hck2,htm,q5,hrl,ll,k0,c4',Int.natCast_zero]
  ·have e:lastE l L left=21:=by rw [eE,if_neg c1,if_neg c2,if_neg (by simpa using c3),if_neg c4]
   rw [e,if_pos (by decide)] at eV
   rw [eV]
   have c4':left<(t1:Int):=by omega
   rcases hcase with ⟨rfl,k0⟩ | ⟨r,rfl⟩ | ⟨Y,rfl,k0⟩
   ·simp -implicitDefEqProofs (disch:=omega) only [Rx,simprocAttr,F28,hck,hf,hnd,hrd,hlo,hob,ho,hix,hK2,hrd2,hck2,htm,q5,hrl,ll,c4']
   ·simp -implicitDefEqProofs (disch:=omega) only [Rx,simprocAttr,F28,hck,hf,hnd,hrd,hlo,hob,ho,hix,hK2,hrd2,hck2,htm,q5,hrl,ll,c4']
   ·simp -implicitDefEqProofs (disch:=omega) only [Rx,simprocAttr,F28,hck,hf,hnd,hrd,hlo,hob,ho,hix,hK2,hrd2,hck2,htm,q5,hrl,ll,k0,c4']
 refine fin _ rd2 ?_
 rcases hK.inv with ⟨hav,hk0⟩ | ⟨r,hav,_⟩ | hav
 ·exact .inl ⟨hav,by rw [← htp,hk0];rfl⟩
 ·exact .inr (.inl ⟨r,by rw [← htp];exact hav⟩)
 ·exact .inr (.inr ⟨_,hav,by rw [intsPV_len,htp]⟩)
end Go.TA.Tryz


end
section
/- The examples that the statements contain, run. -/
set_option maxRecDepth 100000
namespace Go.TA.Tryz
theorem same28 (n:Nat):acall T (n+60) 26 [] []=some (.p (.bool true),[]):=by kernel_rfl
end Go.TA.Tryz


end
section
/- The law ValidRuns, in the machine. -/
set_option maxRecDepth 100000
set_option maxHeartbeats 8000000
namespace Go.TA.Tryz
theorem validR_len (l : List GRow) (hsm : Rows.mid 1048577 l) (L : List GOp) (hL : ∀ x ∈ L, smallOp x) (hl : l.length ≤ 500000) (hLl : L.length ≤ 500000) (left : Int) : (validR l L left).length ≤ 1048576 ∧ ∀ x ∈ validR l L left, x.attrs.length ≤ 1048576 := by
  unfold validR
  split
  · rename_i h
    by_cases h1:check13 l=0
    · have hs:sound l:=formed_sound (check13_ok h1).1
      have hS0:=S0_ok hs hsm (Nat.le_refl _)
      obtain ⟨q1,q2,q3⟩:=runM_facts L hS0 (S0_small hsm (Nat.le_refl _)) hL 0
      have hN0:(S0 l).N=l.length+1:=rfl
      have hlen:=rowsM_len q1 (bnd l.length L.length)
      have hsm2:=rowsM_small q1 q2 (by omega) (bnd l.length L.length)
      refine ⟨?_,fun x hx => ?_⟩
      · show (rowsM (runM (S0 l) L 0).2.2 (bnd l.length L.length)).length≤1048576
        omega
      · have:=(hsm2.row x hx).attrs
        omega
    · rw [validE,if_pos h1] at h
      exact absurd h h1
  · exact ⟨by simp,by simp⟩
theorem validRuns_run (l:List GRow) (L:List GOp) (left:Int) (hsm:Rows.small 1048577 l) (hL:∀ x ∈ L,smallOp x) (hLl:L.length≤1048575) :
    ∃ n,acall T n 5 [.p (.list (l.map GRow.pv)),.p (.list (L.map GOp.pv)),.p (.int .i64 left)] []=some (.p (.bool true),[]):=by
  have hlen:=hsm.len
  obtain ⟨F,hF⟩:∃ F,F=bnd l.length L.length+bnd l.length L.length+8000000:=⟨_,rfl⟩
  refine ⟨F+1, ?_⟩
  have hsame:=same28 (F - 60)
  rw [show F - 60+60=F by omega] at hsame
  have hfr:=fewR_run l 120 [] hsm (Nat.le_refl _) (by omega) (by omega) (m:=F - 1) (by omega)
  have hfo:=few_run L 150 [] (n:=F - 1) (fun y hy=>⟨hL y hy,by have:=(hL y hy).1;omega⟩) (by omega) (by omega) (by omega) (by omega)
  rw [show F - 1+1=F by omega] at hfr hfo
  rw [acall_code T5,run_pure rfl rfl rfl]
  cases h1:fewRows l 120 with
  | false =>
    rw [h1] at hfr
    simp -implicitDefEqProofs (disch:=omega) only [Rx,simprocAttr,F5,hfr,hsame]
  | true=>
  rw [h1] at hfr
  cases h2:fewOps L 150 with
  | false =>
    rw [h2] at hfo
    simp -implicitDefEqProofs (disch:=omega) only [Rx,simprocAttr,F5,hfr,hfo,hsame]
  | true=>
  rw [h2] at hfo
  have l1:=fewRows_len h1
  have l2:=fewOps_len h2
  have hv:=valid_gen l hsm.mid L hL (by omega) (by omega) left [] (F:=F - 1) (by omega)
  have hr:=valid_ref l hsm.mid L hL (by omega) (by omega) left [] (F:=F - 1) (by omega)
  rw [show F - 1+1=F by omega] at hv hr
  obtain ⟨v1,v2⟩:=validR_len l hsm.mid L hL (by omega) (by omega) left
  have he:=rowsEq_run (validR l L left) (by omega) (fun x hx=>by have:=v2 x hx;omega) [] (n:=F - 3) (by omega) (by omega)
  rw [show F - 3+3=F by omega] at he
  generalize (validR l L left).map GRow.pv=X at *
  generalize (validE l L left).1=a at *
  generalize (validE l L left).2=e at *
  simp -implicitDefEqProofs (disch:=omega) only [Rx,simprocAttr,F5,hfr,hfo,hv,hr,he,hsame]
end Go.TA.Tryz


end
section
/- The law ValidRuns, for every input of bulk at most 1048576: the call returns true, and nothing that was there has changed. -/
namespace Go.Proofs.YtnjblmbobmbgkaaGreatDoor.validRuns
open Go.ChangeShapes Go.WideShapes Go.ChangeAt Go.RowKit Go.TA
set_option maxRecDepth 100000
theorem own:ownKnob Tryz.prog.godebug=none:=by kernel_rfl
theorem kids:Kids Tryz.prog (· < Tryz.prog.types.size):=kids_rows (by kernel_rfl) (by kernel_rfl)
theorem full:∀ t e,t<Tryz.prog.types.size→Tryz.prog.underlying t=some (.slice e)→0<Tryz.prog.cellsOf e:=slices_full_of Tryz.prog (by kernel_rfl)
theorem bulk {H:Type}:Bulk (H:=H) Rows.uptoBulk Rows.uptoBulkAll where
 str bs:=by simp [Rows.uptoBulk]
 lit l:=by cases l <;> simp [Rows.uptoBulk]
 nil:=by simp [Rows.uptoBulk]
 slice a b:=by simp [Rows.uptoBulk]
 agg a:=by simp [Rows.uptoBulk]
 nilA:=by simp [Rows.uptoBulkAll]
 consA d r:=by simp [Rows.uptoBulkAll]
theorem laidVars_tail {P:Program} {w:World} {x:String × DataW Unit} {r:List (String × DataW Unit)} {ps:List MemPlace} (h:DataW.LaidVars P w (x::r) ps):∃ qs,DataW.LaidVars P w r qs:=by
 obtain ⟨n,d⟩:=x
 obtain ⟨g,t,cs,fuel,p,q,_,_,_,_,hq,_⟩:=h
 exact ⟨q,hq⟩
theorem tab_of_vars {P:Program} {W:World} {name:String} {k:IntKind} {zs:List Int} {rest:List (String × DataW Unit)} {ps:List MemPlace} {g:Nat} {t e:TypeId} {n:Nat}
  (hg:P.globalNamed name=some g) (hty:(P.globals[g]?).map (·.type)=some t) (ht:P.underlying t=some (.array n e)) (he:P.underlying e=some (.int k)) (hce:P.cellsOf e=1) (hct:P.cellsOf t=n)
  (h:DataW.LaidVars P W ((name,Lib.tabData k zs)::rest) ps):Lib.TabIs P W name k zs:=by
 obtain ⟨g',t',cs,fuel,p,q,hg',ht',hvar,hd,_,_⟩:=h
 obtain rfl:=Option.some.inj (hg.symm.trans hg')
 obtain rfl:=Option.some.inj (hty.symm.trans ht')
 unfold Lib.TabIs
 rw [hvar, ← Lib.cells_of_tab ht he hce hct hd]
theorem table {W:World} (h:laidMetH Tryz.prog Rows.validRunsRow.laid W):Lib.TabIs Tryz.prog W "internal/strconv.uint64pow10" .u64 Lib.pow10Tab:=by
 have h':laidMet Tryz.prog Rows.validRunsRow.laid W:=h
 obtain ⟨ps,hv,_⟩:=h'
 obtain ⟨qs,hv⟩:=laidVars_tail hv
 obtain ⟨qs,hv⟩:=laidVars_tail hv
 exact tab_of_vars (g:=0) (t:=176) (e:=167) (n:=20) (rest:=[]) (by kernel_rfl) (by kernel_rfl) (by kernel_rfl) (by kernel_rfl) (by kernel_rfl) (by kernel_rfl) hv
def types:List TypeId:=[22,68,23,37,3,9,35,70]
theorem closed:closedB Tryz.prog 9 types=true:=by decide +kernel
theorem shRows:shOf Tryz.prog 9 22=some [.sl 68]:=by decide +kernel
theorem shRow:shOf Tryz.prog 9 68=some (rowSh 70):=by decide +kernel
theorem shOps:shOf Tryz.prog 9 23=some [.sl 37]:=by decide +kernel
theorem shOp:shOf Tryz.prog 9 37=some (opSh 70):=by decide +kernel
theorem shAttr:shOf Tryz.prog 9 70=some [.str,.str]:=by decide +kernel
theorem shInt:shOf Tryz.prog 9 3=some [.int .i64]:=by decide +kernel
theorem params:Tryz.f5.params.toList=[22,23,3]:=by kernel_rfl
theorem bulk_ops:∀ (L:List GOp),(∀ x ∈ L,bulkL x.pv≤bulkLL (L.map GOp.pv))∧9*L.length≤bulkLL (L.map GOp.pv)
  | []=>by simp [bulkLL]
  | a :: l => by
    obtain ⟨h1,h2⟩:=bulk_ops l
    have:=bulk_op a
    simp only [List.map_cons,bulkLL,List.length_cons]
    refine ⟨fun b hb => ?_,by omega⟩
    rcases List.mem_cons.1 hb with rfl | hb
    · omega
    · have:=h1 b hb;omega
theorem contract (H:Type) (enc:TypeId × Value→H) (W:World) (base:Nat) (args:Array Value) (ds gs:List (DataW H)) (before:List MemPlace)
  (hval:∀ (j:Nat) t v,Tryz.f5.params[j]? = some t→args[j]? = some v→Value.okWide Tryz.prog W .any base t v)
  (hW:DataW.Whole enc Tryz.prog Tryz.f5.params.toList Rows.validRunsSpec.vars false W args.toList ds gs before) (hk:Rows.uptoSmall H (ds++gs)=true) (hL:laidMetH Tryz.prog Rows.validRunsRow.laid W) :
  Calls Tryz.prog 5 args W fun e W'=>∃ v,e = .returned v∧Rows.validRunsSpec.post enc Tryz.prog Tryz.f5 false true false false W args v W':=by
 have hW':=hW
 obtain ⟨p,q,hA,hV,rfl,_,_⟩:=hW'
 obtain ⟨rfl,rfl⟩:=trodVars_none hV
 rw [List.append_nil] at hk
 have hbound:Rows.uptoBulkAll ds≤1048576:=of_decide_eq_true hk
 have hlen:=trod_len hA
 rw [params] at hA hlen
 obtain ⟨pss,h1,h2,h3,h4⟩:=args_rel (gs:=types) (D0:=9) kids full bulk closed hA (by decide) (fun j t v hj hv=>⟨_,_,hval j t v (by rw [← Array.getElem?_toList,params];exact hj) (by simpa using hv)⟩)
 match pss,h1 with
 | [ps1,ps2,ps3],h1=>
 obtain ⟨⟨shs1,hs1,hok1⟩,⟨shs2,hs2,hok2⟩,⟨shs3,hs3,hok3⟩,_⟩:=h1
 rw [shRows] at hs1
 rw [shOps] at hs2
 rw [shInt] at hs3
 simp only [Option.some.injEq] at hs1 hs2 hs3
 subst hs1 hs2 hs3
 obtain ⟨xs1,r1,rfl,hx1,hr1⟩:=dec_list shRow hok1
 obtain rfl:=dec_nil hr1
 obtain ⟨l1,rfl,hl1⟩:=dec_rows shAttr hx1
 obtain ⟨xs2,r2,rfl,hx2,hr2⟩:=dec_list shOp hok2
 obtain rfl:=dec_nil hr2
 obtain ⟨l2,rfl,hl2⟩:=dec_ops shAttr hx2
 obtain ⟨l3,r3,rfl,hw3,hr3⟩:=dec_int hok3
 obtain rfl:=dec_nil hr3
 have hi3:=wf_i64 hw3
 have hb1:bulkLL (l1.map GRow.pv)<1048577:=by simp only [bulkLL,bulkL,PV.bulk] at h2;omega
 have hb2:bulkLL (l2.map GOp.pv)≤1048575:=by simp only [bulkLL,bulkL,PV.bulk] at h2;omega
 obtain ⟨fuel,hrun⟩:=Go.TA.Tryz.validRuns_run l1 l2 l3 (small_rows hb1 (Nat.le_refl _)) (fun x hx=>(Go.TA.Tryz.smallOp_of (n:=1048576) (by have:=(bulk_ops l2).1 x hx;omega) (Nat.le_refl _)).1) (by have:=(bulk_ops l2).2;omega)
 have ha0:aggT Tryz.prog 22=false:=by decide +kernel
 have ha1:aggT Tryz.prog 23=false:=by decide +kernel
 have ha2:aggT Tryz.prog 3=false:=by decide +kernel
 have hargs:argsOf Tryz.prog [22,23,3] [[.list (l1.map GRow.pv)],[.list (l2.map GOp.pv)],[.int .i64 l3]]=[.list (l1.map GRow.pv),.list (l2.map GOp.pv),.int .i64 l3]:=by simp [argsOf,argOf,ha0,ha1,ha2]
 rw [hargs] at h3 h4
 refine (law_calls_at (ΓW_holds (table hL)) Go.TA.Tryz.mixed (Go.TA.Tryz.T_okW W) (ps:=[.list (l1.map GRow.pv),.list (l2.map GOp.pv),.int .i64 l3]) hrun (by simpa using h3) h4).mono fun e W' ⟨he,hB⟩=>⟨_,he, ?_⟩
 refine law_post kids full hW rfl (tb:=4) rfl (by kernel_rfl) (by rw [params];decide +kernel) ?_ hB
 match ds,hlen with
 | [d1,d2,d3],_=>rfl
def wargs:Array Value := #[.slice none 0 0,.slice none 0 0,.int .i64 0]
def put (k:IntKind) (zs:List Int):Obj→Obj
 | .cells _ t frozen => .cells (zs.map fun z=>Value.int k z).toArray t frozen
 | o=>o
def bits32:List Int:=[0,1,28,2,29,14,24,3,30,22,20,15,25,17,4,8,31,27,13,23,21,19,16,7,26,12,18,6,11,5,10,9]
def bits64:List Int:=[0,1,56,2,57,49,28,3,61,58,42,50,38,29,17,4,62,47,59,36,45,43,51,22,53,39,33,30,24,18,12,5,63,55,48,27,60,41,37,16,46,35,44,21,52,32,23,11,54,26,40,15,34,20,31,10,25,14,19,9,13,8,7,6]
noncomputable def laidWorld (os:Os):World :=
 { World.holding Tryz.prog os ⟨#[], #[],[]⟩ with heap:=(((World.holding Tryz.prog os ⟨#[], #[],[]⟩).heap.modify 0 (put .u64 Lib.pow10Tab)).modify 2 (put .u8 bits32)).modify 3 (put .u8 bits64) }
theorem laid_met (os:Os):laidMet Tryz.prog Rows.validRunsRow.laid ((laidWorld os).forCall (fun _ _=>0) ⟨#[],wargs,[]⟩).memory :=
 laidMet_of_run' 8 (by kernel_rfl) (by kernel_rfl)
theorem reads (os:Os) {H:Type} (enc:TypeId × Value→H):∃ places,DataW.whole enc Tryz.prog ((laidWorld os).forCall (fun _ _=>0) ⟨#[],wargs,[]⟩).memory Tryz.f5.params.toList Rows.validRunsSpec.vars false wargs.toList 8=some ([.nil,.nil,.lit (.int .i64 0)],[],places) :=
 ⟨[],by kernel_rfl⟩
theorem liftedUpto (os:Os) (started:os.Started) (H:Type) (enc:TypeId × Value→H) (F:Stop.Interp) :
  ReturnsInHanded {} Tryz.checked os 5 .any ((Rows.OpenSpec.upto Rows.validRunsSpec).preRow enc Tryz.prog Tryz.f5 Rows.validRunsUptoRow.domain false Rows.validRunsUptoRow.laid) (((Rows.OpenSpec.upto Rows.validRunsSpec).at F).post enc Tryz.prog Tryz.f5 false true false false):=by
 obtain ⟨places,hx⟩:=reads os enc
 refine returnsInHanded_of_row (C:=Tryz.checked) (s:=Rows.OpenSpec.upto Rows.validRunsSpec) own started (by kernel_rfl) Tryz.func5
  (witness_row_at (enc:=enc) (C:=Tryz.checked) false (laidWorld os) wargs rfl (by kernel_rfl) (by kernel_rfl) (by kernel_rfl)
   (OpenSpec.preRow_of_cond 8 hx (by kernel_rfl) (fun k hk=>by cases hk;kernel_rfl) (by kernel_rfl) (laid_met os))) ?_
 intro W base args ds gs before hval hW _ hcond _ hL _ _
 exact contract H enc W base args ds gs before hval hW (hcond _ rfl) hL
theorem saidUpto:Rows.ValidRunsUptoSaid :=
 OpenClaim.holds_of_cond 5 Tryz.f5 rfl rfl rfl rfl rfl rfl rfl ⟨rfl,rfl,rfl,rfl,rfl⟩ rfl rfl rfl rfl rfl (by kernel_rfl) Tryz.func5 (by kernel_rfl)
  (of_decide_eq_true (by kernel_rfl)) (by unfold Func.isWrapper;first | (rw [if_pos (by decide +kernel)];kernel_rfl) | (rw [if_neg (by decide +kernel)];exact ⟨rfl,rfl⟩))
  (fun os started H enc _ F=>by rw [OpenClaim.pre_eq_preRow];exact liftedUpto os started H enc F)
theorem plain (f:FuncId) (fn:Func) (hf:Tryz.pinned.checked.prog.funcNamed "tendril/tendrillaw28.ValidRuns" = some f) (hfn:Tryz.pinned.checked.prog.funcs[f]? = some fn) :
  false=Tryz.pinned.checked.prog.looks []∧∀ (j:Nat) t,fn.params[j]? = some t→Tryz.pinned.checked.prog.wantsStandIn t=false:=by
 obtain rfl:f=5:=Option.some.inj ((show Tryz.prog.funcNamed "tendril/tendrillaw28.ValidRuns" = some 5 by kernel_rfl).symm.trans hf) |>.symm
 obtain rfl:fn=Tryz.f5:=(Option.some.inj (Tryz.func5.symm.trans hfn)).symm
 refine ⟨by kernel_rfl,fun j t ht => ?_⟩
 have hm:t ∈ [22,23,3]:=by
  rw [← params]
  exact Array.mem_toList_iff.2 (Array.mem_of_getElem? ht)
 have hall:[22,23,3].all (fun t=>Tryz.prog.wantsStandIn t==false)=true:=by kernel_rfl
 exact beq_iff_eq.1 (List.all_eq_true.1 hall t hm)
theorem holds:Rows.ValidRunsUptoCardSaid :=
 Claim7.holds_tied_plain_at .later [] _ _ _ _ saidUpto (fun _ h=>by cases h) (by kernel_rfl) (fun _ h=>by cases h) validRunsUpto_row_tie rfl ⟨rfl,rfl⟩ (by kernel_rfl) rfl plain (by kernel_rfl)
end Go.Proofs.YtnjblmbobmbgkaaGreatDoor.validRuns


end
