/- Part 13 of 15 of a proof; joined from IrnBuilt, IrnCheck13, IrnVisit, IrnVisitE, IrnBuildE, IrnFlatA, IrnFlat, IrnFlatE, IrnIBld, IrnRAt, IrnRIns, IrnRMove. The document's answer: a node is put elsewhere below the same one. -/
import Derived.Test.YtbgbmdjfogohnaaGreatDoorIr11
import Derived.Test.YtbgbmdjfogohnaaGreatDoorIr12
import Derived.Test.YtbgbmdjfogohnaaGreatDoorIr1
import Derived.Test.YtbgbmdjfogohnaaGreatDoorIr6
import Derived.Test.YtbgbmdjfogohnaaGreatDoorIr7
import Derived.Test.YtbgbmdjfogohnaaGreatDoorIr10
set_option linter.unusedSimpArgs false
set_option linter.unusedVariables false
set_option linter.defProp false
set_option maxRecDepth 100000
set_option maxHeartbeats 8000000
section
/- A document's nodes, made of rows: a machine of rows beside it. Plain. -/
namespace Go.TA
def fI (N0 u:Nat):Nat:=if u=0 then 0 else N0+u
theorem fI_pos {N0 u:Nat} (h:u≠0):fI N0 u=N0+u:=if_neg h
def T0 (l:List GRow) (i:Nat):MS:=⟨i+1,st0 l,kd0 l i⟩
def crO (x:GRow):GOp:=⟨1,0,0,0,x.tag,x.key,[],x.text,x.attrs⟩
def inO (h u:Int):GOp:=⟨2,h,u,0,[],[],[],[],[]⟩
theorem T0_ok {l:List GRow} (hs:standTo l l.length) (ha:∀ x ∈ l,x.attrs.length≤1048577) {i:Nat} (hi:i≤l.length):(T0 l i).Ok i:=by
  have hlive:∀ c,c<i+1→(st0 l c).live=true:=fun c hc=>by
    cases c with
    | zero=>rfl
    | succ j =>
      obtain ⟨x,hx⟩:=get_some (show j<l.length by omega)
      simp [st0,hx,nodeOf]
  have hup:∀ j x,l[j]? = some x→(st0 l (j+1)).up=x.up:=fun j x hx=>by simp [st0,hx,nodeOf]
  refine ⟨by simp [T0],⟨rfl,rfl⟩,fun p hp k hk => ?_,fun c hc => ?_,fun c hc hd => ?_,fun p hp=>kd0_nodup l i p,⟨fun c=>c,fun c hc=>by simp only [T0] at hc;show c≤i;omega,fun c p hc hu => ?_⟩,fun c hc => ?_⟩
  · obtain ⟨j,x,h1,h2,h3,rfl⟩:=mem_kd0.1 hk
    exact ⟨j+1,by omega,by simp only [T0];omega,hlive _ (by omega),by simp only [T0];rw [hup j x h2];exact h3⟩
  · simp only [T0] at hc ⊢
    cases c with
    | zero=>exact .inl rfl
    | succ j =>
      obtain ⟨x,hx⟩:=get_some (show j<l.length by omega)
      have hst:=hs j x (by omega) hx
      refine .inr ⟨x.up.toNat,by omega, ?_,hlive _ (by omega),mem_kd0.2 ⟨j,x,by omega,hx,by omega,by omega⟩⟩
      rw [hup j x hx];omega
  · simp only [T0] at hc hd
    rw [hlive c hc] at hd;cases hd
  · simp only [T0] at hc hu
    cases c with
    | zero=>simp [st0,holder] at hu <;> omega
    | succ j =>
      obtain ⟨x,hx⟩:=get_some (show j<l.length by omega)
      have hst:=hs j x (by omega) hx
      rw [hup j x hx] at hu
      show p<j+1
      omega
  · simp only [T0] at hc ⊢
    cases c with
    | zero=>simp [st0,holder]
    | succ j =>
      obtain ⟨x,hx⟩:=get_some (show j<l.length by omega)
      have:=ha x (List.mem_of_getElem? hx)
      simp only [st0,hx,Option.map_some,Option.getD_some,nodeOf]
      exact this
theorem Sim.congr {φ : Nat→Nat} {M M' S:MS} (h:Sim φ M S) (hN:M'.N=M.N) (hst:∀ k,k<M.N→M'.st k=M.st k) (hkd:∀ k,k<M.N→M'.kd k=M.kd k):Sim φ M' S where
 pos:=by rw [hN];exact h.pos
 zero:=h.zero
 next j:=by rw [hN];exact h.next j
 lt k hk:=h.lt k (by omega)
 inj k j hk hj:=h.inj k j (by omega) (by omega)
 node k hk:=by rw [hst k (by omega)];exact h.node k (by omega)
 kd k hk:=by rw [hkd k (by omega)];exact h.kd k (by omega)
 onto k hk hl:=by
  obtain ⟨j,h1,h2⟩:=h.onto k hk hl
  exact ⟨j,by omega,h2⟩
theorem sim_docS (l:List GRow) (N0:Nat):Sim (fI N0) (T0 l 0) (docS (N0+1)) where
  pos:=by simp [T0]
  zero:=rfl
  next j:=by
    show fI N0 (0+1+j)=N0+1+j
    rw [fI_pos (by omega)];omega
  lt k hk := by simp only [T0] at hk; obtain rfl : k = 0 := by omega
                simp [fI,docS]
  inj k j hk hj _:=by simp only [T0] at hk hj;omega
  node k hk:=by
    simp only [T0] at hk;obtain rfl:k=0:=by omega
    simp [fI,docS,T0,st0,holder,img]
  kd k hk:=by
    simp only [T0] at hk;obtain rfl:k=0:=by omega
    simp [fI,docS,T0,kd0_zero]
  onto k hk hl:=by
    simp only [docS] at hl
    split at hl
    · rename_i e;exact ⟨0,by simp [T0],by rw [e];rfl⟩
    · simp [deadN] at hl
theorem born {R:Nat} {S:MS} (hS:S.Ok R) (x:GOp) (hx:x.attrs.length≤1048577) {u:Nat} (hu:u<S.N) (hl:(S.st u).live=true):insertD (S.create x) S.N u 0=(0,placeM (S.create x) S.N u 0)∧(placeM (S.create x) S.N u 0).Ok (R+R+1):=by
 have hC:=hS.create x hx
 have hpos:=hS.pos
 have hN:(S.create x).N=S.N+1:=rfl
 have stN:(S.create x).st S.N=⟨true, -1,x.tag,x.key,x.text,x.attrs⟩:=by simp [MS.create,upd]
 have stu:(S.create x).st u=S.st u:=by simp only [MS.create];rw [upd_ne (by omega)]
 have st0':(S.create x).st 0=S.st 0:=by simp only [MS.create];rw [upd_ne (by omega)]
 have hlN:liveB (S.create x) (S.N:Int)=true:=by simp [liveB,stN,hN] <;> omega
 have hlu:liveB (S.create x) (u:Int)=true:=by simp [liveB,stu,hl,hN] <;> omega
 have hl0:liveB (S.create x) 0=true:=by simp [liveB,st0',hS.top.1,hN] <;> omega
 have hnb:¬ Below (S.create x) (S.N:Int) (u:Int):=fun hb=>by
  obtain ⟨k,hk,_⟩:=below_kid hC hb u rfl (by omega) (by omega)
  simp [MS.create,upd] at hk
 have hub:underB (S.create x) (u:Int) (S.N:Int)=false:=by
  cases h:underB (S.create x) (u:Int) (S.N:Int) with
  | false=>rfl
  | true=>exact absurd (underB_iff.1 h) hnb
 have hf:fitE (S.create x) (S.N:Int)=0:=by simp only [fitE,hlN];rw [if_neg (by omega)];rfl
 have hupN:upOf (S.create x) (S.N:Int) = -1:=by simp [upOf,stN]
 refine ⟨?_,hC.place 0 (by omega) (by rw [stN]) hpos (by rw [stN]) (by omega) (by rw [stu];exact hl) hnb⟩
 unfold insertD
 rw [if_neg (by simp [hf]),if_neg (by simp [hlu,hl0]),if_neg (by omega),if_neg (by simp [hub]),if_neg (by simp)]
 simp
theorem T0_next {l:List GRow} (hs:standTo l l.length) {i:Nat} {x:GRow} (hx:l[i]? = some x) {u:Nat} (hu:x.up=(u:Int)) :
  (∀ k,k<i+2→(T0 l (i+1)).st k=(placeM ((T0 l i).create (crO x)) (i+1) u 0).st k)∧∀ k,k<i+2→(T0 l (i+1)).kd k=(placeM ((T0 l i).create (crO x)) (i+1) u 0).kd k:=by
 have hil:=(List.getElem?_eq_some_iff.1 hx).1
 have hui:=hs i x hil hx
 refine ⟨fun k hk => ?_,fun k hk => ?_⟩
 ·simp only [T0,placeM,MS.create]
  by_cases e:k=i+1
  ·subst e
   rw [upd_at,upd_at]
   simp [st0,hx,nodeOf,crO,hu]
  ·rw [upd_ne e,upd_ne e]
 ·simp only [T0,placeM,MS.create]
  rw [kd0_succ hx,hu]
  have hnew:∀ h,upd (kd0 l i) (i+1) [] h=kd0 l i h:=fun h=>by
   by_cases e:h=i+1
   ·subst e;rw [upd_at,kd0_new (fun j y hj=>hs j y (by omega)) (by omega)]
   ·rw [upd_ne e]
  by_cases e:k=u
  ·subst e
   rw [upd_at,hnew,if_pos rfl,insI,if_pos rfl,List.take_length,List.drop_length]
   simp
  ·rw [upd_ne e,hnew,if_neg (by omega)]
theorem built_step {l:List GRow} (hs:standTo l l.length) (ha:∀ x ∈ l,x.attrs.length≤1048577) {N0 i R:Nat} {S:MS} (hS:S.Ok R) (hM:Sim (fI N0) (T0 l i) S) {x:GRow} (hx:l[i]? = some x) {u:Nat} (hu:x.up=(u:Int)) (hal:createErr S.N (crO x)=0) :
    S.N=N0+1+i∧doD S (crO x)=((S.N:Int),0,S.create (crO x))∧doD (S.create (crO x)) (inO S.N (fI N0 u))=(0,0,placeM (S.create (crO x)) S.N (fI N0 u) 0)∧Sim (fI N0) (T0 l (i+1)) (placeM (S.create (crO x)) S.N (fI N0 u) 0):=by
  have hil:=(List.getElem?_eq_some_iff.1 hx).1
  have hui:=hs i x hil hx
  have hax:=ha x (List.mem_of_getElem? hx)
  have hSN:S.N=N0+1+i:=by
    have h:fI N0 (i+1+0)=S.N+0:=hM.next 0
    rw [fI_pos (by omega)] at h
    omega
  have hOk:=T0_ok hs ha (show i≤l.length by omega)
  have hTu:((T0 l i).st u).live=true:=by
    simp only [T0]
    cases u with
    | zero=>rfl
    | succ j =>
      obtain ⟨y,hy⟩:=get_some (show j<l.length by omega)
      simp [st0,hy,nodeOf]
  have huN:u<(T0 l i).N:=by simp only [T0];omega
  have h1:=hM.lt u huN
  have h2:(S.st (fI N0 u)).live=true:=by rw [hM.node u huN];exact hTu
  obtain ⟨b1,b2⟩:=born hS (crO x) hax h1 h2
  have hC:=hM.create (x:=crO x) (y:=crO x) rfl rfl rfl rfl
  have hP:=hC.place (hOk.create (crO x) hax) (h:=i+1) (u:=u) (b:=0) (by simp [MS.create,T0]) (by simp [MS.create,T0];omega) (.inr ⟨0,by simp [MS.create],rfl⟩)
  have e1:fI N0 (i+1)=S.N:=by rw [fI_pos (by omega)];omega
  have e2:img (fI N0) 0=0:=by simp [img,fI]
  rw [e1,e2] at hP
  obtain ⟨t1,t2⟩:=T0_next hs hx hu
  refine ⟨hSN, ?_, ?_,hP.congr rfl (fun k hk=>t1 k (by simp only [placeM,MS.create,T0] at hk;omega)) (fun k hk=>t2 k (by simp only [placeM,MS.create,T0] at hk;omega))⟩
  · unfold doD;rw [if_pos (show (crO x).kind=1 from rfl),if_pos hal]
  · unfold doD;rw [if_neg (show ¬ (inO (S.N:Int) (fI N0 u)).kind=1 from fun e=>by cases e),if_pos (show (inO (S.N:Int) (fI N0 u)).kind=2 from rfl)]
    show ((0:Int),insertD (S.create (crO x)) (S.N:Int) (fI N0 u:Int) 0)=_
    rw [b1]
end Go.TA


end
section
/- What is wrong with rows: the document's answer. -/
namespace Go.TA.Tryz
def twinB (x y:GRow):Bool:=(y.up==x.up) && (y.key==x.key)
def dupB (l:List GRow) (i:Nat) (x:GRow):Bool := !(x.key==[]) && (l.take i).any (twinB x)
def rowErr (l:List GRow) (i:Nat) (x:GRow):Int:=if i=4096 then 12 else if 64<(chain l (i+1)).length then 11 else if aloneErr x=0 then (if dupB l i x=true then 10 else 0) else aloneErr x
def errFrom (l:List GRow):Nat→List GRow→Int
 | _,[]=>0
 | i,x::r=>if rowErr l i x=0 then errFrom l (i+1) r else rowErr l i x
def check13 (l:List GRow):Int:=if formedB l=true then errFrom l 0 l else 2
def dupOut (l:List GRow) (i:Nat) (r:Bool):Ex × St:=if r=true then (.ret,⟨[(2,.p (.int .i64 10))],[],[]⟩) else (.exit 2,⟨[(0,.p (.list (l.map GRow.pv))),(10,.p (.int .i64 l.length)),(11,.p (.int .i64 i))],[],[]⟩)
theorem dup_loop {n N : Nat} (l : List GRow) (i : Nat) (x : GRow) (hx : l[i]? = some x) (hl : l.length ≤ 1048576) (hN : l.length < N) :
    aexec (acall T n) N (.loop B13x1) ⟨[(0,.p (.list (l.map GRow.pv))),(3,.p (.int .i64 i)),(10,.p (.int .i64 l.length)),(11,.p (.int .i64 i)),(46,.p (.int .i64 i)),(47,.p (.int .i64 ((0:Nat):Int)))],[],[]⟩=some (dupOut l i (dupB l i x)):=by
  have hlt:i<l.length:=(List.getElem?_eq_some_iff.1 hx).1
  have hg:=getD_map (f:=GRow.pv) hx
  have:=loop_rule' (C:=acall T n) (N:=N) (B:=B13x1) (σ := Nat) (S:=fun k=>⟨[(0,.p (.list (l.map GRow.pv))),(3,.p (.int .i64 i)),(10,.p (.int .i64 l.length)),(11,.p (.int .i64 i)),(46,.p (.int .i64 i)),(47,.p (.int .i64 k))],[],[]⟩) (I:=fun k=>k≤i) (μ := fun k=>i - k)
    (Φ := fun k=>dupOut l i (!(x.key==[]) && ((l.take i).drop k).any (twinB x))) ?_ 0 (by omega) (by omega)
  · simpa [dupB] using this
  intro k hk
  by_cases h:k<i
  · have k1 : (k : Int) < (i : Int) := by omega
    have k2:(i:Int)<(l.length:Int):=by omega
    have k3:(k:Int)<(l.length:Int):=by omega
    obtain ⟨y,hy⟩:=get_some (show k<l.length by omega)
    have hgy:=getD_map (f:=GRow.pv) hy
    have hd:(l.take i).drop k=y::(l.take i).drop (k+1):=by
      rw [List.drop_eq_getElem?_toList_append,List.getElem?_take,if_pos h,hy];rfl
    have next:(!(x.key==[]) && twinB x y)=false→dupOut l i (!(x.key==[]) && ((l.take i).drop k).any (twinB x))=dupOut l i (!(x.key==[]) && ((l.take i).drop (k+1)).any (twinB x)):=fun h=>by
      rw [hd,List.any_cons,Bool.and_or_distrib_left,h,Bool.false_or]
    cases hk0:(x.key==[]) with
    | true =>
      refine .inl ⟨k+1, ?_,by omega,by omega,by rw [hk0] at next;exact next rfl⟩
      simp -implicitDefEqProofs (disch:=omega) only [Rx,simprocAttr,B13x1,k1,k2,hg,GRow.pv,hk0]
    | false =>
      cases hu:(y.up==x.up) with
      | false =>
        refine .inl ⟨k+1, ?_,by omega,by omega,by rw [hk0] at next;exact next (by simp [twinB,hu])⟩
        simp -implicitDefEqProofs (disch:=omega) only [Rx,simprocAttr,B13x1,k1,k2,k3,hg,hgy,GRow.pv,hk0,hu]
      | true =>
        cases hke:(y.key==x.key) with
        | false =>
          refine .inl ⟨k+1, ?_,by omega,by omega,by rw [hk0] at next;exact next (by simp [twinB,hke])⟩
          simp -implicitDefEqProofs (disch:=omega) only [Rx,simprocAttr,B13x1,k1,k2,k3,hg,hgy,GRow.pv,hk0,hu,hke]
        | true =>
          have e:dupOut l i (!false && ((l.take i).drop k).any (twinB x))=(.ret,⟨[(2,.p (.int .i64 10))],[],[]⟩):=by
            rw [hd,List.any_cons];simp [twinB,hu,hke,dupOut]
          refine .inr ?_
          rw [e]
          refine ⟨?_,by simp⟩
          simp -implicitDefEqProofs (disch:=omega) only [Rx,simprocAttr,B13x1,k1,k2,k3,hg,hgy,GRow.pv,hk0,hu,hke]
  · have k1:¬ (k:Int)<(i:Int):=by omega
    have e:(l.take i).drop k=[]:=List.drop_eq_nil_of_le (by rw [List.length_take];omega)
    refine .inr ?_
    rw [e,List.any_nil,Bool.and_false]
    have e2:dupOut l i false=(.exit 2,⟨[(0,.p (.list (l.map GRow.pv))),(10,.p (.int .i64 l.length)),(11,.p (.int .i64 i))],[],[]⟩):=by simp [dupOut]
    rw [e2]
    refine ⟨?_,by simp⟩
    simp -implicitDefEqProofs (disch:=omega) only [Rx,simprocAttr,B13x1,k1]
def errOut (r:Int):Ex × St:=if r=0 then (.exit 0,⟨[],[],[]⟩) else (.ret,⟨[(2,.p (.int .i64 r))],[],[]⟩)
theorem err_loop {n N m:Nat} (l:List GRow) (hl:Rows.mid m l) (hm:m≤1048577) (hs:standTo l l.length) (hN:m≤N) (hn:1048577≤n) :
    aexec (acall T (n+37)) N (.loop B13x0) ⟨[(0,.p (.list (l.map GRow.pv))),(10,.p (.int .i64 l.length)),(11,.p (.int .i64 ((0:Nat):Int)))],[],[]⟩=some (errOut (errFrom l 0 l)):=by
  have hlen:=hl.len
  have:=loop_rule' (C:=acall T (n+37)) (N:=N) (B:=B13x0) (σ := Nat) (S:=fun i=>⟨[(0,.p (.list (l.map GRow.pv))),(10,.p (.int .i64 l.length)),(11,.p (.int .i64 i))],[],[]⟩) (I:=fun i=>i≤l.length∧i≤4096) (μ := fun i=>l.length - i)
    (Φ := fun i=>errOut (errFrom l i (l.drop i))) ?_ 0 ⟨by omega,by omega⟩ (by omega)
  · simpa using this
  rintro i ⟨hi,hi4⟩
  by_cases h:i<l.length
  · have k1:(i:Int)<(l.length:Int):=by omega
    obtain ⟨x,hx⟩:=get_some h
    have hg:=getD_map (f:=GRow.pv) hx
    have hsm:=hl.row x (List.mem_of_getElem? hx)
    have hd:l.drop i=x::l.drop (i+1):=by rw [List.drop_eq_getElem?_toList_append,hx];rfl
    rw [hd]
    have bad:∀ e:Int,rowErr l i x=e→e≠0→errOut (errFrom l i (x::l.drop (i+1)))=(.ret,⟨[(2,.p (.int .i64 e))],[],[]⟩):=fun e h1 h2=>by
      simp only [errFrom,h1,if_neg h2,errOut]
    by_cases h4:i=4096
    · refine .inr ?_
      rw [bad 12 (by simp [rowErr,h4]) (by decide)]
      refine ⟨?_,by simp⟩
      have k2:((i:Int)==4096)=true:=by simp;omega
      simp -implicitDefEqProofs (disch:=omega) only [Rx,simprocAttr,B13x0,k1,k2]
    have k2:((i:Int)==4096)=false:=by simp;omega
    have hdep:=depth_run (n:=n+36) l (i+1) (hs.mono (by omega)) (by omega) (by omega) [] (by omega)
    simp only [Int.natCast_add,Int.natCast_one] at hdep
    by_cases h64:64<(chain l (i+1)).length
    · refine .inr ?_
      rw [bad 11 (by simp [rowErr,h4,h64]) (by decide)]
      refine ⟨?_,by simp⟩
      have k3:(64:Int)<((chain l (i+1)).length:Int):=by omega
      simp -implicitDefEqProofs (disch:=omega) only [Rx,simprocAttr,B13x0,k1,k2,hdep,k3]
    have k3:¬ (64:Int)<((chain l (i+1)).length:Int):=by omega
    have hal:=alone_run (n:=n) x [] hsm.small [] (by have:=hsm.attrs;omega) (by omega)
    simp only [nodeCells] at hal
    by_cases ha:aloneErr x=0
    rotate_left
    · refine .inr ?_
      rw [bad (aloneErr x) (by simp [rowErr,h4,h64,ha]) ha]
      refine ⟨?_,by simp⟩
      have ha':(aloneErr x==0)=false:=by simpa using ha
      simp -implicitDefEqProofs (disch:=omega) only [Rx,simprocAttr,B13x0,k1,k2,hdep,k3,hg,GRow.pv,attrsPV,hal,ha']
    have hdl:=dup_loop (n:=n+37) (N:=N) l i x hx (by omega) (by omega)
    simp only [Int.natCast_zero] at hdl
    rw [ha] at hal
    cases hdup:dupB l i x with
    | true =>
      refine .inr ?_
      rw [bad 10 (by simp [rowErr,h4,h64,ha,hdup]) (by decide)]
      refine ⟨?_,by simp⟩
      rw [hdup] at hdl
      simp only [dupOut,if_true] at hdl
      simp -implicitDefEqProofs (disch:=omega) only [Rx,simprocAttr,B13x0,k1,k2,hdep,k3,hg,GRow.pv,attrsPV,hal,hdl]
    | false =>
      have e:rowErr l i x=0:=by simp [rowErr,h4,h64,ha,hdup]
      refine .inl ⟨i+1, ?_,⟨by omega,by omega⟩,by omega,by simp only [errFrom,e,if_true]⟩
      rw [hdup] at hdl
      simp only [dupOut,Bool.false_eq_true,if_false] at hdl
      simp -implicitDefEqProofs (disch:=omega) only [Rx,simprocAttr,B13x0,k1,k2,hdep,k3,hg,GRow.pv,attrsPV,hal,hdl]
  · have k1:¬ (i:Int)<(l.length:Int):=by omega
    have e:l.drop i=[]:=List.drop_eq_nil_of_le (by omega)
    refine .inr ⟨?_,by rw [e];simp [errFrom,errOut]⟩
    rw [e]
    simp -implicitDefEqProofs (disch:=omega) only [Rx,simprocAttr,B13x0,k1,errFrom,errOut]
theorem check13_mid (l:List GRow) {m n:Nat} (hl:Rows.mid m l) (hm:m≤1048577) (hn:1048577≤n) (g:List AObj):acall T (n+38) 13 [.p (.list (l.map GRow.pv))] g=some (.p (.int .i64 (check13 l)),g):=by
  rw [acall_code T13,run_pure rfl rfl rfl]
  have hlen:=hl.len
  have hf:=form13_run (n:=n+35) l (by omega) [] (by omega)
  cases hb:formedB l with
  | false =>
    rw [hb] at hf
    have e:check13 l=2:=by simp [check13,hb]
    rw [e]
    simp -implicitDefEqProofs (disch:=omega) only [Rx,simprocAttr,F13,hf]
  | true =>
    rw [hb] at hf
    have hloop:=err_loop (n:=n) (N:=n+37) (m:=m) l hl hm (formed_stands hb) (by omega) hn
    simp only [Int.natCast_zero] at hloop
    have e:check13 l=errFrom l 0 l:=by simp [check13,hb]
    rw [e]
    by_cases h0:errFrom l 0 l=0
    · rw [h0] at hloop ⊢
      simp only [errOut,if_true] at hloop
      simp -implicitDefEqProofs (disch:=omega) only [Rx,simprocAttr,F13,hf,hloop]
    · simp only [errOut,if_neg h0] at hloop
      simp -implicitDefEqProofs (disch:=omega) only [Rx,simprocAttr,F13,hf,hloop]
theorem check13_run (l:List GRow) {m n:Nat} (hl:Rows.small m l) (hm:m≤1048577) (hn:1048577≤n) (g:List AObj):acall T (n+38) 13 [.p (.list (l.map GRow.pv))] g=some (.p (.int .i64 (check13 l)),g):=check13_mid l hl.mid hm hn g
end Go.TA.Tryz


end
section
/- The program's look at the tree of rows that are right. -/
namespace Go.TA.Tryz
def allOk (l:List GRow):Prop:=∀ (i:Nat) x,l[i]? = some x→rowErr l i x=0
theorem errFrom_ok {l:List GRow}:∀ {i:Nat},errFrom l i (l.drop i)=0→∀ (j:Nat) x,i≤j→l[j]? = some x→rowErr l j x=0:=by
  intro i h j x hij hj
  obtain ⟨d,rfl⟩:∃ d,j=i+d:=⟨j - i,by omega⟩
  induction d generalizing i with
  | zero =>
    have e:l.drop i=x::l.drop (i+1):=by rw [List.drop_eq_getElem?_toList_append];simp at hj;rw [hj];rfl
    rw [e] at h
    simp only [errFrom] at h
    by_cases h0:rowErr l i x=0
    · simpa using h0
    · rw [if_neg h0] at h;exact absurd h h0
  | succ d ih =>
    have hlt:i<l.length:=by
      have:=(List.getElem?_eq_some_iff.1 hj).1
      omega
    obtain ⟨y,hy⟩:=get_some hlt
    have e:l.drop i=y::l.drop (i+1):=by rw [List.drop_eq_getElem?_toList_append,hy];rfl
    rw [e] at h
    simp only [errFrom] at h
    have h0:rowErr l i y=0:=by
      by_cases h0:rowErr l i y=0
      · exact h0
      · rw [if_neg h0] at h;exact absurd h h0
    rw [if_pos h0] at h
    have:=ih h (by omega) (by rw [← hj];congr 1;omega)
    rw [show i+(d+1)=i+1+d by omega]
    exact this
theorem check13_ok {l:List GRow} (h:check13 l=0):formedB l=true∧allOk l:=by
 unfold check13 at h
 split at h
 ·rename_i hf
  exact ⟨hf,fun i x hx=>errFrom_ok (i:=0) (by simpa using h) i x (by omega) hx⟩
 ·omega
theorem rowErr_ok {l : List GRow} {i : Nat} {x : GRow} (h : rowErr l i x = 0) : i ≠ 4096 ∧ (chain l (i + 1)).length ≤ 64 ∧ aloneErr x = 0 ∧ dupB l i x = false := by
  unfold rowErr at h
  split at h
  · omega
  · rename_i h1
    split at h
    · omega
    · rename_i h2
      split at h
      · rename_i h3
        split at h
        · omega
        · rename_i h4
          exact ⟨h1,by omega,h3,by simpa using h4⟩
      · rename_i h3
        exact absurd h h3
def KOk (l:List GRow) (u:Int) (b:Nat) (es:List (PV × AV)):Prop:=∀ e ∈ es,∃ k:Bs,e.1 = .str k∧k≠[]∧∃ (j:Nat) (y:GRow),j<b∧l[j]? = some y∧y.up=u∧y.key=k
theorem KOk.mono {l:List GRow} {u:Int} {b b':Nat} {es:List (PV × AV)} (h:KOk l u b es) (hb:b≤b'):KOk l u b' es:=fun e he=>by
 obtain ⟨k,h1,h2,j,y,h3,h4⟩:=h e he
 exact ⟨k,h1,h2,j,y,by omega,h4⟩
theorem KOk.strs {l:List GRow} {u:Int} {b:Nat} {es:List (PV × AV)} (h:KOk l u b es) (k:Bs):(es.all fun e=>(scalarEqK 2 e.1 (.str k)).isSome)=true:=by
 rw [List.all_eq_true]
 intro e he
 obtain ⟨k',h1,_⟩:=h e he
 rw [h1];rfl
theorem KOk.none {l:List GRow} {x:GRow} {b:Nat} {es:List (PV × AV)} (h:KOk l x.up b es) (hd:dupB l b x=false):mlk 2 es (.str x.key)=none:=by
  have key:∀ e ∈ es,scalarEqK 2 e.1 (.str x.key)≠some true:=by
    intro e he hc
    obtain ⟨k,h1,h2,j,y,h3,h4,h5,h6⟩:=h e he
    rw [h1] at hc
    have hk:k=x.key:=by simpa [scalarEqK] using hc
    have:dupB l b x=true:=by
      simp only [dupB,Bool.and_eq_true,Bool.not_eq_true',List.any_eq_true]
      refine ⟨by rw [← hk];simpa using h2,y, ?_,by simp [twinB,h5,h6,hk]⟩
      rw [List.mem_iff_getElem?]
      exact ⟨j,by rw [List.getElem?_take,if_pos h3];exact h4⟩
    rw [this] at hd
    cases hd
  induction es with
  | nil=>rfl
  | cons e es ih =>
    obtain ⟨a,v⟩:=e
    simp only [mlk]
    rw [if_neg (key (a,v) (by simp))]
    exact ih (fun e he=>h e (by simp [he])) (fun e he=>key e (by simp [he]))
theorem mput_none {es:List (PV × AV)} {k:PV} {v:AV} (h:mlk 2 es k=none):mput 2 es k v=es++[(k,v)]:=by
  induction es with
  | nil=>rfl
  | cons e es ih =>
    obtain ⟨a,w⟩:=e
    simp only [mlk,mput] at h ⊢
    by_cases hc:scalarEqK 2 a k=some true
    · rw [if_pos hc] at h;cases h
    · rw [if_neg hc] at h
      rw [if_neg hc,ih h];rfl
theorem KOk.more {l:List GRow} {x:GRow} {b:Nat} {es:List (PV × AV)} (h:KOk l x.up b es) (hx:l[b]? = some x) (hk:x.key≠[]) (v:AV):KOk l x.up (b+1) (es++[(.str x.key,v)]):=by
 intro e he
 rcases List.mem_append.1 he with he | he
 ·exact (h.mono (by omega)) e he
 ·simp only [List.mem_singleton] at he
  subst he
  exact ⟨x.key,rfl,hk,b,x,by omega,hx,rfl,rfl⟩
def LKV (m:Nat) (deep:Int):AObj:=.pcells 3 [[.int .i64 m,.int .i64 deep,.int .i64 0]]
def VK:AObj:=.cells 1 [[.func 215 [.ptr true 0 3 1 0 0,.ptr true 1 1 1 0 0]]]
def pL:AV:=.ptr true 0 3 1 0 0
def pV:AV:=.ptr true 1 1 1 0 0
def Seen (l:List GRow) (u:Int) (b:Nat) (j:Nat) (ms:List AObj) (r:AV × List AObj):Prop :=
 ∃ deep ms' es,r=(.p (.bool true),LKV b deep::VK::ms')∧ms.length≤ms'.length∧ms'[j]? = some (.map es)∧KOk l u b es∧∀ j',j'<ms.length→j'≠j→ms'[j']? = ms[j']?
def visS (d:Int) (ks:List (List PV)) (jb i m:Nat) (deep:Int) (ms:List AObj):St:=⟨[(1,.p (.int .i64 d)),(4,.ptr true 1 1 1 0 0),(11,.map true (jb+1+1)),(61,.p (.list ks)),(62,.p (.int .i64 ks.length)),(63,.p (.int .i64 i))],[],LKV m deep::VK::ms⟩
end Go.TA.Tryz


end
section
/- The program's look at the tree of any rows that stand as a tree's do: what is wrong first. -/
namespace Go.TA.Tryz
theorem chain_len {l:List GRow} (hs:standTo l l.length):∀ (d x:Nat),x≤d→x≤l.length→(chain l x).length≤x
  | 0, x, h, _ => by
    obtain rfl:x=0:=by omega
    simp [chain_zero]
  | d + 1, x, h, hx => by
    cases x with
    | zero=>simp [chain_zero]
    | succ x =>
      have hlt:x<l.length:=by omega
      have hu:=upAt_le hs hlt hlt
      rw [chain_succ hs (Nat.le_refl _) hlt,List.length_cons]
      have:=chain_len hs d (upAt l (x+1)) (by omega) (by omega)
      omega
def errR (l:List GRow) (a b:Nat):Int:=errFrom l a ((l.take b).drop a)
theorem errR_self (l:List GRow) (a:Nat):errR l a a=0:=by
 have:(l.take a).drop a=[]:=List.drop_eq_nil_of_le (by rw [List.length_take];omega)
 rw [errR,this];rfl
theorem errR_cons {l:List GRow} {a b:Nat} {x:GRow} (hx:l[a]? = some x) (hab:a<b):errR l a b=if rowErr l a x=0 then errR l (a+1) b else rowErr l a x:=by
 have h1:(l.take b)[a]? = some x:=by rw [List.getElem?_take,if_pos hab];exact hx
 have:(l.take b).drop a=x::(l.take b).drop (a+1):=by rw [List.drop_eq_getElem?_toList_append,h1];rfl
 rw [errR,this];rfl
theorem errR_split {l:List GRow}:∀ (d:Nat) {a m b:Nat},m=a+d→m≤b→b≤l.length→errR l a b=if errR l a m=0 then errR l m b else errR l a m
  | 0, a, m, b, hm, hb, hl => by
    obtain rfl:m=a:=by omega
    rw [errR_self,if_pos rfl]
  | d + 1, a, m, b, hm, hb, hl => by
    obtain ⟨x,hx⟩:=get_some (show a<l.length by omega)
    rw [errR_cons hx (show a<b by omega),errR_cons hx (show a<m by omega)]
    by_cases h:rowErr l a x=0
    · rw [if_pos h,if_pos h]
      exact errR_split d (by omega) hb hl
    · rw [if_neg h,if_neg h,if_neg h]
theorem errR_all {l:List GRow}:errR l 0 l.length=errFrom l 0 l:=by rw [errR,List.take_length,List.drop_zero]
mutual
theorem BT.inner {l:List GRow} {a b:Nat} {p:List PV}:BT l a b p→∀ (j:Nat) y,a<j→j<b→l[j]? = some y→(a:Int)+1≤y.up
 | .mk hx h=>BTs.inner h (List.getElem?_eq_some_iff.1 hx).1
theorem BTs.inner {l : List GRow} {a b : Nat} {ks : List (List PV)} : BTs l a b ks → a < l.length → ∀ (j : Nat) y, a < j → j < b → l[j]? = some y → (a : Int) + 1 ≤ y.up
  | .nil,ha=>fun j y h1 h2=>by omega
  | .snoc (m := m) h hy hu h2, ha => fun j y h1 h3 hj => by
    have hm:=(BTs.lt h ha).1
    by_cases e:j<m
    · exact BTs.inner h ha j y h1 e hj
    · by_cases e2:j=m
      · subst e2
        rw [hy] at hj
        cases hj
        omega
      · have:=BT.inner h2 j y (by omega) h3 hj
        omega
end
structure KAll (l:List GRow) (u:Int) (b:Nat) (es:List (PV × AV)):Prop where
 ok:KOk l u b es
 vals:∀ e ∈ es,e.2 = .p (.agg [])
 all:∀ (j:Nat) (y:GRow),j<b→l[j]? = some y→y.up=u→y.key≠[]→∃ v,(PV.str y.key,v) ∈ es
theorem KAll.get {l:List GRow} {u:Int} {b:Nat} {es:List (PV × AV)} (h:KAll l u b es) (k:PV):(mlk 2 es k).getD (.p (.agg [])) = .p (.agg []):=by
  have hv:=h.vals
  clear h
  induction es with
  | nil=>rfl
  | cons e es ih =>
    obtain ⟨a,v⟩:=e
    simp only [mlk]
    split
    · simpa using hv (a,v) (by simp)
    · exact ih (fun e he=>hv e (by simp [he]))
theorem mlk_mem {es : List (PV × AV)} {k : Bs} {v : AV} (hs : ∀ e ∈ es, ∃ s, e.1 = PV.str s) (h : (PV.str k, v) ∈ es) : (mlk 2 es (.str k)).isSome = true := by
  induction es with
  | nil=>simp at h
  | cons e es ih =>
    obtain ⟨a,w⟩:=e
    simp only [mlk]
    split
    · rfl
    · rename_i hne
      rcases List.mem_cons.1 h with h1 | h1
      · cases h1
        exact absurd (by simp [scalarEqK]) hne
      · exact ih (fun e he=>hs e (by simp [he])) h1
theorem KAll.dup {l:List GRow} {x:GRow} {b:Nat} {es:List (PV × AV)} (h:KAll l x.up b es) (hd:dupB l b x=true):(mlk 2 es (.str x.key)).isSome=true:=by
 simp only [dupB,Bool.and_eq_true,Bool.not_eq_true',List.any_eq_true] at hd
 obtain ⟨hk,y,hy,ht⟩:=hd
 simp only [twinB,Bool.and_eq_true,beq_iff_eq] at ht
 obtain ⟨j,hj⟩:=List.mem_iff_getElem?.1 hy
 rw [List.getElem?_take] at hj
 split at hj
 ·rename_i hjb
  obtain ⟨v,hv⟩:=h.all j y hjb hj ht.1 (by rw [ht.2];simpa using hk)
  rw [ht.2] at hv
  exact mlk_mem (fun e he=>by obtain ⟨k,h1,_⟩:=h.ok e he;exact ⟨k,h1⟩) hv
 ·cases hj
theorem KAll.same {l:List GRow} {u:Int} {b b':Nat} {es:List (PV × AV)} (h:KAll l u b es) (hb:b≤b') (hn:∀ (j:Nat) (y:GRow),b≤j→j<b'→l[j]? = some y→y.up≠u):KAll l u b' es where
 ok:=h.ok.mono hb
 vals:=h.vals
 all j y hj hy hu hk:=by
  by_cases e:j<b
  ·exact h.all j y e hy hu hk
  ·exact absurd hu (hn j y (by omega) hj hy)
theorem KAll.met {l : List GRow} {x : GRow} {b : Nat} {es : List (PV × AV)} (h : KAll l x.up b es) (hx : l[b]? = some x) : KAll l x.up (b + 1) (if x.key = [] then es else es ++ [(.str x.key, .p (.agg []))]) := by
  split
  · rename_i hk
    refine ⟨h.ok.mono (by omega),h.vals,fun j y hj hy hu hk2 => ?_⟩
    by_cases e:j<b
    · exact h.all j y e hy hu hk2
    · obtain rfl:j=b:=by omega
      rw [hx] at hy
      cases hy
      exact absurd hk hk2
  · rename_i hk
    refine ⟨h.ok.more hx hk _,fun e he => ?_,fun j y hj hy hu hk2 => ?_⟩
    · rcases List.mem_append.1 he with h1 | h1
      · exact h.vals e h1
      · simp only [List.mem_singleton] at h1
        subst h1;rfl
    · by_cases e:j<b
      · obtain ⟨v,hv⟩:=h.all j y e hy hu hk2
        exact ⟨v,List.mem_append.2 (.inl hv)⟩
      · obtain rfl:j=b:=by omega
        rw [hx] at hy
        cases hy
        exact ⟨.p (.agg []),List.mem_append.2 (.inr (by simp))⟩
def LKE (m deep e:Int):AObj:=.pcells 3 [[.int .i64 m,.int .i64 deep,.int .i64 e]]
def SeenE (l:List GRow) (u:Int) (a b:Nat) (j:Nat) (ms:List AObj) (r:AV × List AObj):Prop :=
 (errR l a b=0∧∃ deep ms' es,r=(.p (.bool true),LKV b deep::VK::ms')∧ms.length≤ms'.length∧ms'[j]? = some (.map es)∧KAll l u b es∧∀ j',j'<ms.length→j'≠j→ms'[j']? = ms[j']?)
 ∨ (errR l a b≠0∧∃ m deep ms',r=(.p (.bool false),LKE m deep (errR l a b)::VK::ms'))
theorem visE_loop {n N:Nat} (l:List GRow) (a b:Nat) (d:Int) (ks:List (List PV)) (hbt:BTs l a b ks) (hl:l.length≤1048576) (hs:standTo l l.length) (ha:a<l.length) (hd : -1000000≤d∧d≤1000000) (hN:ks.length<N) (ms0:List AObj) (deep0:Int)
    (ih:∀ m m' k es j deep ms,BT l m m' k→(∃ y,l[m]? = some y∧y.up=(a:Int)+1)→a<m→m'≤b→ms[j]? = some (.map es)→KAll l ((a:Int)+1) m es →
      ∃ r,acall T n 215 [.p (.agg k),.p (.int .i64 (d+1)),.map true (j+1+1),pL,pV] (LKV m deep::VK::ms)=some r∧SeenE l ((a:Int)+1) m m' j ms r) :
    ∃ r, aexec (acall T n) N (.loop B215x0) (visS d ks ms0.length 0 (a + 1) deep0 (ms0 ++ [.map []])) = some r ∧ ((errR l (a + 1) b = 0 ∧ ∃ deep ms', r = (.exit 1, ⟨[], [], LKV b deep :: VK :: ms'⟩) ∧ ms0.length ≤ ms'.length ∧ ∀ j', j' < ms0.length → ms'[j']? = ms0[j']?)
      ∨ (errR l (a+1) b≠0∧∃ m deep ms',r=(.ret,⟨[(8,.p (.bool false))],[],LKE m deep (errR l (a+1) b)::VK::ms'⟩))):=by
  have hbl:=hbt.lt ha
  refine loop_inv (σ := Nat × Nat × Int × List AObj) (S:=fun s=>visS d ks ms0.length s.1 s.2.1 s.2.2.1 s.2.2.2)
    (I:=fun s=>s.1≤ks.length∧BTs l a s.2.1 (ks.take s.1)∧ms0.length<s.2.2.2.length∧(∀ j',j'<ms0.length→s.2.2.2[j']? = ms0[j']?)∧errR l (a+1) s.2.1=0∧∃ es,s.2.2.2[ms0.length]? = some (.map es)∧KAll l ((a:Int)+1) s.2.1 es) (μ := fun s=>ks.length - s.1)
    (Q:=fun r=>(errR l (a+1) b=0∧∃ deep ms',r=(.exit 1,⟨[],[],LKV b deep::VK::ms'⟩)∧ms0.length≤ms'.length∧∀ j',j'<ms0.length→ms'[j']? = ms0[j']?)
      ∨ (errR l (a+1) b≠0∧∃ m deep ms',r=(.ret,⟨[(8,.p (.bool false))],[],LKE m deep (errR l (a+1) b)::VK::ms'⟩))) ?_ (0,a+1,deep0,ms0++[.map []]) ⟨by omega,by simpa using BTs.nil,by simp,fun j' hj=>by simp [List.getElem?_append_left hj],errR_self l (a+1),[],by simp,⟨fun e he=>by simp at he,fun e he=>by simp at he,fun j y hj hy hu _=>by
      have:=hs j y (List.getElem?_eq_some_iff.1 hy).1 hy
      have hj:j<a+1:=hj
      omega⟩⟩ (by simp only;omega)
  rintro ⟨i,m,deep,ms⟩ ⟨h1,h2,h3,h4,h7,es,h5,h6⟩
  simp only at h1 h2 h3 h4 h5 h6 h7 ⊢
  by_cases hi:i<ks.length
  · obtain ⟨k,hk⟩:=get_some hi
    obtain ⟨q,q',y,p1,p2,p3,p4,p5,hle⟩:=hbt.at i k hk
    have hq:q=m:=p1.uniq h2 rfl
    subst hq
    have hlt:=(BTs.lt h2 ha)
    have hlt4:=p4.lt
    obtain ⟨r,hr,hse⟩:=ih q q' k es ms0.length deep ms p4 ⟨y,p2,p3⟩ (by omega) hle h5 h6
    have hg:ks.getD i []=k:=by rw [List.getD_eq_getElem?_getD,hk];rfl
    have hkl:=p4.len
    obtain ⟨c1,c2,c3,c4,c5,rfl⟩:∃ c1 c2 c3 c4 c5,k=[c1,c2,c3,c4,c5]:=by
      match k,hkl with
      | [c1,c2,c3,c4,c5],_=>exact ⟨c1,c2,c3,c4,c5,rfl⟩
    have k1:(i:Int)<(ks.length:Int):=by omega
    have k9:(i:Int)≤1048576:=by omega
    have hsp:=errR_split (l:=l) (q' - (a+1)) (a:=a+1) (m:=q') (b:=b) (by omega) hle (by omega)
    have hsq:=errR_split (l:=l) (q - (a+1)) (a:=a+1) (m:=q) (b:=q') (by omega) (by omega) (by omega)
    rw [h7,if_pos rfl] at hsq
    rcases hse with ⟨he0,deep',ms',es',rfl,s1,s2,s3,s4⟩ | ⟨he0,m',deep',ms',rfl⟩
    · left
      refine ⟨(i+1,q',deep',ms'), ?_,⟨by omega,p5,by simp only;omega,fun j' hj=>by simp only;rw [s4 j' (by omega) (by omega)];exact h4 j' hj,by simp only;rw [hsq];exact he0,es',s2,s3⟩,by simp only;omega⟩
      simp only [LKV,VK,pL,pV] at hr
      simp only [visS,LKV,VK]
      simp -implicitDefEqProofs (disch:=omega) only [Rx,simprocAttr,B215x0,k1,hg,hr]
    · right
      have hne:errR l (a+1) q'≠0:=by rw [hsq];exact he0
      have hb:errR l (a+1) b=errR l q q':=by rw [hsp,if_neg hne,hsq]
      refine ⟨(.ret,⟨[(8,.p (.bool false))],[],LKE m' deep' (errR l q q')::VK::ms'⟩), ?_,by simp,.inr ⟨by rw [hb];exact he0,m',deep',ms',by rw [hb]⟩⟩
      generalize errR l q q'=e at hr
      simp only [LKV,LKE,VK,pL,pV] at hr ⊢
      simp only [visS,LKV,VK]
      simp -implicitDefEqProofs (disch:=omega) only [Rx,simprocAttr,B215x0,k1,hg,hr]
  · right
    obtain rfl:i=ks.length:=by omega
    rw [List.take_length] at h2
    have hm:m=b:=h2.uniq hbt rfl
    subst hm
    have k1:¬ (ks.length:Int)<(ks.length:Int):=by omega
    refine ⟨(.exit 1,⟨[],[],LKV m deep::VK::ms⟩), ?_,by simp,.inl ⟨h7,deep,ms,rfl,by omega,h4⟩⟩
    simp only [visS,LKV,VK]
    simp -implicitDefEqProofs (disch:=omega) only [Rx,simprocAttr,B215x0,k1]
theorem visE_run (l : List GRow) (hl : l.length ≤ 1048576) (hs : standTo l l.length) (hal : ∀ x ∈ l, x.attrs.length ≤ 1048577) : ∀ (D n a b : Nat) (p : List PV) (x : GRow) (es : List (PV × AV)) (j : Nat) (deep : Int) (ms : List AObj), b - a ≤ D → 1048577 < n → BT l a b p → l[a]? = some x → ms[j]? = some (.map es) → KAll l x.up a es →
    ∃ r,acall T (n+D+39) 215 [.p (.agg p),.p (.int .i64 (chain l (a+1)).length),.map true (j+1+1),pL,pV] (LKV a deep::VK::ms)=some r∧SeenE l x.up a b j ms r:=by
  intro D
  induction D with
  | zero =>
    intro n a b p x es j deep ms hD hn hbt
    have:=hbt.lt
    omega
  | succ D ih =>
    intro n a b p x es j deep ms hD hn hbt hx hj hes
    have hlt:=hbt.lt
    have hinner:=hbt.inner
    cases hbt with
    | mk hx' hks=>
    rename_i x' ks
    rw [hx] at hx'
    cases hx'
    have ha:a<l.length:=by omega
    have hec:=errR_cons hx (show a<b by omega)
    have hgd:=hes.get (.str x.key)
    have hst:=hes.ok.strs x.key
    have hw:=wrong_run (n:=n+D+1) x ks [] (by have:=hal x (List.mem_of_getElem? hx);omega)
    rw [show n+D+1+38=n+D+39 by omega] at hw
    simp only [nodeCells] at hw
    have hjl:j<ms.length:=(List.getElem?_eq_some_iff.1 hj).1
    have hcl:(chain l (a+1)).length≤1048576:=by
      have:=chain_len hs (a+1) (a+1) (Nat.le_refl _) (show a+1≤l.length by omega)
      omega
    rw [show n+(D+1)+39=n+D+39+1 by omega,acall_code T215,run_code rfl rfl]
    generalize hcn:(chain l (a+1)).length=cn at hcl
    by_cases hre:rowErr l a x=0
    rotate_left
    · rw [if_neg hre] at hec
      refine ⟨(.p (.bool false),LKE a (if (cn:Int) > deep then (cn:Int) else deep) (errR l a b)::VK::ms), ?_,.inr ⟨by rw [hec];exact hre,_,_,_,rfl⟩⟩
      rw [hec]
      unfold rowErr at hre ⊢
      rw [hcn] at hre ⊢
      generalize hlk:mlk 2 es (.str x.key)=lk2 at hgd
      by_cases h1:a=4096
      · rw [if_pos h1]
        have k1:((a:Int)==4096)=true:=by simp;omega
        simp only [nodeCells,LKV,LKE,VK,pL,pV]
        simp -implicitDefEqProofs (disch:=omega) only [Rx,simprocAttr,F215,k1,hlk,hgd,hst,hj]
      rw [if_neg h1] at hre ⊢
      have k1:((a:Int)==4096)=false:=by simp;omega
      by_cases h2:64<cn
      · rw [if_pos h2]
        have k2:(64:Int)<(cn:Int):=by omega
        simp only [nodeCells,LKV,LKE,VK,pL,pV]
        simp -implicitDefEqProofs (disch:=omega) only [Rx,simprocAttr,F215,k1,k2,hlk,hgd,hst,hj]
      rw [if_neg h2] at hre ⊢
      have k2:¬ (64:Int)<(cn:Int):=by omega
      by_cases h3:aloneErr x=0
      rotate_left
      · rw [if_neg h3]
        have k3:(aloneErr x==0)=false:=by simpa using h3
        generalize aloneErr x=e at hw k3
        simp only [nodeCells,LKV,LKE,VK,pL,pV]
        simp -implicitDefEqProofs (disch:=omega) only [Rx,simprocAttr,F215,k1,k2,k3,hw,hlk,hgd,hst,hj]
      rw [if_pos h3] at hre ⊢
      rw [h3] at hw
      have h4:dupB l a x=true:=by
        by_cases h4:dupB l a x=true
        · exact h4
        · rw [if_neg h4] at hre;exact absurd rfl hre
      rw [if_pos h4]
      have hsm:=hes.dup h4
      rw [hlk] at hsm
      simp only [nodeCells,LKV,LKE,VK,pL,pV]
      simp -implicitDefEqProofs (disch:=omega) only [Rx,simprocAttr,F215,k1,k2,hw,hlk,hgd,hsm,hst,hj]
    rw [if_pos hre] at hec
    obtain ⟨h1,h2,h3,h4⟩:=rowErr_ok hre
    rw [hcn] at h2
    rw [h3] at hw
    have hlk:=hes.ok.none h4
    have k1:((a:Int)==4096)=false:=by simp;omega
    have k2:¬ (64:Int)<(cn:Int):=by omega
    have hes1:=hes.met hx
    have hcx:∀ m y,l[m]? = some y→y.up=(a:Int)+1→a<m→(chain l (m+1)).length=cn+1:=by
      intro m y hy hu ham
      have hm:m<l.length:=(List.getElem?_eq_some_iff.1 hy).1
      rw [chain_succ hs (Nat.le_refl _) hm]
      have:upAt l (m+1)=a+1:=by simp [upAt,hy,hu]
      rw [this,List.length_cons,hcn]
    have hks':=hks.lt ha
    have hup:=hs a x ha hx
    generalize he1:(if x.key=[] then es else es++[(PV.str x.key,AV.p (.agg []))])=es1 at hes1
    obtain ⟨r,hr,hres⟩:=visE_loop (n:=n+D+39) (N:=n+D+39) l a b cn ks hks hl hs ha (by omega) (by omega) (ms.set j (.map es1)) (if (cn:Int) > deep then (cn:Int) else deep) (fun m m' k es' j' deep' ms' hb1 hy ham hmb hj' hes'=>by
      obtain ⟨y,hy,hu⟩:=hy
      have:=hb1.lt
      have hc:=hcx m y hy hu ham
      have:=ih n m m' k y es' j' deep' ms' (by omega) hn hb1 hy hj' (by rw [hu];exact hes')
      rw [hc,hu] at this
      push_cast at this
      exact this)
    have fin:∀ r',acall T (n+D+39+1) 215 [.p (.agg (nodeCells x ks)),.p (.int .i64 cn),.map true (j+1+1),pL,pV] (LKV a deep::VK::ms)=some r'→SeenE l x.up a b j ms r'→∃ r,br (acall T (n+D+39)) F215 (aexec (acall T (n+D+39)) (n+D+39) F215.body (enterSt [.p (.agg (nodeCells x ks)),.p (.int .i64 cn),.map true (j+1+1),pL,pV] (LKV a deep::VK::ms)))=some r∧SeenE l x.up a b j ms r:=fun r' h1 h2=>by
      rw [acall_code T215,run_code rfl rfl] at h1
      exact ⟨r',h1,h2⟩
    have hset:x.key=[]→ms.set j (.map es1)=ms:=fun hk=>by
      rw [if_pos hk] at he1
      subst he1
      apply List.ext_getElem?
      intro q
      rw [List.getElem?_set]
      split
      · rename_i e;subst e;exact hj.symm
      · rfl
    simp only [visS,LKV,VK,Int.natCast_add,Int.natCast_one,Int.natCast_zero] at hr
    rcases hres with ⟨he0,deep',ms',rfl,hml,hsame⟩ | ⟨he0,m',deep',ms',rfl⟩
    · refine fin (.p (.bool true),LKV b deep'::VK::ms') ?_ (.inl ⟨by rw [hec];exact he0,deep',ms',es1,rfl,by simpa using hml, ?_, ?_,fun j' hj' hne => ?_⟩)
      rotate_left
      · rw [hsame j (by simpa using hjl),List.getElem?_set,if_pos rfl,if_pos hjl]
      · refine hes1.same (by omega) fun q y hq1 hq2 hy hu => ?_
        have:=hinner q y (by omega) hq2 hy
        omega
      · rw [hsame j' (by simpa using hj'),List.getElem?_set,if_neg (fun e=>hne e.symm)]
      rw [acall_code T215,run_code rfl rfl]
      simp only [nodeCells,LKV,VK,pL,pV] at hr ⊢
      by_cases hk:x.key=[]
      · rw [hset hk] at hr
        rw [hk] at hw hlk hst
        simp -implicitDefEqProofs (disch:=omega) only [Rx,simprocAttr,F215,hk,k1,k2,hw,hlk,hst,hj,hr,Option.getD_none,Option.isSome_none]
      · have hk':(x.key==[])=false:=by simpa using hk
        rw [if_neg hk] at he1
        subst he1
        have hmp:=mput_none (v:=.p (.agg [])) hlk
        simp -implicitDefEqProofs (disch:=omega) only [Rx,simprocAttr,F215,hk',k1,k2,hw,hlk,hst,hmp,hj,hr,Option.getD_none,Option.isSome_none,Option.isSome_some]
    · refine fin (.p (.bool false),LKE m' deep' (errR l (a+1) b)::VK::ms') ?_ (.inr ⟨by rw [hec];exact he0,m',deep',ms',by rw [hec]⟩)
      rw [acall_code T215,run_code rfl rfl]
      generalize errR l (a+1) b=e at hr
      simp only [nodeCells,LKV,LKE,VK,pL,pV] at hr ⊢
      by_cases hk:x.key=[]
      · rw [hset hk] at hr
        rw [hk] at hw hlk hst
        simp -implicitDefEqProofs (disch:=omega) only [Rx,simprocAttr,F215,hk,k1,k2,hw,hlk,hst,hj,hr,Option.getD_none,Option.isSome_none]
      · have hk':(x.key==[])=false:=by simpa using hk
        rw [if_neg hk] at he1
        subst he1
        have hmp:=mput_none (v:=.p (.agg [])) hlk
        simp -implicitDefEqProofs (disch:=omega) only [Rx,simprocAttr,F215,hk',k1,k2,hw,hlk,hst,hmp,hj,hr,Option.getD_none,Option.isSome_none,Option.isSome_some]
end Go.TA.Tryz


end
section
/- The tree of rows, as the program builds it, and where it ends. -/
namespace Go.TA.Tryz
def buildQE (l:List GRow) (a:Nat) (x:GRow) (r:Ex × St):Prop:=∃ nx ks,BTs l a nx ks∧nx=endOf l (a+1)∧r=(.exit 0,⟨[(4,.ptr false 4 5 1 0 0),(7,.ptr false 7 5 1 0 0),(8,.p (.int .i64 nx))],buildL x ks,kidsG ks⟩)
theorem buildE_loop {n N : Nat} (l : List GRow) (hl : l.length ≤ 1048576) (hs : sound l) (a : Nat) (x : GRow) (hx : l[a]? = some x) (hN : l.length - a < N)
    (ih:∀ m,a<m→m<l.length→∃ b p,BT l m b p∧b=endOf l (m+1)∧∀ g,acall T n 161 [.p (.list (l.map GRow.pv)),.p (.int .i64 m)] g=some (.tuple [.p (.agg p),.p (.int .i64 b)],g)) :
    ∃ r,aexec (acall T n) N (.loop B161x0) (buildS l a x (a+1) [])=some r∧buildQE l a x r:=by
  have ha:a<l.length:=(List.getElem?_eq_some_iff.1 hx).1
  refine loop_inv (σ := Nat × List (List PV)) (S:=fun s=>buildS l a x s.1 s.2) (I:=fun s=>BTs l a s.1 s.2∧s.1≤endOf l (a+1)∧(s.1=a+1∨∃ m,a+1≤m∧m<s.1∧s.1=endOf l (m+1)∧upAt l (m+1)=a+1)) (μ := fun s=>l.length - s.1) (Q:=buildQE l a x) ?_ (a+1,[]) ⟨.nil,(endOf_le (by omega)).1,.inl rfl⟩ (by simp only;omega)
  rintro ⟨nx,ks⟩ ⟨hI,hle,hcl⟩
  simp only at hI hle hcl ⊢
  have hel:=(endOf_le (l:=l) (h:=a+1) (by omega)).2
  have hlt:=hI.lt ha
  by_cases h:nx<l.length
  · obtain ⟨y,hy⟩:=get_some h
    have hg:=getD_map (f:=GRow.pv) hy
    have k1:(nx:Int)<(l.length:Int):=by omega
    cases hu:(y.up==(a:Int)+1) with
    | true =>
      obtain ⟨b,p,hbt,hbe,hrun⟩:=ih nx (by omega) h
      have hr:=hrun []
      have hp:=hbt.len
      have hb:=hbt.lt
      have hu':y.up=(a:Int)+1:=by simpa using hu
      left
      refine ⟨(b,ks++[p]), ?_,⟨.snoc hI hy hu' hbt, ?_,.inr ⟨nx,by omega,by simp only;omega,hbe,by simp [upAt,hy,hu']⟩⟩,by simp only;omega⟩
      rotate_left
      · simp only
        rw [hbe]
        refine end_mono (by omega) ?_ (by omega)
        rcases Nat.lt_or_ge nx (endOf l (a+1)) with h5 | h5
        · exact h5
        · have h6:nx=endOf l (a+1):=by omega
          have:=endOf_at (l:=l) (h:=a+1) (x:=y) (by omega) (by rw [← h6];exact hy)
          omega
      obtain ⟨c1,c2,c3,c4,c5,rfl⟩:∃ c1 c2 c3 c4 c5,p=[c1,c2,c3,c4,c5]:=by
        match p,hp with
        | [c1,c2,c3,c4,c5],_=>exact ⟨c1,c2,c3,c4,c5,rfl⟩
      cases ks with
      | nil =>
        simp only [buildS,buildL,kidsC,kidsG,List.nil_append]
        simp -implicitDefEqProofs (disch:=omega) only [Rx,simprocAttr,B161x0,k1,hg,GRow.pv,hu,hr]
      | cons k0 ks0 =>
        have hkl:(k0::ks0).length+1≤1048576:=by omega
        simp only [buildS,buildL,kidsC,kidsG,List.cons_append,List.length_cons,List.length_append,List.length_nil] at hkl ⊢
        simp -implicitDefEqProofs (disch:=omega) only [Rx,simprocAttr,B161x0,k1,hg,GRow.pv,hu,hr,List.length_append]
    | false =>
      right
      have hu':¬ y.up=(a:Int)+1:=by simpa using hu
      refine ⟨_, ?_, ?_,nx,ks,hI, ?_,rfl⟩
      rotate_right
      · rcases Nat.lt_or_ge nx (endOf l (a+1)) with h5 | h5
        · obtain ⟨z,hz,hzu⟩:=kid_next hs (h:=a+1) (cur:=nx) (by omega) h5 hcl (by omega)
          rw [hy] at hz
          cases hz
          exact absurd (by omega) hu'
        · omega
      · simp only [buildS,buildL]
        simp -implicitDefEqProofs (disch:=omega) only [Rx,simprocAttr,B161x0,k1,hg,GRow.pv,hu,kidsC_m]
      · simp
  · right
    have k1:¬ (nx:Int)<(l.length:Int):=by omega
    refine ⟨_, ?_, ?_,nx,ks,hI, ?_,rfl⟩
    · simp only [buildS,buildL]
      simp -implicitDefEqProofs (disch:=omega) only [Rx,simprocAttr,B161x0,k1,kidsC_m]
    · simp
    · omega
theorem buildE_run (l:List GRow) (hl:l.length≤1048576) (hs:sound l) (hal:∀ x ∈ l,x.attrs.length≤1048577):∀ (d a n:Nat),a<l.length→l.length - a≤d→∃ b p,BT l a b p∧b=endOf l (a+1)∧∀ g,acall T (n+d+3) 161 [.p (.list (l.map GRow.pv)),.p (.int .i64 a)] g=some (.tuple [.p (.agg p),.p (.int .i64 b)],g):=by
  intro d
  induction d with
  | zero=>intro a n ha hd;omega
  | succ d ih =>
    intro a n ha hd
    obtain ⟨x,hx⟩:=get_some ha
    have hg:=getD_map (f:=GRow.pv) hx
    have k1:(a:Int)<(l.length:Int):=by omega
    obtain ⟨r,hr,nx,ks,hbt,hlast,rfl⟩:=buildE_loop (n:=n+d+3) (N:=n+d+3) l hl hs a x hx (by omega) (fun m h1 h2=>by
      obtain ⟨b,p,q1,q2,q3⟩:=ih m n h2 (by omega)
      exact ⟨b,p,q1,q2,q3⟩)
    refine ⟨nx,nodeCells x ks,.mk hx hbt,hlast,fun g => ?_⟩
    rw [show n+(d+1)+3=n+d+3+1 by omega,acall_code T161,run_pure rfl rfl rfl]
    have hcl:=fun g=>cloneA_run x.attrs (hal x (List.mem_of_getElem? hx)) g (n+d+2)
    cases ks with
    | nil =>
      simp only [buildS,buildL,kidsC,kidsG,Int.natCast_add,Int.natCast_one] at hr
      simp only [nodeCells]
      simp -implicitDefEqProofs (disch:=omega) only [Rx,simprocAttr,F161,k1,hg,GRow.pv,attrsPV,hcl,hr,attrs_same]
    | cons k0 ks0 =>
      simp only [buildS,buildL,kidsC,kidsG,Int.natCast_add,Int.natCast_one] at hr
      simp only [nodeCells]
      simp -implicitDefEqProofs (disch:=omega) only [Rx,simprocAttr,F161,k1,hg,GRow.pv,attrsPV,hcl,hr,attrs_same]
end Go.TA.Tryz


end
section
/- Rows that are right for the document's answer are right for the program. -/
namespace Go.TA.Tryz
theorem chain_one {l:List GRow} {x:GRow} (hs:standTo l l.length) (hx:l[0]? = some x):chain l 1=[1]:=by
 have hlt:0<l.length:=(List.getElem?_eq_some_iff.1 hx).1
 rw [chain_succ hs (Nat.le_refl _) hlt]
 have:=upAt_le hs hlt hlt
 have:upAt l 1=0:=by simpa using this
 rw [this];rfl
end Go.TA.Tryz


end
section
/- Rows that are right for the document's answer are right for the program. -/
namespace Go.TA.Tryz
end Go.TA.Tryz


end
section
/- What the program finds wrong with rows is what the document's answer finds wrong. -/
namespace Go.TA.Tryz
theorem upAt_take {l:List GRow} {m x:Nat} (hx:x<m):upAt (l.take m) (x+1)=upAt l (x+1):=by
 simp only [upAt,Nat.add_sub_cancel]
 rw [List.getElem?_take,if_pos hx]
theorem anc_take {l:List GRow} (hs:standTo l l.length) {m:Nat}:∀ (f x:Nat),x≤m→anc (l.take m) f x=anc l f x
  | 0,_,_=>rfl
  | _+1,0,_=>rfl
  | f + 1, x + 1, hx => by
    simp only [anc,upAt_take (l:=l) (show x<m by omega)]
    congr 1
    refine anc_take hs f _ ?_
    by_cases h:x<l.length
    · have:=upAt_le hs h h
      omega
    · have:upAt l (x+1)=0:=by simp [upAt,List.getElem?_eq_none (show l.length≤x by omega)]
      omega
theorem chain_take {l:List GRow} (hs:standTo l l.length) {m x:Nat} (hx:x≤m):chain (l.take m) x=chain l x:=anc_take hs x x hx
theorem get_take {l:List GRow} {m j:Nat} {x:GRow} (h:(l.take m)[j]? = some x):j<m∧l[j]? = some x:=by
 rw [List.getElem?_take] at h
 split at h
 ·rename_i hj;exact ⟨hj,h⟩
 ·cases h
theorem sound_take {l:List GRow} (hs:sound l) (m:Nat):sound (l.take m):=by
 refine ⟨fun j x hj hx=>hs.1 j x ?_ (get_take hx).2,fun j x hx => ?_⟩
 ·exact (List.getElem?_eq_some_iff.1 (get_take hx).2).1
 ·obtain ⟨hj,hx⟩:=get_take hx
  rcases hs.2 j x hx with h | ⟨h1,y,hy,hyu⟩
  ·exact .inl h
  ·exact .inr ⟨h1,y,by rw [chain_take hs.1 (by omega)];exact hy,hyu⟩
theorem rowErr_take {l:List GRow} (hs:standTo l l.length) {m i:Nat} (hi:i<m) (x:GRow):rowErr (l.take m) i x=rowErr l i x:=by
 unfold rowErr dupB
 rw [chain_take hs (show i+1≤m by omega),List.take_take,show min i m=i by omega]
theorem errR_take {l:List GRow} (hs:standTo l l.length) {m:Nat}:∀ (d a b:Nat),b - a≤d→b≤m→b≤l.length→errR (l.take m) a b=errR l a b
  | 0, a, b, hd, hb, hl => by
    have h1:∀ k:List GRow,(k.take b).drop a=[]:=fun k=>List.drop_eq_nil_of_le (by rw [List.length_take];omega)
    simp only [errR,h1];rfl
  | d + 1, a, b, hd, hb, hl => by
    by_cases h:a<b
    · obtain ⟨x,hx⟩:=get_some (show a<l.length by omega)
      have hx':(l.take m)[a]? = some x:=by rw [List.getElem?_take,if_pos (by omega)];exact hx
      rw [errR_cons hx h,errR_cons hx' h,rowErr_take hs (by omega),errR_take hs d (a+1) b (by omega) hb hl]
    · have h1:∀ k:List GRow,(k.take b).drop a=[]:=fun k=>List.drop_eq_nil_of_le (by rw [List.length_take];omega)
      simp only [errR,h1];rfl
theorem end_one {l:List GRow} (hs:sound l) (h0:0<l.length):endOf l 1=l.length:=by
 have he:=endOf_le (l:=l) (h:=1) (by omega)
 rcases Nat.lt_or_ge (endOf l 1) l.length with hlt | hge
 ·obtain ⟨x,hx⟩:=get_some hlt
  have a1:=endOf_at (h:=1) (by omega) hx
  rcases hs.2 _ x hx with ⟨h1,_⟩ | ⟨_,y,hy,hyu⟩
  ·omega
  ·have:=chain_pos hy
   omega
 ·omega
theorem checkE_run (l:List GRow) (hl:l.length≤1048576) (hs:standTo l l.length) (hal:∀ x ∈ l,x.attrs.length≤1048577) {b:Nat} {p:List PV} (hbt:BT l 0 b p) {n:Nat} (hn:1048577<n) (g:List AObj) :
  ∃ m deep,acall T (n+l.length+40) 195 [.p (.agg p)] g=some (.p (.agg [.int .i64 m,.int .i64 deep,.int .i64 (errR l 0 b)]),g):=by
 have hlt:=hbt.lt
 have hbt':=hbt
 cases hbt with
 | mk hx hks=>
 rename_i x ks
 obtain ⟨r,hr,hse⟩:=visE_run l hl hs hal l.length n 0 b (nodeCells x ks) x [] 0 0 [.map []] (by omega) hn hbt' hx rfl ⟨fun e he=>by simp at he,fun e he=>by simp at he,fun j y hj=>by omega⟩
 have hc:=chain_one hs hx
 rcases hse with ⟨he,deep,ms',es,rfl,_,_,_,_⟩ | ⟨he,m,deep,ms',rfl⟩
 ·refine ⟨b,deep, ?_⟩
  rw [he,acall_code T195,run_pure rfl rfl rfl]
  simp only [Nat.zero_add,hc,List.length_singleton,Int.natCast_one,Int.natCast_zero,LKV,VK,pL,pV,nodeCells] at hr
  simp only [nodeCells]
  simp -implicitDefEqProofs (disch:=omega) only [Rx,simprocAttr,F195,hr]
 ·refine ⟨m,deep, ?_⟩
  rw [acall_code T195,run_pure rfl rfl rfl]
  generalize errR l 0 b=e at hr
  simp only [Nat.zero_add,hc,List.length_singleton,Int.natCast_one,Int.natCast_zero,LKV,LKE,VK,pL,pV,nodeCells] at hr
  simp only [nodeCells]
  simp -implicitDefEqProofs (disch:=omega) only [Rx,simprocAttr,F195,hr]
theorem vcheckE_run (l:List GRow) (hl:l.length≤1048576) (hs:standTo l l.length) (hal:∀ x ∈ l,x.attrs.length≤1048577) {b:Nat} {p:List PV} (hbt:BT l 0 b p) {n:Nat} (hn:1048577<n) (g:List AObj) :
  ∃ m,acall T (n+l.length+41) 162 [.p (.agg p)] g=some (.tuple [.p (.int .i64 m),.p (.int .i64 (errR l 0 b))],g):=by
 obtain ⟨m,deep,hr⟩:=checkE_run l hl hs hal hbt hn []
 cases hbt with
 | mk hx hks=>
 rename_i x ks
 simp only [nodeCells] at hr
 by_cases he:errR l 0 b=0
 ·refine ⟨0, ?_⟩
  rw [he] at hr ⊢
  rw [acall_code T162,run_pure rfl rfl rfl]
  simp only [nodeCells]
  simp -implicitDefEqProofs (disch:=omega) only [Rx,simprocAttr,F162,hr]
 ·refine ⟨m, ?_⟩
  have e1:(errR l 0 b==0)=false:=by simpa using he
  generalize errR l 0 b=e at hr e1
  rw [acall_code T162,run_pure rfl rfl rfl]
  simp only [nodeCells]
  simp -implicitDefEqProofs (disch:=omega) only [Rx,simprocAttr,F162,hr,e1]
def deepAt (l:List GRow) (i:Nat):Prop:=64<(chain l (i+1)).length
theorem deepE_run (l : List GRow) (hs : standTo l l.length) (hl : l.length ≤ 1048576) (g : List AObj) {n : Nat} (hn : l.length < n) :
    ∃ d:Bool,acall T (n+1) 159 [.p (.list (l.map GRow.pv))] g=some (.p (.bool d),g)∧(d=true↔(∃ i,i<l.length∧deepAt l i)∨4096<l.length):=by
  have key:=loop_inv (C:=acall T n) (N:=n) (B:=B159x0) (σ := Nat) (S:=fun i=>⟨[(0,.p (.list (l.map GRow.pv))),(3,.own false 9 (l.length+1)),(10,.p (.list (l.map GRow.pv))),(11,.p (.int .i64 l.length)),(12,.p (.int .i64 i))],[(9,.pcells 1 (depths l i))],[]⟩) (I:=fun i=>i≤l.length∧∀ j,j<i→¬ deepAt l j) (μ := fun i=>l.length - i)
    (Q:=fun r=>(r=(.ret,⟨[(2,.p (.bool true))],[],[]⟩)∧∃ i,i<l.length∧deepAt l i)∨(r=(.exit 0,⟨[(0,.p (.list (l.map GRow.pv)))],[],[]⟩)∧∀ j,j<l.length→¬ deepAt l j)) ?_ 0 ⟨by omega,fun j hj=>by omega⟩ (by omega)
  · obtain ⟨r,hr,hq⟩:=key
    have k2:((l.length:Int)+1).toNat=l.length+1:=by omega
    have hz:=depths_zero l
    simp only [Int.natCast_zero] at hr
    rcases hq with ⟨rfl,hd⟩ | ⟨rfl,hd⟩
    · refine ⟨true, ?_,by simp [hd]⟩
      rw [acall_code T159,run_pure rfl rfl rfl]
      simp -implicitDefEqProofs (disch:=omega) only [Rx,simprocAttr,F159,k2,hz,hr]
    · by_cases h4:4096<l.length
      · refine ⟨true, ?_,by simp [h4]⟩
        have k1:(4096:Int)<(l.length:Int):=by omega
        rw [acall_code T159,run_pure rfl rfl rfl]
        simp -implicitDefEqProofs (disch:=omega) only [Rx,simprocAttr,F159,k1,k2,hz,hr]
      · refine ⟨false, ?_, ?_⟩
        · have k1:¬ (4096:Int)<(l.length:Int):=by omega
          rw [acall_code T159,run_pure rfl rfl rfl]
          simp -implicitDefEqProofs (disch:=omega) only [Rx,simprocAttr,F159,k1,k2,hz,hr]
        · simp only [Bool.false_eq_true,false_iff,not_or]
          exact ⟨fun ⟨i,h1,h2⟩=>hd i h1 h2,h4⟩
  rintro i ⟨hi,hnd⟩
  by_cases h:i<l.length
  · have k1:(i:Int)<(l.length:Int):=by omega
    obtain ⟨x,hx,hu⟩:=up_val hs (Nat.le_refl _) h
    have hg:=getD_map (f:=GRow.pv) hx
    have hle:=upAt_le hs h h
    have hc:=chain_succ hs (Nat.le_refl _) h
    have hcl:=chain_len hs (upAt l (i+1)) (upAt l (i+1)) (Nat.le_refl _) (by omega)
    have dl:=depths_len l i
    have g1:(depths l i).getD (upAt l (i+1)) []=[.int .i64 ((chain l (upAt l (i+1))).length:Int)]:=by rw [depths_get l (by omega),if_pos (by omega)]
    have s1:(depths l i).set (i+1) [.int .i64 (((chain l (upAt l (i+1))).length:Int)+1)]=depths l (i+1):=by
      rw [← depths_set l h,hc,List.length_cons];push_cast;rfl
    have g2:(depths l (i+1)).getD (i+1) []=[.int .i64 (((chain l (upAt l (i+1))).length:Int)+1)]:=by rw [depths_get l (by omega),if_pos (by omega),hc,List.length_cons];push_cast;rfl
    have g3:(depths l i).getD (i+1) []=[.int .i64 0]:=by rw [depths_get l (by omega),if_neg (by omega)]
    have k5:((i:Int)+1).toNat=i+1:=by omega
    have dl2:=depths_len l (i+1)
    by_cases hdp:deepAt l i
    · right
      have k2:(64:Int)<((chain l (upAt l (i+1))).length:Int)+1:=by
        unfold deepAt at hdp
        rw [hc,List.length_cons] at hdp
        omega
      refine ⟨_, ?_, ?_,.inl ⟨rfl,i,h,hdp⟩⟩
      · simp -implicitDefEqProofs (disch:=omega) only [Rx,simprocAttr,B159x0,k1,hg,GRow.pv,hu,dl,dl2,g1,g2,g3,s1,k2,k5]
      · simp
    · left
      have k2:¬ (64:Int)<((chain l (upAt l (i+1))).length:Int)+1:=by
        unfold deepAt at hdp
        rw [hc,List.length_cons] at hdp
        omega
      refine ⟨i+1, ?_,⟨by omega,fun j hj => ?_⟩,by omega⟩
      · simp -implicitDefEqProofs (disch:=omega) only [Rx,simprocAttr,B159x0,k1,hg,GRow.pv,hu,dl,dl2,g1,g2,g3,s1,k2,k5]
      · by_cases e:j=i
        · subst e;exact hdp
        · exact hnd j (by omega)
  · right
    obtain rfl:i=l.length:=by omega
    have k1:¬ (l.length:Int)<(l.length:Int):=by omega
    refine ⟨_, ?_, ?_,.inr ⟨rfl,hnd⟩⟩
    · simp -implicitDefEqProofs (disch:=omega) only [Rx,simprocAttr,B159x0,k1]
    · simp
theorem cutE_run (l : List GRow) (hs : standTo l l.length) (hl : l.length ≤ 1048576) (hd : (∃ i, i < l.length ∧ deepAt l i) ∨ 4096 < l.length) (g : List AObj) {n : Nat} (hn : l.length < n) :
    ∃ k,k<l.length∧(deepAt l k∨k=4096)∧acall T (n+1) 160 [.p (.list (l.map GRow.pv))] g=some (.p (.list ((l.take (k+1)).map GRow.pv)),g):=by
  have key:=loop_inv (C:=acall T n) (N:=n) (B:=B160x0) (σ := Nat) (S:=fun i=>⟨[(0,.p (.list (l.map GRow.pv))),(3,.own false 9 (l.length+1)),(10,.p (.list (l.map GRow.pv))),(11,.p (.int .i64 l.length)),(12,.p (.int .i64 i))],[(9,.pcells 1 (depths l i))],[]⟩) (I:=fun i=>i≤l.length∧∀ j,j<i→¬ deepAt l j∧j≠4096) (μ := fun i=>l.length - i)
    (Q:=fun r=>∃ k,k<l.length∧(deepAt l k∨k=4096)∧r=(.ret,⟨[(2,.p (.list ((l.take (k+1)).map GRow.pv)))],[],[]⟩)) ?_ 0 ⟨by omega,fun j hj=>by omega⟩ (by omega)
  · obtain ⟨r,hr,k,h1,h2,rfl⟩:=key
    have k2:((l.length:Int)+1).toNat=l.length+1:=by omega
    have hz:=depths_zero l
    simp only [Int.natCast_zero] at hr
    refine ⟨k,h1,h2, ?_⟩
    rw [acall_code T160,run_pure rfl rfl rfl]
    simp -implicitDefEqProofs (disch:=omega) only [Rx,simprocAttr,F160,k2,hz,hr]
  rintro i ⟨hi,hnd⟩
  by_cases h:i<l.length
  · have k1:(i:Int)<(l.length:Int):=by omega
    obtain ⟨x,hx,hu⟩:=up_val hs (Nat.le_refl _) h
    have hg:=getD_map (f:=GRow.pv) hx
    have hle:=upAt_le hs h h
    have hc:=chain_succ hs (Nat.le_refl _) h
    have hcl:=chain_len hs (upAt l (i+1)) (upAt l (i+1)) (Nat.le_refl _) (by omega)
    have dl:=depths_len l i
    have g1:(depths l i).getD (upAt l (i+1)) []=[.int .i64 ((chain l (upAt l (i+1))).length:Int)]:=by rw [depths_get l (by omega),if_pos (by omega)]
    have s1:(depths l i).set (i+1) [.int .i64 (((chain l (upAt l (i+1))).length:Int)+1)]=depths l (i+1):=by
      rw [← depths_set l h,hc,List.length_cons];push_cast;rfl
    have g2:(depths l (i+1)).getD (i+1) []=[.int .i64 (((chain l (upAt l (i+1))).length:Int)+1)]:=by rw [depths_get l (by omega),if_pos (by omega),hc,List.length_cons];push_cast;rfl
    have g3:(depths l i).getD (i+1) []=[.int .i64 0]:=by rw [depths_get l (by omega),if_neg (by omega)]
    have k5:((i:Int)+1).toNat=i+1:=by omega
    have dl2:=depths_len l (i+1)
    have ll:(l.map GRow.pv).length=l.length:=by simp
    have k6:(i:Int)+1≤(l.length:Int):=by omega
    have htk:((l.map GRow.pv).take (i+1)).drop 0=(l.take (i+1)).map GRow.pv:=by rw [List.drop_zero,List.map_take]
    have htk2:(l.map GRow.pv).take (i+1)=(l.take (i+1)).map GRow.pv:=by rw [List.map_take]
    have k0:(0:Int).toNat=0:=rfl
    by_cases hdp:deepAt l i
    · right
      have k2:(64:Int)<((chain l (upAt l (i+1))).length:Int)+1:=by
        unfold deepAt at hdp
        rw [hc,List.length_cons] at hdp
        omega
      refine ⟨_, ?_, ?_,i,h,.inl hdp,rfl⟩
      · simp -implicitDefEqProofs (disch:=omega) only [Rx,simprocAttr,B160x0,k1,hg,GRow.pv,hu,dl,dl2,g1,g2,g3,s1,k2,k5,k6,k0,ll,htk2,bound]
      · simp
    · have k2:¬ (64:Int)<((chain l (upAt l (i+1))).length:Int)+1:=by
        unfold deepAt at hdp
        rw [hc,List.length_cons] at hdp
        omega
      by_cases h4:i=4096
      · right
        have e4:((i:Int)==4096)=true:=by simp;omega
        refine ⟨_, ?_, ?_,i,h,.inr h4,rfl⟩
        · simp -implicitDefEqProofs (disch:=omega) only [Rx,simprocAttr,B160x0,k1,hg,GRow.pv,hu,dl,dl2,g1,g2,g3,s1,k2,k5,k6,k0,e4,ll,htk2,bound]
        · simp
      · left
        have e4:((i:Int)==4096)=false:=by simp;omega
        refine ⟨i+1, ?_,⟨by omega,fun j hj => ?_⟩,by omega⟩
        · simp -implicitDefEqProofs (disch:=omega) only [Rx,simprocAttr,B160x0,k1,hg,GRow.pv,hu,dl,dl2,g1,g2,g3,s1,k2,k5,e4]
        · by_cases e:j=i
          · subst e;exact ⟨hdp,h4⟩
          · exact hnd j (by omega)
  · exfalso
    rcases hd with ⟨j,hj,hdj⟩ | hd
    · exact (hnd j (by omega)).1 hdj
    · exact (hnd 4096 (by omega)).2 rfl
theorem stop_err {l:List GRow} {k:Nat} {x:GRow} (hk:deepAt l k∨k=4096):rowErr l k x≠0:=by
 unfold rowErr deepAt at *
 split
 ·omega
 ·rename_i h
  rcases hk with hk | hk
  ·rw [if_pos hk];omega
  ·exact absurd hk h
theorem five {p:List PV} (h:p.length=5):∃ c1 c2 c3 c4 c5,p=[c1,c2,c3,c4,c5]:=by
 match p,h with
 | [c1,c2,c3,c4,c5],_=>exact ⟨c1,c2,c3,c4,c5,rfl⟩
theorem treeE_run (l : List GRow) (hl : l.length ≤ 1048576) (hne : l ≠ []) (hf : formedB l = true) (hal : ∀ x ∈ l, x.attrs.length ≤ 1048577) {n : Nat} (hn : 1048577 < n) (g : List AObj) :
    ∃ p,(∃ c1 c2 c3 c4 c5,p=[c1,c2,c3,c4,c5])∧acall T (n+l.length+42) 105 [.p (.list (l.map GRow.pv))] g=some (.tuple [.p (.agg p),.p (.int .i64 (errFrom l 0 l))],g):=by
  have hso:=formed_sound hf
  have hs:=hso.1
  have hlen:0<l.length:=List.length_pos_iff.2 hne
  have hfr:=formP_run l hl [] (n:=n+l.length+40) (by omega)
  rw [hf] at hfr
  obtain ⟨d,hdr,hdi⟩:=deepE_run l hs hl [] (n:=n+l.length+40) (by omega)
  have k0:((l.length:Int)==0)=false:=by simp;omega
  have tree:∀ l':List GRow,sound l'→l'.length≤l.length→0<l'.length→(∀ x ∈ l',x.attrs.length≤1048577)→∃ c1 c2 c3 c4 c5 m,acall T (n+l.length+41) 161 [.p (.list (l'.map GRow.pv)),.p (.int .i64 0)] []=some (.tuple [.p (.agg [c1,c2,c3,c4,c5]),.p (.int .i64 l'.length)],[])∧acall T (n+l.length+41) 162 [.p (.agg [c1,c2,c3,c4,c5])] []=some (.tuple [.p (.int .i64 m),.p (.int .i64 (errR l' 0 l'.length))],[]):=by
    intro l' hs' hl' h0' hal'
    obtain ⟨b,p,hbt,hbe,hb⟩:=buildE_run l' (by omega) hs' hal' l'.length 0 (n+l.length+38 - l'.length) h0' (by omega)
    have hb:=hb []
    rw [show n+l.length+38 - l'.length+l'.length+3=n+l.length+41 by omega] at hb
    obtain ⟨m,hv⟩:=vcheckE_run l' (by omega) hs'.1 hal' hbt (n:=n+l.length - l'.length) (by omega) []
    rw [show n+l.length - l'.length+l'.length+41=n+l.length+41 by omega] at hv
    have hpl:=hbt.len
    have hbl:b=l'.length:=by rw [hbe];exact end_one hs' h0'
    rw [hbl] at hb hv
    have hp5:=five hpl
    clear hbt hpl hbe hbl
    obtain ⟨c1,c2,c3,c4,c5,hp5⟩:=hp5
    rw [hp5] at hb hv
    clear hp5
    have key:=And.intro hb hv
    exact Exists.intro c1 (Exists.intro c2 (Exists.intro c3 (Exists.intro c4 (Exists.intro c5 (Exists.intro m key)))))
  have fin:∀ l':List GRow,(d=true→acall T (n+l.length+41) 160 [.p (.list (l.map GRow.pv))] []=some (.p (.list (l'.map GRow.pv)),[]))→(d=false→l'=l)→sound l'→l'.length≤l.length→0<l'.length→(∀ x ∈ l',x.attrs.length≤1048577)→errR l' 0 l'.length=errFrom l 0 l →
      ∃ p,(∃ c1 c2 c3 c4 c5,p=[c1,c2,c3,c4,c5])∧acall T (n+l.length+42) 105 [.p (.list (l.map GRow.pv))] g=some (.tuple [.p (.agg p),.p (.int .i64 (errFrom l 0 l))],g):=by
    intro l' hcut hd0 hs' hl' h0' hal' hee
    obtain ⟨c1,c2,c3,c4,c5,m,hb,hv⟩:=tree l' hs' hl' h0' hal'
    rw [hee] at hv
    have ll:(l.map GRow.pv).length=l.length:=by simp
    by_cases he:errFrom l 0 l=0
    · rw [he] at hv ⊢
      refine ⟨[c1,c2,c3,c4,c5],⟨_,_,_,_,_,rfl⟩, ?_⟩
      rw [acall_code T105,run_pure rfl rfl rfl]
      cases d with
      | true =>
        have hc:=hcut rfl
        simp -implicitDefEqProofs (disch:=omega) only [Rx,simprocAttr,F105,k0,ll,hfr,hdr,hc,hb,hv]
      | false =>
        rw [hd0 rfl] at hb
        simp -implicitDefEqProofs (disch:=omega) only [Rx,simprocAttr,F105,k0,ll,hfr,hdr,hb,hv]
    · have e1:(errFrom l 0 l==0)=false:=by simpa using he
      refine ⟨[.str [],.str [],.str [],.list [],.list []],⟨_,_,_,_,_,rfl⟩, ?_⟩
      generalize errFrom l 0 l=e at hv e1 ⊢
      rw [acall_code T105,run_pure rfl rfl rfl]
      cases d with
      | true =>
        have hc:=hcut rfl
        simp -implicitDefEqProofs (disch:=omega) only [Rx,simprocAttr,F105,k0,ll,hfr,hdr,hc,hb,hv,e1]
      | false =>
        rw [hd0 rfl] at hb
        simp -implicitDefEqProofs (disch:=omega) only [Rx,simprocAttr,F105,k0,ll,hfr,hdr,hb,hv,e1]
  by_cases hdt:d=true
  · obtain ⟨k,hk1,hk2,hcut⟩:=cutE_run l hs hl (hdi.1 hdt) [] (n:=n+l.length+40) (by omega)
    have htl:(l.take (k+1)).length=k+1:=by rw [List.length_take];omega
    obtain ⟨x,hx⟩:=get_some hk1
    have h1:=errR_split (l:=l) k (a:=0) (m:=k) (b:=k+1) (by omega) (by omega) (by omega)
    have h2:=errR_cons hx (show k<k+1 by omega)
    rw [if_neg (stop_err hk2)] at h2
    have hne2:errR l 0 (k+1)≠0:=by
      rw [h1]
      split
      · rw [h2];exact stop_err hk2
      · assumption
    have h3:=errR_split (l:=l) (k+1) (a:=0) (m:=k+1) (b:=l.length) (by omega) (by omega) (Nat.le_refl _)
    rw [if_neg hne2] at h3
    refine fin (l.take (k+1)) (fun _ => ?_) (fun h=>absurd hdt (by rw [h];simp)) (sound_take hso _) (by omega) (by omega) (fun x hx=>hal x (List.mem_of_mem_take hx)) ?_
    · exact hcut
    · rw [htl,errR_take hs (k+1) 0 (k+1) (by omega) (Nat.le_refl _) (by omega), ← h3,errR_all]
  · have hd0:d=false:=by simpa using hdt
    exact fin l (fun h=>absurd h hdt) (fun _=>rfl) hso (Nat.le_refl _) hlen hal errR_all
theorem flatCheckE_mid (l:List GRow) {m:Nat} (hl:Rows.mid m l) (hm:m≤1048577) {n:Nat} (hn:1048577<n) (g:List AObj):acall T (n+l.length+43) 55 [.p (.list (l.map GRow.pv))] g=some (.p (.int .i64 (check13 l)),g):=by
 have hlen:=hl.len
 by_cases hne:l=[]
 ·subst hne
  have e:check13 []=0:=rfl
  rw [e,acall_code T55,run_pure rfl rfl rfl]
  simp -implicitDefEqProofs (disch:=omega) only [Rx,simprocAttr,F55,Int.natCast_zero]
 have hlen0:0<l.length:=List.length_pos_iff.2 hne
 have k0:((l.length:Int)==0)=false:=by simp;omega
 by_cases hf:formedB l=true
 ·obtain ⟨p,hp,hr⟩:=treeE_run l (by omega) hne hf (fun x hx=>by have:=(hl.row x hx).attrs;omega) hn []
  have e:check13 l=errFrom l 0 l:=by rw [check13,if_pos hf]
  obtain ⟨c1,c2,c3,c4,c5,rfl⟩:=hp
  rw [e,acall_code T55,run_pure rfl rfl rfl]
  simp -implicitDefEqProofs (disch:=omega) only [Rx,simprocAttr,F55,k0,hr]
 ·have e:check13 l=2:=by rw [check13,if_neg hf]
  have hfr:=formP_run l (by omega) [] (n:=n+l.length+40) (by omega)
  simp only [Bool.not_eq_true] at hf
  rw [hf] at hfr
  have hr:acall T (n+l.length+42) 105 [.p (.list (l.map GRow.pv))] []=some (.tuple [.p (.agg [.str [],.str [],.str [],.list [],.list []]),.p (.int .i64 2)],[]):=by
   have ll:(l.map GRow.pv).length=l.length:=by simp
   rw [acall_code T105,run_pure rfl rfl rfl]
   simp -implicitDefEqProofs (disch:=omega) only [Rx,simprocAttr,F105,k0,ll,hfr]
  rw [e,acall_code T55,run_pure rfl rfl rfl]
  simp -implicitDefEqProofs (disch:=omega) only [Rx,simprocAttr,F55,k0,hr]
end Go.TA.Tryz


end
section
/- The program builds the nodes of rows on a document. -/
namespace Go.TA
def bldM (N0:Nat) (S:MS) (l:List GRow):MS:=l.foldl (fun S x=>placeM (S.create (crO x)) S.N (fI N0 x.up.toNat) 0) S
def tabI (N0 i:Nat):List Int:=(List.range (i+1)).map fun k=>(fI N0 k:Int)
theorem tabI_len (N0 i:Nat):(tabI N0 i).length=i+1:=by simp [tabI]
theorem tabI_get {N0 i u:Nat} (h:u≤i):(tabI N0 i)[u]? = some (fI N0 u:Int):=by
 unfold tabI
 rw [List.getElem?_map,List.getElem?_range (by omega)];rfl
theorem tabI_next (N0 i:Nat):tabI N0 (i+1)=tabI N0 i++[(fI N0 (i+1):Int)]:=by
 unfold tabI
 rw [List.range_succ (n:=i+1),List.map_append];rfl
theorem bldM_step {N0:Nat} {S:MS} {l:List GRow} {i:Nat} {x:GRow} (hx:l[i]? = some x):bldM N0 S (l.take (i+1))=placeM ((bldM N0 S (l.take i)).create (crO x)) (bldM N0 S (l.take i)).N (fI N0 x.up.toNat) 0:=by
 unfold bldM
 rw [List.take_add_one,hx,List.foldl_append];rfl
namespace Tryz
theorem createErr_alone {x:GRow} (h:aloneErr x=0) {N:Nat} (hN:N≤4294967295):createErr N (crO x)=0:=by
 unfold aloneErr at h
 unfold createErr
 split at h
 ·omega
 split at h
 ·omega
 split at h
 ·omega
 rename_i h1 h2 h3
 have h4:¬ (65536<((crO x).key.length:Int)∨65536<((crO x).text.length:Int)):=by
  show ¬ (65536<(x.key.length:Int)∨65536<(x.text.length:Int))
  omega
 have h5:¬ attrsErr (crO x).attrs≠0:=fun e=>e h
 rw [if_neg (show ¬ namedB false (crO x).tag=false from h1),if_neg h4,if_neg h5,if_neg (by omega)]
structure IBSt where
 i:Nat
 S:MS
 it:Nat→Nat
 nd:Nat→Nat
 I:Nat→LK
 g:List AObj
def ibS (l:List GRow) (pd k:Nat) (s:IBSt):St:=⟨[(0,DocP pd),(7,.own true k (s.i+1)),(26,.p (.list (l.map GRow.pv))),(27,.p (.int .i64 l.length)),(28,.p (.int .i64 s.i))],[],s.g⟩
theorem ib_loop (l:List GRow) (hs:standTo l l.length) (ha:∀ x ∈ l,x.attrs.length≤1048577) (hal:∀ x ∈ l,aloneErr x=0) (hl:l.length≤1048576) (N0:Nat) (hN0:N0+1+l.length≤4294967296) (pd pm k:Nat) (S0':MS) (it0 nd0:Nat→Nat) (I0:Nat→LK) (g0:List AObj) (R0:Nat) (hD0:Doc R0 S0' it0 nd0 I0 pd pm g0) (hM0:Sim (fI N0) (T0 l 0) S0') (hLv:(liveL S0').length≤1) (hk:g0.length=k) {n:Nat} (hn:4*1048578+4*bnd R0 (2*l.length)<n) :
  ∃ s:IBSt,aexec (acall T n) n (.loop B28x0) (ibS l pd k ⟨0,S0',it0,nd0,I0,g0++[.pcells 1 (intsPV (tabI N0 0))]⟩)=some (.exit 0,⟨[(7,.own true k (l.length+1))],[],s.g⟩)∧s.S=bldM N0 S0' l∧Doc (bnd R0 (2*l.length)) s.S s.it s.nd s.I pd pm s.g∧Sim (fI N0) (S0 l) s.S∧s.g[k]? = some (.pcells 1 (intsPV (tabI N0 l.length)))∧GFr g0 (OwnD S0' it0 nd0 pd pm) s.g (OwnD s.S s.it s.nd pd pm)∧¬ OwnD s.S s.it s.nd pd pm k∧(liveL s.S).length≤1+l.length:=by
 have key:=loop_inv (C:=acall T n) (N:=n) (B:=B28x0) (σ := IBSt) (S:=ibS l pd k)
  (I:=fun s=>s.i≤l.length∧s.S=bldM N0 S0' (l.take s.i)∧Doc (bnd R0 (2*s.i)) s.S s.it s.nd s.I pd pm s.g∧Sim (fI N0) (T0 l s.i) s.S∧s.g[k]? = some (.pcells 1 (intsPV (tabI N0 s.i)))∧GFr g0 (OwnD S0' it0 nd0 pd pm) s.g (OwnD s.S s.it s.nd pd pm)∧¬ OwnD s.S s.it s.nd pd pm k∧(liveL s.S).length≤1+s.i) (μ := fun s=>l.length - s.i)
  (Q:=fun q=>∃ s:IBSt,q=(.exit 0,⟨[(7,.own true k (l.length+1))],[],s.g⟩)∧s.S=bldM N0 S0' l∧Doc (bnd R0 (2*l.length)) s.S s.it s.nd s.I pd pm s.g∧Sim (fI N0) (S0 l) s.S∧s.g[k]? = some (.pcells 1 (intsPV (tabI N0 l.length)))∧GFr g0 (OwnD S0' it0 nd0 pd pm) s.g (OwnD s.S s.it s.nd pd pm)∧¬ OwnD s.S s.it s.nd pd pm k∧(liveL s.S).length≤1+l.length) ?_ ⟨0,S0',it0,nd0,I0,g0++[.pcells 1 (intsPV (tabI N0 0))]⟩ ⟨by simp only;omega,rfl,⟨hD0.ok,hD0.link,hD0.lies.more _⟩,hM0,by simp [← hk],⟨by simp,fun j hj _=>List.getElem?_append_left hj,fun j hj _=>hj⟩,fun h=>by have:=hD0.lies.own_lt h;omega,by simp only;omega⟩ (by simp only;omega)
 ·obtain ⟨q,hq,s,rfl,h1⟩:=key
  exact ⟨s,hq,h1⟩
 rintro ⟨i,S,it,nd,I,g⟩ ⟨hi,hSe,hD,hM,hgk,hF,hkO,hlv⟩
 simp only at hi hSe hD hM hgk hF hkO hlv
 by_cases h:i<l.length
 ·left
  obtain ⟨x,hx⟩:=get_some h
  have hxm:=List.mem_of_getElem? hx
  have hgx:=getD_map (f:=GRow.pv) hx
  have hu0:=hs i x h hx
  obtain ⟨u,hu⟩:∃ u:Nat,x.up=(u:Int):=⟨x.up.toNat,by omega⟩
  have hb:=bnd_mono R0 (show 2*i+1≤2*l.length by omega)
  have hbe:bnd R0 (2*i+1)=bnd R0 (2*i)+bnd R0 (2*i)+1:=rfl
  have k1:(i:Int)<(l.length:Int):=by omega
  have hS:=hD.ok
  have hSN':S.N=N0+1+i:=by
   have h:fI N0 (i+1+0)=S.N+0:=hM.next 0
   rw [fI_pos (by omega)] at h;omega
  obtain ⟨b1,b2,b3,b4⟩:=built_step hs ha hS hM hx hu (createErr_alone (hal x hxm) (by omega))
  have hax:=ha x hxm
  obtain ⟨c1,_⟩:=calls_run hD (crO x) hax (n:=n - bnd R0 (2*i) - 40) (by omega) (by omega) (by omega)
  obtain ⟨it1,nd1,I1,g1,d1,w1,f1⟩:=c1 rfl
  rw [show n - bnd R0 (2*i) - 40+bnd R0 (2*i)+40=n by omega,b2] at d1
  rw [b2] at w1 f1
  dsimp only at d1 w1 f1
  have hlv1:(liveL (S.create (crO x))).length≤1+i+1:=by rw [liveL_create,List.length_append];simp;omega
  have hbe1:bnd R0 (2*i)+bnd R0 (2*i)+1=bnd R0 (2*i+1):=rfl
  rw [hbe1] at w1
  obtain ⟨_,c2,_⟩:=calls_run w1 (inO S.N (fI N0 u)) (by simp [inO]) (n:=n - bnd R0 (2*i+1) - 40) (by omega) (by omega) (by omega)
  obtain ⟨_,it2,nd2,I2,g2,d2,w2,f2⟩:=c2 rfl
  rw [show n - bnd R0 (2*i+1) - 40+bnd R0 (2*i+1)+40=n by omega,b3] at d2
  rw [b3] at w2 f2
  dsimp only at d2 w2 f2
  have hkl:=(List.getElem?_eq_some_iff.1 hgk).1
  have hk1O:¬ OwnD (S.create (crO x)) it1 nd1 pd pm k:=fun h=>hkO (f1.refs k h hkl)
  have hk1:g1[k]? = some (.pcells 1 (intsPV (tabI N0 i))):=by rw [f1.keep k hkl hkO];exact hgk
  have hkl1:=(List.getElem?_eq_some_iff.1 hk1).1
  have hk2O:¬ OwnD (placeM (S.create (crO x)) S.N (fI N0 u) 0) it2 nd2 pd pm k:=fun h=>hk1O (f2.refs k h hkl1)
  have hk2:g2[k]? = some (.pcells 1 (intsPV (tabI N0 i))):=by rw [f2.keep k hkl1 hk1O];exact hk1
  have hkl2:=(List.getElem?_eq_some_iff.1 hk2).1
  have hF2:=(hF.trans f1).trans f2
  have il:=intsPV_len (tabI N0 i)
  have tl:=tabI_len N0 i
  have hgu:=intsPV_get (tabI_get (N0:=N0) (show u≤i by omega))
  have e1:(fI N0 (i+1):Int)=(S.N:Int):=by rw [fI_pos (by omega)];omega
  have os:=intsPV_snoc (tabI N0 i) (S.N:Int)
  rw [← e1, ← tabI_next,e1] at os
  have ol:(intsPV (tabI N0 (i+1))).length=i+1+1:=by rw [intsPV_len,tabI_len]
  refine ⟨⟨i+1,placeM (S.create (crO x)) S.N (fI N0 u) 0,it2,nd2,I2,g2.set k (.pcells 1 (intsPV (tabI N0 (i+1))))⟩, ?_,⟨by simp only;omega, ?_,⟨w2.ok,w2.link,w2.lies.keep fun j hj => ?_⟩,b4, ?_,⟨by simp only [List.length_set];exact hF2.len,fun j hj hO => ?_,hF2.refs⟩,hk2O, ?_⟩,by simp only;omega⟩
  ·simp only [ibS]
   simp only [crO] at d1
   simp only [inO] at d2
   generalize intsPV (tabI N0 (i+1))=Y at os ol ⊢
   generalize intsPV (tabI N0 i)=X at *
   simp -implicitDefEqProofs (disch:=omega) only [Rx,simprocAttr,B28x0,k1,hgx,GRow.pv,attrsPV,d1,hk1,hgu,hu,il,tl,d2,hk2,os,ol]
  ·simp only
   rw [bldM_step hx, ← hSe,hu];rfl
  ·rw [List.getElem?_set,if_neg (fun e=>hk2O (by rw [e];exact hj))]
  ·simp only
   rw [List.getElem?_set,if_pos rfl,if_pos hkl2]
  ·simp only
   rw [List.getElem?_set,if_neg (by omega)]
   exact hF2.keep j hj hO
  ·simp only
   have hll2:liveL (placeM (S.create (crO x)) S.N (fI N0 u) 0)=liveL (S.create (crO x)):=liveL_place _ _ _ _
   rw [hll2];omega
 ·right
  obtain rfl:i=l.length:=by omega
  have k1:¬ (l.length:Int)<(l.length:Int):=by omega
  rw [List.take_length] at hSe
  refine ⟨_, ?_, ?_,⟨l.length,S,it,nd,I,g⟩,rfl,hSe,hD,hM,hgk,hF,hkO,hlv⟩
  ·simp only [ibS]
   simp -implicitDefEqProofs (disch:=omega) only [Rx,simprocAttr,B28x0,k1]
  ·simp
end Tryz
end Go.TA


end
section
/- The document's answer: where a node lies, is there one, is it below another one; rows of kids. -/
namespace Go.TA.Tryz
section
variable {L:List Nat} {st:Nat→MNode} {kd:Nat→List Int} {nx:Int} {av:Nat→AV} {p q:Nat} {g:List AObj}
theorem rd_node {o:AObj} (hr:RowRep 7 (rowsD L st av) o) {i c:Nat} (hi:L[i]? = some c) {j:Nat} (hj:j+1≤7):o.rd 1 L.length i j 7 false=some ((nAV c (st c) (av c)).getD j .bot) :=
 hr.rd1 rowsD_len (List.getElem?_eq_some_iff.1 hi).1 (rowsD_get hi) rfl hj
theorem at_run (hD : DC L st nx av p q g) (hL : L.length ≤ 4194304) (id : Int) {n : Nat} (hn : L.length < n) :
    acall T (n+1) 131 [DP p,.p (.int .i64 id)] g=some (.p (.int .i64 (posL L id)),g):=by
  obtain ⟨o,ho,hrep⟩:=hD.row
  have hob:=hD.obj
  have hix:=fun s i=>hrep.idx rowsD_len s true q i
  have key:=loop_inv (C:=acall T n) (N:=n) (B:=B131x0) (σ := Nat) (S:=fun i=>⟨[(0,DP p),(1,.p (.int .i64 id)),(10,.p (.int .i64 L.length)),(11,.p (.int .i64 i))],[],g⟩)
    (I:=fun i=>i≤L.length∧i≤L.findIdx (fun h:Nat=>(h:Int)==id)) (μ := fun i=>L.length - i) (Q:=fun r=>r=if L.findIdx (fun h:Nat=>(h:Int)==id)<L.length then (.ret,⟨[(4,.p (.int .i64 (L.findIdx (fun h:Nat=>(h:Int)==id))))],[],g⟩) else (.exit 0,⟨[],[],g⟩)) ?_ 0 ⟨by omega,by omega⟩ (by omega)
  · obtain ⟨r,hq,rfl⟩:=key
    simp only [Int.natCast_zero] at hq
    unfold posL
    rw [acall_code T131,run_code rfl rfl]
    by_cases hc:L.findIdx (fun h:Nat=>(h:Int)==id)<L.length
    · rw [if_pos hc] at hq
      rw [if_pos hc]
      simp -implicitDefEqProofs (disch:=omega) only [Rx,simprocAttr,F131,hob,hq]
    · rw [if_neg hc] at hq
      rw [if_neg hc]
      simp -implicitDefEqProofs (disch:=omega) only [Rx,simprocAttr,F131,hob,hq]
  rintro i ⟨h1,h2⟩
  by_cases hi:i<L.length
  · have k1:(i:Int)<(L.length:Int):=by omega
    obtain ⟨c,hc⟩:=get_some hi
    have hrd:=rd_node hrep hc (j:=0) (by omega)
    simp only [nAV] at hrd
    by_cases e:i=L.findIdx (fun h:Nat=>(h:Int)==id)
    · right
      have hp:((c:Int)==id)=true:=by
        have:=List.findIdx_getElem (xs:=L) (p:=fun h:Nat=>(h:Int)==id) (w:=by omega)
        have e2:=(List.getElem?_eq_some_iff.1 hc).2
        simp only [← e] at this
        rw [e2] at this
        exact this
      refine ⟨_, ?_, ?_,rfl⟩
      · rw [if_pos (by omega), ← e]
        simp -implicitDefEqProofs (disch:=omega) only [Rx,simprocAttr,B131x0,k1,hob,ho,hix,hrd,hp]
      · rw [if_pos (by omega)];simp
    · left
      have hp:((c:Int)==id)=false:=by
        have:=List.not_of_lt_findIdx (xs:=L) (p:=fun h:Nat=>(h:Int)==id) (i:=i) (by omega)
        have e2:=(List.getElem?_eq_some_iff.1 hc).2
        rw [e2] at this
        simpa using this
      refine ⟨i+1, ?_,⟨by omega,by omega⟩,by omega⟩
      simp -implicitDefEqProofs (disch:=omega) only [Rx,simprocAttr,B131x0,k1,hob,ho,hix,hrd,hp]
  · right
    obtain rfl:i=L.length:=by omega
    have k1:¬ (L.length:Int)<(L.length:Int):=by omega
    refine ⟨_, ?_, ?_,rfl⟩
    · rw [if_neg (by omega)]
      simp -implicitDefEqProofs (disch:=omega) only [Rx,simprocAttr,B131x0,k1]
    · rw [if_neg (by omega)];simp
theorem kidsF_run (hD:DC L st nx av p q g) (hL:L.length≤4194304) {c:Nat} (hc:c ∈ L) (ks:List (List PV)) {n:Nat} (hn:L.length<n) :
  ∃ o',acall T (n+2) 133 [DP p,.p (.int .i64 c),.p (.list ks)] g=some (.tuple [],g.set q o')∧RowRep 7 (rowsD L st (upd av c (.p (.list ks)))) o':=by
 obtain ⟨o,ho,hrep⟩:=hD.row
 have hob:=hD.obj
 have hix:=fun s i=>hrep.idx rowsD_len s true q i
 obtain ⟨i,hpos,hi⟩:=posL_in hc
 have hil:=(List.getElem?_eq_some_iff.1 hi).1
 have hat:=at_run hD hL (c:Int) (n:=n) hn
 rw [hpos] at hat
 have k1:(i:Int)<(L.length:Int):=by omega
 obtain ⟨o',hw,hr'⟩:=wr_node hrep hi (j:=2) (by omega) (.p (.list ks))
 rw [rows_kids hD.nodup hi] at hr'
 refine ⟨o', ?_,hr'⟩
 rw [acall_code T133,run_code rfl rfl]
 simp -implicitDefEqProofs (disch:=omega) only [Rx,simprocAttr,F133,hob,ho,hix,hat,hw]
end
section
variable {S:MS} {nx:Int} {av:Nat→AV} {p q:Nat} {g:List AObj}
theorem noneD_run (hD:DC (liveL S) S.st nx av p q g) (hL:(liveL S).length≤4194304) (id:Int) {n:Nat} (hn:(liveL S).length<n) :
  acall T (n+2) 130 [DP p,.p (.int .i64 id)] g=some (.p (.int .i64 (fitE S id)),g):=by
 have hat:=at_run hD hL id (n:=n) hn
 rw [acall_code T130,run_code rfl rfl]
 by_cases h0:id=0
 ·have e:(id==0)=true:=by simpa using h0
  simp -implicitDefEqProofs (disch:=omega) only [Rx,simprocAttr,F130,fitE,h0]
 have e:(id==0)=false:=by simpa using h0
 cases hv:liveB S id
 ·rw [posL_dead hv] at hat
  simp -implicitDefEqProofs (disch:=omega) only [Rx,simprocAttr,F130,fitE,h0,e,hat,hv]
 ·obtain ⟨c,rfl,hc⟩:=live_liveL hv
  obtain ⟨i,hpos,_⟩:=posL_in hc
  rw [hpos] at hat
  have k0:¬ (i:Int)<0:=by omega
  simp -implicitDefEqProofs (disch:=omega) only [Rx,simprocAttr,F130,fitE,h0,e,hat,hv,k0]
theorem underD_loop {R : Nat} (hS : S.Ok R) (hD : DC (liveL S) S.st nx av p q g) (hL : (liveL S).length ≤ 4194304) (t : Nat) {n : Nat} (hn : (liveL S).length < n) (N : Nat) (hN : R + 3 < N) (h : Nat) (hh : h ∈ liveL S) :
    aexec (acall T (n+1)) N (.loop B132x0) ⟨[(0,DP p),(1,.p (.int .i64 h)),(2,.p (.int .i64 t))],[],g⟩=some (if underB S (h:Int) (t:Int)=true then (.ret,⟨[(6,.p (.bool true))],[],g⟩) else (.exit 0,⟨[],[],g⟩)):=by
  obtain ⟨r,hr1,hr2⟩:=hS.rank
  obtain ⟨o,ho,hrep⟩:=hD.row
  have hob:=hD.obj
  have hix:=fun s i=>hrep.idx rowsD_len s true q i
  have hhN:=(mem_liveL.1 hh).1
  have key:=loop_inv (C:=acall T (n+1)) (N:=N) (B:=B132x0) (σ := Int) (S:=fun y=>⟨[(0,DP p),(1,.p (.int .i64 y)),(2,.p (.int .i64 t))],[],g⟩)
    (I:=fun y=>(y = -1∨∃ c:Nat,y=(c:Int)∧c ∈ liveL S)∧(Below S (t:Int) (h:Int)↔Below S (t:Int) y)) (μ := fun y=>if y<0 then 0 else r y.toNat+1)
    (Q:=fun z=>z=(if underB S (h:Int) (t:Int)=true then (.ret,⟨[(6,.p (.bool true))],[],g⟩) else (.exit 0,⟨[],[],g⟩))) ?_ (h:Int) ⟨.inr ⟨h,rfl,hh⟩,Iff.rfl⟩ (by
      have:=hr1 h hhN
      simp only [Int.toNat_natCast]
      split <;> omega)
  · obtain ⟨z,hz,rfl⟩:=key
    exact hz
  rintro y ⟨hy,hb⟩
  rcases hy with rfl | ⟨c,rfl,hc⟩
  · right
    have hf:¬ Below S (t:Int) (h:Int):=fun z=>below_neg (by omega) (hb.1 z)
    refine ⟨_, ?_, ?_,rfl⟩
    · rw [if_neg (fun z=>hf (underB_iff.1 z))]
      simp -implicitDefEqProofs (disch:=omega) only [Rx,simprocAttr,B132x0]
    · rw [if_neg (fun z=>hf (underB_iff.1 z))];simp
  have hcN:=(mem_liveL.1 hc).1
  by_cases e:c=t
  · subst e
    right
    have hf:Below S (c:Int) (h:Int):=hb.2 .here
    refine ⟨_, ?_, ?_,rfl⟩
    · rw [if_pos (underB_iff.2 hf)]
      have k0:(0:Int)≤(c:Int):=by omega
      simp -implicitDefEqProofs (disch:=omega) only [Rx,simprocAttr,B132x0,k0]
    · rw [if_pos (underB_iff.2 hf)];simp
  · left
    have e1:((c:Int)==(t:Int))=false:=by simp;omega
    have k0:(0:Int)≤(c:Int):=by omega
    obtain ⟨i,hpos,hi⟩:=posL_in hc
    have hil:=(List.getElem?_eq_some_iff.1 hi).1
    have k1:(i:Int)<((liveL S).length:Int):=by omega
    have hat:=at_run hD hL (c:Int) (n:=n) hn
    rw [hpos] at hat
    have hrd:=rd_node hrep hi (j:=1) (by omega)
    simp only [nAV] at hrd
    refine ⟨(S.st c).up, ?_,⟨?_, ?_⟩, ?_⟩
    · simp -implicitDefEqProofs (disch:=omega) only [Rx,simprocAttr,B132x0,k0,e1,hob,ho,hix,hat,hrd]
    · rcases hS.up c hcN with h1 | ⟨p,h1,h2,h3,_⟩
      · exact .inl h1
      · exact .inr ⟨p,h2,mem_liveL.2 ⟨h1,h3⟩⟩
    · rw [hb,below_iff (by omega) (by omega)];rfl
    · have e2:¬ (c:Int)<0:=by omega
      simp only [Int.toNat_natCast,e2,if_false]
      rcases hS.up c hcN with h1 | ⟨p,h1,h2,_⟩
      · rw [h1];simp
      · have:=hr2 c p hcN h2
        rw [h2,Int.toNat_natCast]
        split <;> omega
theorem underD_run {R:Nat} (hS:S.Ok R) (hD:DC (liveL S) S.st nx av p q g) (hL:(liveL S).length≤4194304) (t h:Nat) (hh:h ∈ liveL S) {n:Nat} (hn:(liveL S).length<n) (hR:R+3<n):acall T (n+2) 132 [DP p,.p (.int .i64 h),.p (.int .i64 t)] g=some (.p (.bool (underB S h t)),g):=by
 rw [acall_code T132,run_code rfl rfl]
 have hl:=underD_loop hS hD hL t (n:=n) hn (n+1) (by omega) h hh
 by_cases hb:Below S (t:Int) (h:Int)
 ·have e:underB S h t=true:=by simp [underB,hb]
  rw [if_pos e] at hl
  simp -implicitDefEqProofs (disch:=omega) only [Rx,simprocAttr,F132,hl,e]
 ·have e:underB S h t=false:=by simp [underB,hb]
  rw [if_neg (by rw [e];simp)] at hl
  simp -implicitDefEqProofs (disch:=omega) only [Rx,simprocAttr,F132,hl,e]
end
theorem in_run (l:List Int) (h b:Int) (hl:l.length≤4194304) (g:List AObj) {n:Nat} (hn:l.length<n) :
  acall T (n+1) 134 [.p (.list (intsPV l)),.p (.int .i64 h),.p (.int .i64 b)] g=some (.p (.list (intsPV (inL l h b))),g):=by
 have il:=intsPV_len l
 generalize hf:(fun k:Int=>if k=b then [h,k] else [k])=f
 have hlen:∀ i,((l.take i).flatMap f).length≤2*l.length:=fun i=>by
  have:=in_len (l.take i) h b
  rw [hf] at this
  have h2:(l.take i).length≤l.length:=by rw [List.length_take];omega
  omega
 have key:=loop_inv (C:=acall T n) (N:=n) (B:=B134x0) (σ := Nat) (S:=fun i=>⟨[(0,.p (.list (intsPV l))),(1,.p (.int .i64 h)),(2,.p (.int .i64 b)),(7,.own false 1000 ((l.take i).flatMap f).length),(10,.p (.int .i64 l.length)),(11,.p (.int .i64 i))],[(1000,.pcells 1 (intsPV ((l.take i).flatMap f)))],[]⟩)
  (I:=fun i=>i≤l.length) (μ := fun i=>l.length - i) (Q:=fun r=>r=(.exit 0,⟨[(1,.p (.int .i64 h)),(2,.p (.int .i64 b)),(7,.own false 1000 (l.flatMap f).length)],[(1000,.pcells 1 (intsPV (l.flatMap f)))],[]⟩)) ?_ 0 (by omega) (by omega)
 ·obtain ⟨r,hq,rfl⟩:=key
  have il2:=intsPV_len (l.flatMap f)
  have hll:=hlen l.length
  rw [List.take_length] at hll
  simp only [List.take_zero,List.flatMap_nil,List.length_nil,Int.natCast_zero,show intsPV []=[] from rfl] at hq
  have hres:inL l h b=l.flatMap f++if b=0 then [h] else []:=by rw [inL, ← hf]
  rw [hres]
  generalize l.flatMap f=acc at hq il2 hll
  rw [acall_code T134,run_pure rfl rfl rfl]
  by_cases hb:b=0
  ·have e:(b==0)=true:=by simpa using hb
   rw [if_pos hb]
   have os:=intsPV_snoc acc h
   have ol:=intsPV_len (acc++[h])
   rw [List.length_append] at ol
   generalize acc++[h]=acc' at os ol ⊢
   simp -implicitDefEqProofs (disch:=omega) only [Rx,simprocAttr,F134,hq,il,il2,e,os,ol]
  ·have e:(b==0)=false:=by simpa using hb
   rw [if_neg hb,List.append_nil]
   simp -implicitDefEqProofs (disch:=omega) only [Rx,simprocAttr,F134,hq,il,il2,e]
 intro i hi
 by_cases h1:i<l.length
 ·left
  obtain ⟨x,hx⟩:∃ x,l[i]? = some x:=⟨_,List.getElem?_eq_getElem h1⟩
  have k1:(i:Int)<(l.length:Int):=by omega
  have hg:=intsPV_get hx
  have hs:=flat_stepI (f:=f) hx
  have hll:=hlen i
  refine ⟨i+1, ?_,by omega,by omega⟩
  rw [hs]
  generalize (l.take i).flatMap f=acc at hll
  have il2:=intsPV_len acc
  by_cases e:x=b
  ·have e1:(x==b)=true:=by simpa using e
   have hfx:f x=[h,x]:=by rw [← hf];simp [e]
   rw [hfx]
   have os1:=intsPV_snoc acc h
   have os2:=intsPV_snoc (acc++[h]) x
   have ol1:(intsPV (acc++[h])).length=acc.length+1:=by rw [intsPV_len,List.length_append];rfl
   have ol2:(intsPV (acc++[h,x])).length=acc.length+1+1:=by rw [intsPV_len,List.length_append];rfl
   have ol3:(acc++[h,x]).length=acc.length+1+1:=by rw [List.length_append];rfl
   have oe:acc++[h]++[x]=acc++[h,x]:=by simp
   rw [oe] at os2
   rw [ol3]
   generalize acc++[h,x]=acc2 at os2 ol2
   generalize acc++[h]=acc1 at os1 os2 ol1
   simp -implicitDefEqProofs (disch:=omega) only [Rx,simprocAttr,B134x0,k1,hg,il,il2,e1,os1,os2,ol1,ol2]
  ·have e1:(x==b)=false:=by simpa using e
   have hfx:f x=[x]:=by rw [← hf];simp [e]
   rw [hfx]
   have os1:=intsPV_snoc acc x
   have ol1:(intsPV (acc++[x])).length=acc.length+1:=by rw [intsPV_len,List.length_append];rfl
   have ol3:(acc++[x]).length=acc.length+1:=by rw [List.length_append];rfl
   rw [ol3]
   generalize acc++[x]=acc1 at os1 ol1
   simp -implicitDefEqProofs (disch:=omega) only [Rx,simprocAttr,B134x0,k1,hg,il,il2,e1,os1,ol1]
 ·right
  obtain rfl:i=l.length:=by omega
  have k1:¬ (l.length:Int)<(l.length:Int):=by omega
  refine ⟨_, ?_, ?_,rfl⟩
  ·rw [List.take_length]
   simp -implicitDefEqProofs (disch:=omega) only [Rx,simprocAttr,B134x0,k1]
  ·simp
theorem out_run (l:List Int) (h:Int) (hl:l.length≤8388610) (g:List AObj) {n:Nat} (hn:l.length<n) :
  acall T (n+1) 176 [.p (.list (intsPV l)),.p (.int .i64 h)] g=some (.p (.list (intsPV (l.filter fun k => !(k==h)))),g):=by
 have il:=intsPV_len l
 generalize hf:(fun k:Int => !(k==h))=f
 have hlen:∀ i,((l.take i).filter f).length≤l.length:=fun i=>by
  have:=List.length_filter_le f (l.take i)
  have h2:(l.take i).length≤l.length:=by rw [List.length_take];omega
  omega
 have key:=loop_inv (C:=acall T n) (N:=n) (B:=B176x0) (σ := Nat) (S:=fun i=>⟨[(0,.p (.list (intsPV l))),(1,.p (.int .i64 h)),(5,.own false 1000 ((l.take i).filter f).length),(8,.p (.int .i64 l.length)),(9,.p (.int .i64 i))],[(1000,.pcells 1 (intsPV ((l.take i).filter f)))],[]⟩)
  (I:=fun i=>i≤l.length) (μ := fun i=>l.length - i) (Q:=fun r=>r=(.exit 0,⟨[(5,.own false 1000 (l.filter f).length)],[(1000,.pcells 1 (intsPV (l.filter f)))],[]⟩)) ?_ 0 (by omega) (by omega)
 ·obtain ⟨r,hq,rfl⟩:=key
  have il2:=intsPV_len (l.filter f)
  simp only [List.take_zero,List.filter_nil,List.length_nil,Int.natCast_zero,show intsPV []=[] from rfl] at hq
  generalize l.filter f=acc at hq il2
  rw [acall_code T176,run_pure rfl rfl rfl]
  simp -implicitDefEqProofs (disch:=omega) only [Rx,simprocAttr,F176,hq,il,il2]
 intro i hi
 by_cases h1:i<l.length
 ·left
  obtain ⟨x,hx⟩:∃ x,l[i]? = some x:=⟨_,List.getElem?_eq_getElem h1⟩
  have k1:(i:Int)<(l.length:Int):=by omega
  have hg:=intsPV_get hx
  have hs:(l.take (i+1)).filter f=(l.take i).filter f++if f x=true then [x] else []:=by
   rw [List.take_add_one,hx,List.filter_append]
   simp [List.filter_cons]
  have hll:=hlen i
  refine ⟨i+1, ?_,by omega,by omega⟩
  rw [hs]
  generalize (l.take i).filter f=acc at hll
  have il2:=intsPV_len acc
  by_cases e:x=h
  ·have e1:(x==h)=true:=by simpa using e
   have hfx:f x=false:=by rw [← hf];simp [e]
   rw [hfx]
   simp only [Bool.false_eq_true,if_false,List.append_nil]
   simp -implicitDefEqProofs (disch:=omega) only [Rx,simprocAttr,B176x0,k1,hg,il,e1]
  ·have e1:(x==h)=false:=by simpa using e
   have hfx:f x=true:=by rw [← hf];simp [e]
   rw [hfx,if_pos rfl]
   have os1:=intsPV_snoc acc x
   have ol1:(intsPV (acc++[x])).length=acc.length+1:=by rw [intsPV_len,List.length_append];rfl
   have ol3:(acc++[x]).length=acc.length+1:=by rw [List.length_append];rfl
   rw [ol3]
   generalize acc++[x]=acc1 at os1 ol1
   simp -implicitDefEqProofs (disch:=omega) only [Rx,simprocAttr,B176x0,k1,hg,il,il2,e1,os1,ol1]
 ·right
  obtain rfl:i=l.length:=by omega
  have k1:¬ (l.length:Int)<(l.length:Int):=by omega
  refine ⟨_, ?_, ?_,rfl⟩
  ·rw [List.take_length]
   simp -implicitDefEqProofs (disch:=omega) only [Rx,simprocAttr,B176x0,k1]
  ·simp
end Go.TA.Tryz


end
section
/- The document's answer: a node is put below another one, or elsewhere. -/
namespace Go.TA
theorem DM.congr {L:List Nat} {st st':Nat→MNode} {kd kd':Nat→List Int} {nx:Int} {av:Nat→AV} {p q:Nat} {g:List AObj} (h:DM L st kd nx av p q g) (hs:∀ k ∈ L,st k=st' k∧kd k=kd' k):DM L st' kd' nx av p q g where
 core:=⟨h.core.obj,by
  obtain ⟨o,h1,h2⟩:=h.core.row
  exact ⟨o,h1,by rwa [rowsD_congr (st':=st') (av':=av) (fun k hk=>⟨(hs k hk).1,rfl⟩)] at h2⟩,h.core.pq,h.core.nodup⟩
 kids k hk:=by rw [← (hs k hk).2];exact h.kids k hk
 away:=h.away
 disj:=h.disj
namespace Tryz
section
variable {R:Nat} {S:MS} {nx:Int} {av:Nat→AV} {p q:Nat} {g:List AObj}
theorem insertD_run (hS:S.Ok R) (hD:DM (liveL S) S.st S.kd nx av p q g) (hL:(liveL S).length≤4194304) (id up b:Int) {n:Nat} (hn:(liveL S).length<n) (hR:R+3<n) :
    ∃ av' g',acall T (n+4) 77 [DP p,.p (.int .i64 id),.p (.int .i64 up),.p (.int .i64 b)] g=some (.p (.int .i64 (insertD S id up b).1),g')∧DM (liveL (insertD S id up b).2) (insertD S id up b).2.st (insertD S id up b).2.kd nx av' p q g'∧DFr (liveL S) av p q g (liveL (insertD S id up b).2) av' q g':=by
  obtain ⟨o,ho,hrep⟩:=hD.core.row
  have hob:=hD.core.obj
  have hix:=fun s i=>hrep.idx rowsD_len s true q i
  have hno:=noneD_run hD.core hL id (n:=n+1) (by omega)
  have hat:=fun id=>at_run hD.core hL id (n:=n+2) (by omega)
  unfold insertD
  by_cases hf:fitE S id≠0
  · rw [if_pos hf]
    have e1:(fitE S id==0)=false:=by simpa using hf
    refine ⟨av,g, ?_,hD,DFr.refl _ _ _ _ _⟩
    rw [acall_code T77,run_code rfl rfl]
    generalize fitE S id=e at hno e1 ⊢
    simp -implicitDefEqProofs (disch:=omega) only [Rx,simprocAttr,F77,hno,e1]
  rw [if_neg hf]
  obtain ⟨c,rfl,hcL,hc0⟩:=fit_live hf
  simp only [ne_eq,Decidable.not_not] at hf
  rw [hf] at hno
  by_cases hl:(liveB S up && liveB S b)=false
  · rw [if_pos hl]
    refine ⟨av,g, ?_,hD,DFr.refl _ _ _ _ _⟩
    have hat1:=hat up
    have hat2:=hat b
    rw [acall_code T77,run_code rfl rfl]
    cases a1:liveB S up with
    | false =>
      rw [posL_dead a1] at hat1
      simp -implicitDefEqProofs (disch:=omega) only [Rx,simprocAttr,F77,hno,hat1]
    | true =>
      obtain ⟨u,hu,huL⟩:=live_liveL a1
      obtain ⟨i,hi,_⟩:=posL_in huL
      have a2:liveB S b=false:=by rw [a1] at hl;simpa using hl
      rw [posL_dead a2] at hat2
      rw [hu,hi] at hat1
      have k1:¬ (i:Int)<0:=by omega
      rw [hu]
      simp -implicitDefEqProofs (disch:=omega) only [Rx,simprocAttr,F77,hno,hat1,hat2,k1]
  rw [if_neg hl]
  simp only [Bool.not_eq_false,Bool.and_eq_true] at hl
  obtain ⟨a2,a3⟩:=hl
  obtain ⟨u,rfl,huL⟩:=live_liveL a2
  obtain ⟨w,rfl,hwL⟩:=live_liveL a3
  obtain ⟨ic,hpc,hic⟩:=posL_in hcL
  obtain ⟨iu,hpu,hiu⟩:=posL_in huL
  obtain ⟨iw,hpw,hiw⟩:=posL_in hwL
  have hat1:=hat (c:Int)
  have hat2:=hat (u:Int)
  have hat3:=hat (w:Int)
  rw [hpc] at hat1
  rw [hpu] at hat2
  rw [hpw] at hat3
  have lc:=(List.getElem?_eq_some_iff.1 hic).1
  have lu:=(List.getElem?_eq_some_iff.1 hiu).1
  have lw:=(List.getElem?_eq_some_iff.1 hiw).1
  have kc:(ic:Int)<((liveL S).length:Int):=by omega
  have ku:(iu:Int)<((liveL S).length:Int):=by omega
  have kw:(iw:Int)<((liveL S).length:Int):=by omega
  have ku0:¬ (iu:Int)<0:=by omega
  have kw0:¬ (iw:Int)<0:=by omega
  have rdc:=rd_node hrep hic (j:=1) (by omega)
  have rdw:=rd_node hrep hiw (j:=1) (by omega)
  simp only [nAV] at rdc rdw
  have un:=underD_run hS hD.core hL c u huL (n:=n+1) (by omega) (by omega)
  have uo:upOf S (c:Int)=(S.st c).up:=rfl
  have ub:upOf S (w:Int)=(S.st w).up:=rfl
  rw [uo,ub]
  simp only [Int.toNat_natCast]
  by_cases h15:0≤(S.st c).up
  · rw [if_pos h15]
    refine ⟨av,g, ?_,hD,DFr.refl _ _ _ _ _⟩
    have k15:(S.st c).up ≥ 0:=h15
    rw [acall_code T77,run_code rfl rfl]
    simp -implicitDefEqProofs (disch:=omega) only [Rx,simprocAttr,F77,hno,hat1,hat2,hat3,ku0,kw0,hob,ho,hix,rdc,k15]
  rw [if_neg h15]
  have k15:¬ (S.st c).up ≥ 0:=h15
  by_cases h17:underB S (u:Int) (c:Int)=true
  · rw [if_pos h17]
    rw [h17] at un
    refine ⟨av,g, ?_,hD,DFr.refl _ _ _ _ _⟩
    rw [acall_code T77,run_code rfl rfl]
    simp -implicitDefEqProofs (disch:=omega) only [Rx,simprocAttr,F77,hno,hat1,hat2,hat3,ku0,kw0,hob,ho,hix,rdc,k15,un]
  rw [if_neg h17]
  simp only [Bool.not_eq_true] at h17
  rw [h17] at un
  by_cases h18:(w:Int)≠0∧(S.st w).up≠(u:Int)
  · rw [if_pos h18]
    refine ⟨av,g, ?_,hD,DFr.refl _ _ _ _ _⟩
    have e1:((w:Int)==0)=false:=by simpa using h18.1
    have e2:((S.st w).up==(u:Int))=false:=by simpa using h18.2
    rw [acall_code T77,run_code rfl rfl]
    simp -implicitDefEqProofs (disch:=omega) only [Rx,simprocAttr,F77,hno,hat1,hat2,hat3,ku0,kw0,hob,ho,hix,rdc,rdw,k15,un,e1,e2]
  rw [if_neg h18]
  obtain ⟨hcN,hcl⟩:=mem_liveL.1 hcL
  obtain ⟨huN,hul⟩:=mem_liveL.1 huL
  obtain ⟨hwN,hwl⟩:=mem_liveL.1 hwL
  have hbk:(w:Int)=0∨(w:Int) ∈ S.kd u:=by
    by_cases e:(w:Int)=0
    · exact .inl e
    · right
      by_cases e2:(S.st w).up=(u:Int)
      · exact kid_in hS hwN e2
      · exact absurd ⟨e,e2⟩ h18
  have hkl:=kd_len hS huN
  have hK:=hD.kids u huL
  have hks:=inL_insI (h:=(c:Int)) (hS.nodup u huN) (zero_kid hS huN) hbk
  have hin:=in_run (S.kd u) (c:Int) (w:Int) (by omega) [] (n:=n+2) (by omega)
  rw [hks] at hin
  have hD1:=hD.core.kill (hD.away u huL).1 (hD.away u huL).2
  obtain ⟨o1,hk1,hr1⟩:=kidsF_run hD1 hL huL (intsPV (insI (S.kd u) (c:Int) (w:Int))) (n:=n+1) (by omega)
  have hD2:=hD.fix huL (insI (S.kd u) (c:Int) (w:Int)) hr1
  have hF2:=DFr.fix hD huL (intsPV (insI (S.kd u) (c:Int) (w:Int))) o1
  generalize hg2:(killG g (av u)).set q o1=g2 at hk1 hD2 hF2
  generalize hav2:upd av u (.p (.list (intsPV (insI (S.kd u) (c:Int) (w:Int)))))=av2 at hD2 hF2
  obtain ⟨o2,ho2,hrep2⟩:=hD2.core.row
  have hob2:=hD2.core.obj
  have hix2:=fun s i=>hrep2.idx rowsD_len s true q i
  have hat4:=at_run hD2.core hL (c:Int) (n:=n+2) (by omega)
  rw [hpc] at hat4
  obtain ⟨o3,hw3,hr3⟩:=wr_node hrep2 hic (j:=1) (by omega) (.p (.int .i64 u))
  have e3:(rowsD (liveL S) S.st av2).set ic ((nAV c (S.st c) (av2 c)).set 1 (.p (.int .i64 u)))=rowsD (liveL S) (upd S.st c { S.st c with up:=(u:Int) }) av2:=by
    rw [← rows_node hD.core.nodup hic];rfl
  rw [e3] at hr3
  have hD3:=hD2.node _ hr3
  have hF3:=hF2.trans (DFr.node (L:=liveL S) (av:=av2) (p:=p) (q:=q) (g:=g2) o3)
  have hlive:liveL (placeM S c u (w:Int))=liveL S:=liveL_congr rfl (fun k=>by
    simp only [placeM]
    by_cases e:k=c
    · subst e;rw [upd_at]
    · rw [upd_ne e])
  refine ⟨av2,g2.set q o3, ?_,by rw [hlive];exact hD3,by rw [hlive];exact hF3⟩
  have rdu:=rd_node hrep hiu (j:=2) (by omega)
  simp only [nAV] at rdu
  generalize insI (S.kd u) (c:Int) (w:Int)=ks' at hin hk1
  have kl:=intsPV_len (S.kd u)
  have hfz:=hK.frz
  generalize killG g (av u)=g1 at hk1 hfz
  generalize av u=au at rdu hfz
  rw [acall_code T77,run_code rfl rfl]
  by_cases e:(w:Int)=0
  · have e1:((w:Int)==0)=true:=by simpa using e
    simp -implicitDefEqProofs (disch:=omega) only [Rx,simprocAttr,F77,hno,hat1,hat2,hat3,hat4,ku0,kw0,hob,ho,hix,rdc,rdu,k15,un,e1,hin,hk1,hob2,ho2,hix2,hw3,hfz]
  · have e1:((w:Int)==0)=false:=by simpa using e
    have e2:((S.st w).up==(u:Int))=true:=by
      by_cases e2:(S.st w).up=(u:Int)
      · simpa using e2
      · exact absurd ⟨e,e2⟩ h18
    simp -implicitDefEqProofs (disch:=omega) only [Rx,simprocAttr,F77,hno,hat1,hat2,hat3,hat4,ku0,kw0,hob,ho,hix,rdc,rdw,rdu,k15,un,e1,e2,hin,hk1,hob2,ho2,hix2,hw3,hfz]
end
end Tryz
end Go.TA


end
section
/- The document's answer: a node is put elsewhere below the same one. -/
namespace Go.TA.Tryz
section
variable {R:Nat} {S:MS} {nx:Int} {av:Nat→AV} {p q:Nat} {g:List AObj}
theorem moveD_run (hS : S.Ok R) (hD : DM (liveL S) S.st S.kd nx av p q g) (hL : (liveL S).length ≤ 4194304) (id b : Int) {n : Nat} (hn : (liveL S).length < n) :
    ∃ av' g',acall T (n+4) 139 [DP p,.p (.int .i64 id),.p (.int .i64 b)] g=some (.p (.int .i64 (moveD S id b).1),g')∧DM (liveL (moveD S id b).2) (moveD S id b).2.st (moveD S id b).2.kd nx av' p q g'∧DFr (liveL S) av p q g (liveL (moveD S id b).2) av' q g':=by
  obtain ⟨o,ho,hrep⟩:=hD.core.row
  have hob:=hD.core.obj
  have hix:=fun s i=>hrep.idx rowsD_len s true q i
  have hno:=noneD_run hD.core hL id (n:=n+1) (by omega)
  have hat:=fun id=>at_run hD.core hL id (n:=n+2) (by omega)
  unfold moveD
  by_cases hf:fitE S id≠0
  · rw [if_pos hf]
    have e1:(fitE S id==0)=false:=by simpa using hf
    refine ⟨av,g, ?_,hD,DFr.refl _ _ _ _ _⟩
    rw [acall_code T139,run_code rfl rfl]
    generalize fitE S id=e at hno e1 ⊢
    simp -implicitDefEqProofs (disch:=omega) only [Rx,simprocAttr,F139,hno,e1]
  rw [if_neg hf]
  obtain ⟨c,rfl,hcL,hc0⟩:=fit_live hf
  simp only [ne_eq,Decidable.not_not] at hf
  rw [hf] at hno
  have hat3:=hat b
  by_cases hl:liveB S b=false
  · rw [if_pos hl]
    refine ⟨av,g, ?_,hD,DFr.refl _ _ _ _ _⟩
    rw [posL_dead hl] at hat3
    rw [acall_code T139,run_code rfl rfl]
    simp -implicitDefEqProofs (disch:=omega) only [Rx,simprocAttr,F139,hno,hat3]
  rw [if_neg hl]
  simp only [Bool.not_eq_false] at hl
  obtain ⟨w,rfl,hwL⟩:=live_liveL hl
  obtain ⟨ic,hpc,hic⟩:=posL_in hcL
  obtain ⟨iw,hpw,hiw⟩:=posL_in hwL
  have hat1:=hat (c:Int)
  rw [hpc] at hat1
  rw [hpw] at hat3
  have lc:=(List.getElem?_eq_some_iff.1 hic).1
  have lw:=(List.getElem?_eq_some_iff.1 hiw).1
  have kc:(ic:Int)<((liveL S).length:Int):=by omega
  have kw:(iw:Int)<((liveL S).length:Int):=by omega
  have kw0:¬ (iw:Int)<0:=by omega
  have rdc:=rd_node hrep hic (j:=1) (by omega)
  have rdw:=rd_node hrep hiw (j:=1) (by omega)
  simp only [nAV] at rdc rdw
  have uo:upOf S (c:Int)=(S.st c).up:=rfl
  have ub:upOf S (w:Int)=(S.st w).up:=rfl
  rw [uo,ub]
  simp only [Int.toNat_natCast]
  obtain ⟨hcN,hcl⟩:=mem_liveL.1 hcL
  obtain ⟨hwN,hwl⟩:=mem_liveL.1 hwL
  by_cases h16:(S.st c).up<0
  · rw [if_pos h16]
    refine ⟨av,g, ?_,hD,DFr.refl _ _ _ _ _⟩
    rw [acall_code T139,run_code rfl rfl]
    simp -implicitDefEqProofs (disch:=omega) only [Rx,simprocAttr,F139,hno,hat1,hat3,kw0,hob,ho,hix,rdc,h16]
  rw [if_neg h16]
  obtain ⟨u,hu,huN,hul,hkid⟩:=hS.up_nat hcN (by omega)
  rw [hu] at h16 rdc ⊢
  by_cases e0:(w:Int)=(c:Int)
  · rw [if_pos (.inl e0)]
    have q1:((w:Int)==(c:Int))=true:=by simpa using e0
    refine ⟨av,g, ?_,hD,DFr.refl _ _ _ _ _⟩
    rw [acall_code T139,run_code rfl rfl]
    simp -implicitDefEqProofs (disch:=omega) only [Rx,simprocAttr,F139,hno,hat1,hat3,kw0,hob,ho,hix,rdc,h16,q1]
  have q1:((w:Int)==(c:Int))=false:=by simpa using e0
  by_cases h18:(w:Int)≠0∧(S.st w).up≠(u:Int)
  · rw [if_pos (.inr h18)]
    refine ⟨av,g, ?_,hD,DFr.refl _ _ _ _ _⟩
    have e1:((w:Int)==0)=false:=by simpa using h18.1
    have e2:((S.st w).up==(u:Int))=false:=by simpa using h18.2
    rw [acall_code T139,run_code rfl rfl]
    simp -implicitDefEqProofs (disch:=omega) only [Rx,simprocAttr,F139,hno,hat1,hat3,kw0,hob,ho,hix,rdc,rdw,h16,q1,e1,e2]
  rw [if_neg (fun h=>h.elim e0 h18)]
  simp only [Int.toNat_natCast]
  have huL:u ∈ liveL S:=mem_liveL.2 ⟨huN,hul⟩
  obtain ⟨iu,hpu,hiu⟩:=posL_in huL
  have hat2:=hat (u:Int)
  rw [hpu] at hat2
  have lu:=(List.getElem?_eq_some_iff.1 hiu).1
  have ku:(iu:Int)<((liveL S).length:Int):=by omega
  have hkl:=kd_len hS huN
  have hK:=hD.kids u huL
  generalize hl1:(S.kd u).filter (fun k => !(k==(c:Int)))=l1
  have hl1n:l1.length≤(S.kd u).length:=by rw [← hl1];exact List.length_filter_le _ _
  have hbk:(w:Int)=0∨(w:Int) ∈ l1:=by
    by_cases e:(w:Int)=0
    · exact .inl e
    · right
      by_cases e2:(S.st w).up=(u:Int)
      · rw [← hl1,List.mem_filter]
        exact ⟨kid_in hS hwN e2,by simp;omega⟩
      · exact absurd ⟨e,e2⟩ h18
  have hks:=inL_insI (l:=l1) (h:=(c:Int)) (by rw [← hl1];exact (hS.nodup u huN).filter _) (by rw [← hl1];exact fun h=>zero_kid hS huN (List.mem_filter.1 h).1) hbk
  have hout:=out_run (S.kd u) (c:Int) (by omega) [] (n:=n+2) (by omega)
  rw [hl1] at hout
  have hin:=in_run l1 (c:Int) (w:Int) (by omega) [] (n:=n+2) (by omega)
  rw [hks] at hin
  have hD1:=hD.core.kill (hD.away u huL).1 (hD.away u huL).2
  obtain ⟨o1,hk1,hr1⟩:=kidsF_run hD1 hL huL (intsPV (insI l1 (c:Int) (w:Int))) (n:=n+1) (by omega)
  have hD2:=hD.fix huL (insI l1 (c:Int) (w:Int)) hr1
  have hF2:=DFr.fix hD huL (intsPV (insI l1 (c:Int) (w:Int))) o1
  have htk:takeM S c=⟨S.N,upd S.st c { S.st c with up := -1 },upd S.kd u l1⟩:=by
    unfold takeM
    rw [if_neg (by omega),hu,Int.toNat_natCast,hl1]
  have hlive:liveL (placeM (takeM S c) c u (w:Int))=liveL S:=liveL_congr (by rw [htk];rfl) (fun k=>by
    rw [htk]
    simp only [placeM]
    by_cases e:k=c
    · subst e;rw [upd_at,upd_at]
    · rw [upd_ne e,upd_ne e])
  refine ⟨_,_, ?_,by
    rw [hlive]
    refine hD2.congr fun k hk=>⟨?_, ?_⟩
    · rw [htk]
      simp only [placeM]
      by_cases e:k=c
      · subst e;rw [upd_at,upd_at, ← hu]
      · rw [upd_ne e,upd_ne e]
    · rw [htk]
      simp only [placeM,upd_at]
      by_cases e:k=u
      · subst e;rw [upd_at,upd_at]
      · rw [upd_ne e,upd_ne e,upd_ne e],by rw [hlive];exact hF2⟩
  have rdu:=rd_node hrep hiu (j:=2) (by omega)
  simp only [nAV] at rdu
  generalize insI l1 (c:Int) (w:Int)=ks' at hin hk1
  have hfz:=hK.frz
  generalize killG g (av u)=g1 at hk1 hfz
  generalize av u=au at rdu hfz
  rw [acall_code T139,run_code rfl rfl]
  by_cases e:(w:Int)=0
  · have e1:((w:Int)==0)=true:=by simpa using e
    simp -implicitDefEqProofs (disch:=omega) only [Rx,simprocAttr,F139,hno,hat1,hat2,hat3,kw0,hob,ho,hix,rdc,rdu,h16,q1,e1,hout,hin,hk1,hfz]
  · have e1:((w:Int)==0)=false:=by simpa using e
    have e2:((S.st w).up==(u:Int))=true:=by
      by_cases e2:(S.st w).up=(u:Int)
      · simpa using e2
      · exact absurd ⟨e,e2⟩ h18
    simp -implicitDefEqProofs (disch:=omega) only [Rx,simprocAttr,F139,hno,hat1,hat2,hat3,kw0,hob,ho,hix,rdc,rdw,rdu,h16,q1,e1,e2,hout,hin,hk1,hfz]
end
end Go.TA.Tryz


end
