/- Part 14 of 15 of a proof; joined from IrnRRem, IrnRWith, IrnRSet, IrnRMake, IrnRDo, IrnRNew20, IrnRTb, IrnRBld, IrnIRun, IrnFew, IrnRRun29. A script with a table, and the nodes of rows: the document's answer. -/
import Derived.Test.YtbgbmdjfogohnaaGreatDoorIr1
import Derived.Test.YtbgbmdjfogohnaaGreatDoorIr13
import Derived.Test.YtbgbmdjfogohnaaGreatDoorIr12
import Derived.Test.YtbgbmdjfogohnaaGreatDoorIr7
import Derived.Test.YtbgbmdjfogohnaaGreatDoorIr11
import Derived.Test.YtbgbmdjfogohnaaGreatDoorIr6
import Derived.Test.YtbgbmdjfogohnaaGreatDoorIr10
set_option linter.unusedSimpArgs false
set_option linter.unusedVariables false
set_option linter.defProp false
set_option maxRecDepth 100000
set_option maxHeartbeats 8000000
section
/- The document's answer: a node ends, and all below it. -/
namespace Go.TA
theorem DM.swap {L L':List Nat} {st:Nat→MNode} {kd:Nat→List Int} {nx:Int} {av:Nat→AV} {p q:Nat} {g:List AObj} (h:DM L st kd nx av p q g) (hs:∀ k ∈ L',k ∈ L) (hn:L'.Nodup) {o:AObj} (hr:RowRep 7 (rowsD L' st av) o):DM L' st kd nx av p g.length ((g++[o]).set p (.cells 2 [[.own true g.length L'.length,.p (.int .i64 nx)]])):=by
 have hp:=(List.getElem?_eq_some_iff.1 h.core.obj).1
 refine ⟨⟨?_,⟨o, ?_,hr⟩,by omega,hn⟩,fun k hk => ?_,fun k hk => ?_,fun k k' hk hk' hne=>h.disj k k' (hs k hk) (hs k' hk') hne⟩
 ·rw [List.getElem?_set,if_pos rfl,if_pos (by rw [List.length_append];omega)]
 ·rw [List.getElem?_set,if_neg (by omega)];simp
 ·refine (h.kids k (hs k hk)).keep fun r hr => ?_
  have:=(h.kids k (hs k hk)).ref_lt hr
  rw [List.getElem?_set,if_neg (fun e=>(h.away k (hs k hk)).1 (by rw [e];exact hr)),List.getElem?_append_left this]
 ·refine ⟨(h.away k (hs k hk)).1,fun hr => ?_⟩
  have:=(h.kids k (hs k hk)).ref_lt hr
  omega
theorem DFr.swap {L L':List Nat} {av:Nat→AV} {p q:Nat} {g:List AObj} (hs:∀ k ∈ L',k ∈ L) (o o':AObj):DFr L av p q g L' av g.length ((g++[o]).set p o') where
 len:=by simp
 keep j hj hp hq hn:=by rw [List.getElem?_set,if_neg (fun e=>hp e.symm),List.getElem?_append_left hj]
 row:=.inr (Nat.le_refl _)
 refs k hk j hj _:=⟨k,hs k hk,hj⟩
namespace Tryz
section
variable {R:Nat} {S:MS} {nx:Int} {av:Nat→AV} {p q:Nat} {g:List AObj}
def remS (p:Nat) (c k n i:Nat) (q1:Nat) (G:List AObj):St:=⟨[(0,DP p),(1,.p (.int .i64 c)),(7,.own true q1 k),(46,.p (.int .i64 n)),(47,.p (.int .i64 i))],[],G⟩
theorem rem_loop (hS : S.Ok R) (hD : DC (liveL S) S.st nx av p q g) (hL : (liveL S).length ≤ 4194304) (hno : ∀ h, h ∈ liveL S → noLocal (av h) = true) (c : Nat) {n : Nat} (hn : (liveL S).length < n) (hR : R + 3 < n) (N : Nat) (hN : (liveL S).length < N) :
    ∃ o,aexec (acall T (n+2)) N (.loop B140x0) (remS p c 0 (liveL S).length 0 g.length (g++[.pcells 7 []]))=some (.exit 0,⟨[(0,DP p),(7,.own true g.length ((liveL S).filter fun h:Nat => !(underB S (h:Int) (c:Int))).length)],[],g++[o]⟩)∧RowRep 7 (rowsD ((liveL S).filter fun h:Nat => !(underB S (h:Int) (c:Int))) S.st av) o:=by
  generalize hP:(fun h:Nat => !(underB S (h:Int) (c:Int)))=P
  have key:=loop_inv (C:=acall T (n+2)) (N:=N) (B:=B140x0) (σ := Nat × AObj) (S:=fun s=>remS p c (((liveL S).take s.1).filter P).length (liveL S).length s.1 g.length (g++[s.2]))
    (I:=fun s=>s.1≤(liveL S).length∧RowRep 7 (rowsD (((liveL S).take s.1).filter P) S.st av) s.2) (μ := fun s=>(liveL S).length - s.1) (Q:=fun r=>∃ o,r=(.exit 0,⟨[(0,DP p),(7,.own true g.length ((liveL S).filter P).length)],[],g++[o]⟩)∧RowRep 7 (rowsD ((liveL S).filter P) S.st av) o) ?_ (0,.pcells 7 []) ⟨by simp,RowRep.nil 7⟩ (by simp only;omega)
  · obtain ⟨r,hr,o,rfl,hro⟩:=key
    exact ⟨o,by simpa using hr,hro⟩
  rintro ⟨i,oi⟩ ⟨h1,h2⟩
  simp only at h1 h2 ⊢
  by_cases hi:i<(liveL S).length
  · left
    obtain ⟨h,hh⟩:=get_some hi
    have hhL:=List.mem_of_getElem? hh
    have hDi:=hD.more [oi]
    obtain ⟨o,ho,hrep⟩:=hDi.row
    have hob:=hDi.obj
    have hix:=fun s i=>hrep.idx rowsD_len s true q i
    have rd0:=rd_node hrep hh (j:=0) (by omega)
    have rdA:=hrep.rdA rowsD_len hi (rowsD_get hh) rfl
    have un:=underD_run hS hDi hL c h hhL (n:=n) hn hR
    have k1:(i:Int)<((liveL S).length:Int):=by omega
    have hs:((liveL S).take (i+1)).filter P=((liveL S).take i).filter P++if P h=true then [h] else []:=by
      rw [List.take_add_one,hh,List.filter_append]
      simp [List.filter_cons]
    have hlen:(((liveL S).take i).filter P).length≤4194304:=by
      have h3:=List.length_filter_le P ((liveL S).take i)
      rw [List.length_take] at h3
      omega
    cases hb:underB S (h:Int) (c:Int) with
    | true =>
      have hPh:P h=false:=by rw [← hP];simp [hb]
      rw [hPh] at hs
      simp only [Bool.false_eq_true,if_false,List.append_nil] at hs
      rw [hb] at un
      refine ⟨(i+1,oi), ?_,⟨by simp only;omega,by simp only [hs];exact h2⟩,by simp only;omega⟩
      simp only [hs,remS]
      simp only [nAV] at rd0
      generalize g++[oi]=G at hob ho un
      simp -implicitDefEqProofs (disch:=omega) only [Rx,simprocAttr,B140x0,k1,hob,ho,hix,rd0,un]
    | false =>
      have hPh:P h=true:=by rw [← hP];simp [hb]
      rw [hPh,if_pos rfl] at hs
      rw [hb] at un
      have hnl:noLocals (nAV h (S.st h) (av h))=true:=by simp [nAV,noLocals,noLocal,hno h hhL]
      obtain ⟨o',happ,hro'⟩:=h2.app (bytes:=112) rowsD_len (by omega) (c:=nAV h (S.st h) (av h)) rfl hnl
      have hpush:rowsD (((liveL S).take i).filter P) S.st av++[nAV h (S.st h) (av h)]=rowsD (((liveL S).take (i+1)).filter P) S.st av:=by
        rw [hs];simp [rowsD]
      rw [hpush] at hro'
      refine ⟨(i+1,o'), ?_,⟨by simp only;omega,hro'⟩,by simp only;omega⟩
      have hsl:(((liveL S).take (i+1)).filter P).length=(((liveL S).take i).filter P).length+1:=by rw [hs,List.length_append];rfl
      have hcv:=cells_ofCells (nAV h (S.st h) (av h))
      have hlast:(g++[oi])[g.length]? = some oi:=by simp
      have hset:(g++[oi]).set g.length o'=g++[o']:=by simp [List.set_append]
      simp only [hsl,remS]
      simp only [nAV] at rd0 rdA hcv happ
      generalize ofCells [.p (.int .i64 (h:Int)),.p (.int .i64 (S.st h).up),av h,.p (.str (S.st h).tag),.p (.str (S.st h).key),.p (.str (S.st h).text),.p (.list ((S.st h).attrs.map Attr.pv))]=v at rdA hcv
      generalize g++[o']=G' at hset
      generalize g++[oi]=G at hob ho un hlast hset
      simp -implicitDefEqProofs (disch:=omega) only [Rx,simprocAttr,B140x0,k1,hob,ho,hix,rd0,rdA,un,hcv,happ,hlast,hset]
  · right
    obtain rfl:i=(liveL S).length:=by omega
    have k1:¬ ((liveL S).length:Int)<((liveL S).length:Int):=by omega
    rw [List.take_length] at h2
    refine ⟨_, ?_, ?_,oi,rfl,h2⟩
    · simp only [List.take_length,remS]
      simp -implicitDefEqProofs (disch:=omega) only [Rx,simprocAttr,B140x0,k1]
    · simp
theorem removeD_run (hS:S.Ok R) (hD:DM (liveL S) S.st S.kd nx av p q g) (hL:(liveL S).length≤4194304) (id:Int) {n:Nat} (hn:(liveL S).length<n) (hR:R+3<n) :
  ∃ av' q' g',acall T (n+4) 140 [DP p,.p (.int .i64 id)] g=some (.p (.int .i64 (removeD S id).1),g')∧DM (liveL (removeD S id).2) (removeD S id).2.st (removeD S id).2.kd nx av' p q' g'∧DFr (liveL S) av p q g (liveL (removeD S id).2) av' q' g':=by
 obtain ⟨o,ho,hrep⟩:=hD.core.row
 have hob:=hD.core.obj
 have hix:=fun s i=>hrep.idx rowsD_len s true q i
 have hno:=noneD_run hD.core hL id (n:=n+1) (by omega)
 have hat:=fun id=>at_run hD.core hL id (n:=n+2) (by omega)
 unfold removeD
 by_cases hf:fitE S id≠0
 ·rw [if_pos hf]
  have e1:(fitE S id==0)=false:=by simpa using hf
  refine ⟨av,q,g, ?_,hD,DFr.refl _ _ _ _ _⟩
  rw [acall_code T140,run_code rfl rfl]
  generalize fitE S id=e at hno e1 ⊢
  simp -implicitDefEqProofs (disch:=omega) only [Rx,simprocAttr,F140,hno,e1]
 rw [if_neg hf]
 obtain ⟨c,rfl,hcL,hc0⟩:=fit_live hf
 simp only [ne_eq,Decidable.not_not] at hf
 rw [hf] at hno
 obtain ⟨ic,hpc,hic⟩:=posL_in hcL
 have hat1:=hat (c:Int)
 rw [hpc] at hat1
 have lc:=(List.getElem?_eq_some_iff.1 hic).1
 have kc:(ic:Int)<((liveL S).length:Int):=by omega
 have rdc:=rd_node hrep hic (j:=1) (by omega)
 simp only [nAV] at rdc
 obtain ⟨hcN,hcl⟩:=mem_liveL.1 hcL
 simp only [Int.toNat_natCast]
 have hfil:∀ k ∈ (liveL S).filter fun h:Nat => !(underB S (h:Int) (c:Int)),k ∈ liveL S:=fun k hk=>(List.mem_filter.1 hk).1
 have hfn:((liveL S).filter fun h:Nat => !(underB S (h:Int) (c:Int))).Nodup:=(liveL_nodup S).filter _
 have hle:=liveL_end (S:=S) hc0
 have hke:=end_kept (S:=S) hc0
 by_cases h16:(S.st c).up<0
 ·have htk:takeM S c=S:=by unfold takeM;rw [if_pos h16]
  obtain ⟨oe,hloop,hro⟩:=rem_loop hS hD.core hL (fun h hh=>(hD.kids h hh).noLocal) c (n:=n+1) (by omega) (by omega) (n+3) (by omega)
  have hDs:=hD.swap hfil hfn hro
  have hFs:=DFr.swap (L:=liveL S) (av:=av) (p:=p) (q:=q) (g:=g) hfil oe (.cells 2 [[.own true g.length ((liveL S).filter fun h:Nat => !(underB S (h:Int) (c:Int))).length,.p (.int .i64 nx)]])
  refine ⟨av,g.length,_, ?_,by rw [hle];exact hDs.congr fun k hk=>by rw [← (hke k hk).1, ← (hke k hk).2,htk];exact ⟨rfl,rfl⟩,by rw [hle];exact hFs⟩
  have k16:¬ (S.st c).up ≥ 0:=by omega
  have hob2:=(hD.core.more [oe]).obj
  have hob3:=(hD.core.more [.pcells 7 []]).obj
  simp only [remS,Int.natCast_zero] at hloop
  generalize ((liveL S).filter fun h:Nat => !(underB S (h:Int) (c:Int))).length=k at hloop
  rw [acall_code T140,run_code rfl rfl]
  simp -implicitDefEqProofs (disch:=omega) only [Rx,simprocAttr,F140,hno,hat1,hob,ho,hix,rdc,k16,hloop,hob2,hob3]
 ·obtain ⟨u,hu,huN,hul,hkid⟩:=hS.up_nat hcN (by omega)
  have huL:u ∈ liveL S:=mem_liveL.2 ⟨huN,hul⟩
  obtain ⟨iu,hpu,hiu⟩:=posL_in huL
  have hat2:=hat (u:Int)
  rw [hpu] at hat2
  have lu:=(List.getElem?_eq_some_iff.1 hiu).1
  have ku:(iu:Int)<((liveL S).length:Int):=by omega
  have hkl:=kd_len hS huN
  have hK:=hD.kids u huL
  have hout:=out_run (S.kd u) (c:Int) (by omega) [] (n:=n+2) (by omega)
  generalize hl1:(S.kd u).filter (fun k => !(k==(c:Int)))=l1 at hout
  have hD1:=hD.core.kill (hD.away u huL).1 (hD.away u huL).2
  obtain ⟨o1,hk1,hr1⟩:=kidsF_run hD1 hL huL (intsPV l1) (n:=n+1) (by omega)
  have hD2:=hD.fix huL l1 hr1
  have hF2:=DFr.fix hD huL (intsPV l1) o1
  generalize hav2:upd av u (.p (.list (intsPV l1)))=av2 at hD2 hF2
  generalize hg2:(killG g (av u)).set q o1=g2 at hk1 hD2 hF2
  have htk:(takeM S c).kd=upd S.kd u l1:=by
   unfold takeM
   rw [if_neg h16,hu,Int.toNat_natCast,hl1]
  obtain ⟨oe,hloop,hro⟩:=rem_loop hS hD2.core hL (fun h hh=>(hD2.kids h hh).noLocal) c (n:=n+1) (by omega) (by omega) (n+3) (by omega)
  have hDs:=hD2.swap hfil hfn hro
  have hFs:=hF2.trans (DFr.swap (L:=liveL S) (av:=av2) (p:=p) (q:=q) (g:=g2) hfil oe (.cells 2 [[.own true g2.length ((liveL S).filter fun h:Nat => !(underB S (h:Int) (c:Int))).length,.p (.int .i64 nx)]]))
  refine ⟨av2,g2.length,_, ?_,by rw [hle];exact hDs.congr fun k hk=>by rw [← (hke k hk).1, ← (hke k hk).2,htk];exact ⟨rfl,rfl⟩,by rw [hle];exact hFs⟩
  have k16:(u:Int) ≥ 0:=by omega
  rw [hu] at rdc
  have rdu:=rd_node hrep hiu (j:=2) (by omega)
  simp only [nAV] at rdu
  have hob2:=(hD2.core.more [oe]).obj
  have hob3:=(hD2.core.more [.pcells 7 []]).obj
  have hfz:=hK.frz
  generalize killG g (av u)=g1 at hk1 hfz
  generalize av u=au at rdu hfz
  simp only [remS,Int.natCast_zero] at hloop
  generalize ((liveL S).filter fun h:Nat => !(underB S (h:Int) (c:Int))).length=k at hloop
  rw [acall_code T140,run_code rfl rfl]
  simp -implicitDefEqProofs (disch:=omega) only [Rx,simprocAttr,F140,hno,hat1,hat2,hob,ho,hix,rdc,rdu,k16,hout,hk1,hfz,hloop,hob2,hob3]
end
end Tryz
end Go.TA


end
section
/- Attributes with one more, or without one: the document's answer. -/
namespace Go.TA
def findA (l:List Attr) (name:Bs):Int:=if fstAt l name<l.length then (fstAt l name:Int) else -1
theorem fstAt_hit {l:List Attr} {name:Bs} {i:Nat} {a:Attr} (ha:l[i]? = some a) (h:i=fstAt l name):a.name=name:=by
 obtain ⟨hi,e⟩:=List.getElem?_eq_some_iff.1 ha
 have:=List.findIdx_getElem (xs:=l) (p:=fun a=>a.name==name) (w:=by unfold fstAt at h;omega)
 unfold fstAt at h
 simp only [← h,e] at this
 simpa using this
theorem fstAt_miss {l:List Attr} {name:Bs} {i:Nat} {a:Attr} (ha:l[i]? = some a) (h:i<fstAt l name):a.name≠name:=by
 obtain ⟨hi,e⟩:=List.getElem?_eq_some_iff.1 ha
 have:=List.not_of_lt_findIdx (xs:=l) (p:=fun a:Attr=>a.name==name) (i:=i) (by unfold fstAt at h;exact h)
 rw [e] at this
 simpa using this
theorem take_snoc {α : Type} {l:List α} {i:Nat} {a : α} (h:l[i]? = some a):l.take (i+1)=l.take i++[a]:=by
 rw [List.take_add_one,h];rfl
namespace Tryz
theorem find09_run (l : List Attr) (name : Bs) (hl : l.length ≤ 1048577) (g : List AObj) {n : Nat} (hn : l.length < n) :
    acall T (n+1) 193 [.p (.list (l.map Attr.pv)),.p (.str name)] g=some (.p (.int .i64 (findA l name)),g):=by
  have ll:(l.map Attr.pv).length=l.length:=by simp
  have key:=loop_inv (C:=acall T n) (N:=n) (B:=B193x0) (σ := Nat) (S:=fun i=>⟨[(0,.p (.list (l.map Attr.pv))),(1,.p (.str name)),(7,.p (.int .i64 l.length)),(8,.p (.int .i64 i))],[],[]⟩)
    (I:=fun i=>i≤l.length∧i≤fstAt l name) (μ := fun i=>l.length - i) (Q:=fun r=>r=if fstAt l name<l.length then (.ret,⟨[(4,.p (.int .i64 (fstAt l name)))],[],[]⟩) else (.exit 0,⟨[],[],[]⟩)) ?_ 0 ⟨by omega,by omega⟩ (by omega)
  · obtain ⟨r,hq,rfl⟩:=key
    simp only [Int.natCast_zero] at hq
    unfold findA
    rw [acall_code T193,run_pure rfl rfl rfl]
    by_cases hc:fstAt l name<l.length
    · rw [if_pos hc] at hq ⊢
      simp -implicitDefEqProofs (disch:=omega) only [Rx,simprocAttr,F193,hq,ll]
    · rw [if_neg hc] at hq ⊢
      simp -implicitDefEqProofs (disch:=omega) only [Rx,simprocAttr,F193,hq,ll]
  rintro i ⟨h1,h2⟩
  by_cases hi:i<l.length
  · have k1:(i:Int)<(l.length:Int):=by omega
    obtain ⟨a,ha⟩:=get_some hi
    have hg:=getD_map (f:=Attr.pv) ha
    by_cases e:i=fstAt l name
    · right
      have hp:(a.name==name)=true:=by simpa using fstAt_hit ha e
      refine ⟨_, ?_, ?_,rfl⟩
      · rw [if_pos (by omega), ← e]
        simp -implicitDefEqProofs (disch:=omega) only [Rx,simprocAttr,B193x0,k1,hg,ll,Attr.pv,hp]
      · rw [if_pos (by omega)];simp
    · left
      have hp:(a.name==name)=false:=by simpa using fstAt_miss ha (by omega)
      refine ⟨i+1, ?_,⟨by omega,by omega⟩,by omega⟩
      simp -implicitDefEqProofs (disch:=omega) only [Rx,simprocAttr,B193x0,k1,hg,ll,Attr.pv,hp]
  · right
    obtain rfl:i=l.length:=by omega
    have k1:¬ (l.length:Int)<(l.length:Int):=by omega
    refine ⟨_, ?_, ?_,rfl⟩
    · rw [if_neg (by omega)]
      simp -implicitDefEqProofs (disch:=omega) only [Rx,simprocAttr,B193x0,k1]
    · rw [if_neg (by omega)];simp
theorem without09_run (l:List Attr) (name:Bs) (hl:l.length≤1048577) (g:List AObj) {n:Nat} (hn:l.length<n) :
  acall T (n+1) 178 [.p (.list (l.map Attr.pv)),.p (.str name)] g=some (.tuple [.p (.list ((withoutA l name).map Attr.pv)),.p (.bool (decide ((withoutA l name).length<l.length)))],g):=by
 have ll:(l.map Attr.pv).length=l.length:=by simp
 unfold withoutA
 have hlen:∀ i,((l.take i).filter (notN name)).length≤l.length:=fun i=>by
  have:=List.length_filter_le (notN name) (l.take i)
  have h2:(l.take i).length≤l.length:=by rw [List.length_take];omega
  omega
 have key:=loop_inv (C:=acall T n) (N:=n) (B:=B178x0) (σ := Nat) (S:=fun i=>⟨[(0,.p (.list (l.map Attr.pv))),(1,.p (.str name)),(6,.own false 1000 ((l.take i).filter (notN name)).length),(9,.p (.int .i64 l.length)),(10,.p (.int .i64 i))],[(1000,.pcells 2 (((l.take i).filter (notN name)).map Attr.pv))],[]⟩)
  (I:=fun i=>i≤l.length) (μ := fun i=>l.length - i) (Q:=fun r=>r=(.exit 0,⟨[(0,.p (.list (l.map Attr.pv))),(6,.own false 1000 (l.filter (notN name)).length)],[(1000,.pcells 2 ((l.filter (notN name)).map Attr.pv))],[]⟩)) ?_ 0 (by omega) (by omega)
 ·obtain ⟨r,hq,rfl⟩:=key
  simp only [List.take_zero,List.filter_nil,List.length_nil,List.map_nil,Int.natCast_zero] at hq
  have hll:=hlen l.length
  rw [List.take_length] at hll
  generalize l.filter (notN name)=acc at hq hll
  have la:(acc.map Attr.pv).length=acc.length:=by simp
  rw [acall_code T178,run_pure rfl rfl rfl]
  by_cases hc:acc.length<l.length
  ·have k1:(acc.length:Int)<(l.length:Int):=by omega
   have ed:decide (acc.length<l.length)=true:=by simpa using hc
   simp -implicitDefEqProofs (disch:=omega) only [Rx,simprocAttr,F178,hq,ll,la,k1,ed]
  ·have k1:¬ (acc.length:Int)<(l.length:Int):=by omega
   have ed:decide (acc.length<l.length)=false:=by simpa using hc
   simp -implicitDefEqProofs (disch:=omega) only [Rx,simprocAttr,F178,hq,ll,la,k1,ed]
 intro i h1
 by_cases hi:i<l.length
 ·left
  have k1:(i:Int)<(l.length:Int):=by omega
  obtain ⟨a,ha⟩:=get_some hi
  have hg:=getD_map (f:=Attr.pv) ha
  have hs:(l.take (i+1)).filter (notN name)=(l.take i).filter (notN name)++if notN name a=true then [a] else []:=by
   rw [take_snoc ha,List.filter_append]
   simp [List.filter_cons]
  have hll:=hlen i
  refine ⟨i+1, ?_,by omega,by omega⟩
  rw [hs]
  generalize (l.take i).filter (notN name)=acc at hll
  have la:(acc.map Attr.pv).length=acc.length:=by simp
  by_cases e:a.name=name
  ·have e1:(a.name==name)=true:=by simpa using e
   have hfx:notN name a=false:=by simp [notN,e]
   rw [hfx]
   simp only [Bool.false_eq_true,if_false,List.append_nil]
   simp -implicitDefEqProofs (disch:=omega) only [Rx,simprocAttr,B178x0,k1,hg,ll,Attr.pv,e1]
  ·have e1:(a.name==name)=false:=by simpa using e
   have hfx:notN name a=true:=by simp [notN,e]
   rw [hfx,if_pos rfl]
   have os1:acc.map Attr.pv++[[.str a.name,.str a.value]]=(acc++[a]).map Attr.pv:=by simp [Attr.pv]
   have ol1:((acc++[a]).map Attr.pv).length=acc.length+1:=by simp
   have ol3:(acc++[a]).length=acc.length+1:=by simp
   rw [ol3]
   generalize acc++[a]=acc1 at os1 ol1
   simp -implicitDefEqProofs (disch:=omega) only [Rx,simprocAttr,B178x0,k1,hg,ll,la,Attr.pv,e1,os1,ol1]
 ·right
  obtain rfl:i=l.length:=by omega
  have k1:¬ (l.length:Int)<(l.length:Int):=by omega
  refine ⟨_, ?_, ?_,rfl⟩
  ·rw [List.take_length]
   simp -implicitDefEqProofs (disch:=omega) only [Rx,simprocAttr,B178x0,k1]
  ·simp
def leAt (l:List Attr) (name:Bs):Nat:=l.findIdx (fun a=>decide (0<cmpB a.name name))
theorem le_loop (l : List Attr) (name v : Bs) (at' : Int) (hl : l.length ≤ 1048577) (hnl : name.length ≤ 1048577) {n : Nat} (hn : name.length < n) (N : Nat) (hN : l.length < N) :
    aexec (acall T (n+1)) N (.loop B177x0) ⟨[(0,.p (.list (l.map Attr.pv))),(1,.p (.str name)),(2,.p (.str v)),(7,.p (.int .i64 at')),(8,.p (.int .i64 ((0:Nat):Int)))],[],[]⟩=some (.exit 0,⟨[(0,.p (.list (l.map Attr.pv))),(1,.p (.str name)),(2,.p (.str v)),(7,.p (.int .i64 at')),(8,.p (.int .i64 (leAt l name)))],[],[]⟩):=by
  have ll:(l.map Attr.pv).length=l.length:=by simp
  have hle:leAt l name≤l.length:=List.findIdx_le_length
  refine loop_rule' (C:=acall T (n+1)) (N:=N) (B:=B177x0) (σ := Nat) (S:=fun i=>⟨[(0,.p (.list (l.map Attr.pv))),(1,.p (.str name)),(2,.p (.str v)),(7,.p (.int .i64 at')),(8,.p (.int .i64 i))],[],[]⟩) (I:=fun i=>i≤leAt l name) (μ := fun i=>l.length - i) (Φ := fun i=>(.exit 0,⟨[(0,.p (.list (l.map Attr.pv))),(1,.p (.str name)),(2,.p (.str v)),(7,.p (.int .i64 at')),(8,.p (.int .i64 (leAt l name)))],[],[]⟩)) ?_ 0 (by omega) (by omega)
  intro i hi
  by_cases h1:i<l.length
  · have k1:(i:Int)<(l.length:Int):=by omega
    obtain ⟨a,ha⟩:=get_some h1
    have hg:=getD_map (f:=Attr.pv) ha
    obtain ⟨_,ea⟩:=List.getElem?_eq_some_iff.1 ha
    have hc:=cmp_run (n:=n) a.name name [] hn hnl
    by_cases e:i=leAt l name
    · right
      have hp:¬ cmpB a.name name≤0:=by
        have:=List.findIdx_getElem (xs:=l) (p:=fun a=>decide (0<cmpB a.name name)) (w:=by unfold leAt at e;omega)
        unfold leAt at e
        simp only [← e,ea] at this
        simp only [decide_eq_true_eq] at this
        omega
      refine ⟨?_,by simp⟩
      rw [← e]
      simp -implicitDefEqProofs (disch:=omega) only [Rx,simprocAttr,B177x0,k1,hg,ll,Attr.pv,hc,hp]
    · left
      have hp:cmpB a.name name≤0:=by
        have:=List.not_of_lt_findIdx (xs:=l) (p:=fun a=>decide (0<cmpB a.name name)) (i:=i) (by unfold leAt at e hi;omega)
        rw [ea] at this
        have h2:¬ 0<cmpB a.name name:=by simpa using this
        omega
      refine ⟨i+1, ?_,by omega,by omega,rfl⟩
      simp -implicitDefEqProofs (disch:=omega) only [Rx,simprocAttr,B177x0,k1,hg,ll,Attr.pv,hc,hp]
  · right
    have e:i=leAt l name:=by omega
    have k1:¬ (i:Int)<(l.length:Int):=by omega
    refine ⟨?_,by simp⟩
    rw [← e]
    simp -implicitDefEqProofs (disch:=omega) only [Rx,simprocAttr,B177x0,k1,ll]
theorem leAt_pos {l : List Attr} {name : Bs} (h : ¬ fstAt l name < l.length) : leAt l name = posAt l name := by
  unfold leAt posAt
  have hne:∀ a ∈ l,a.name≠name:=fun a ha e=>h (List.findIdx_lt_length_of_exists ⟨a,ha,by simpa using e⟩)
  clear h
  induction l with
  | nil=>rfl
  | cons a l ih =>
    have h1:=hne a (by simp)
    have h2:=cmpB_less h1
    have h3:(a.name==name)=false:=by simpa using h1
    rw [h3,Bool.or_false] at h2
    have e:decide (0<cmpB a.name name) = !(strLess a.name name):=by
      by_cases hs:strLess a.name name=true
      · rw [hs] at h2
        have h4:¬ 0<cmpB a.name name:=fun h=>by have:=h2.1 h;cases this
        simp [hs,h4]
      · simp only [Bool.not_eq_true] at hs
        simp [hs,h2.2 hs]
    rw [List.findIdx_cons,List.findIdx_cons,e,ih (fun b hb=>hne b (by simp [hb]))]
def withS (l:List Attr) (name v:Bs) (at':Int) (to:Nat) (acc:List Attr) (i:Nat):St:=⟨[(0,.p (.list (l.map Attr.pv))),(1,.p (.str name)),(2,.p (.str v)),(7,.p (.int .i64 at')),(8,.p (.int .i64 to)),(9,.own false 1000 acc.length),(32,.p (.int .i64 l.length)),(33,.p (.int .i64 i))],[(1000,.pcells 2 (acc.map Attr.pv))],[]⟩
def withE (l:List Attr) (name v:Bs) (at':Int) (to:Nat) (acc:List Attr):Ex × St:=(.exit 2,⟨[(0,.p (.list (l.map Attr.pv))),(1,.p (.str name)),(2,.p (.str v)),(7,.p (.int .i64 at')),(8,.p (.int .i64 to)),(9,.own false 1000 acc.length)],[(1000,.pcells 2 (acc.map Attr.pv))],[]⟩)
theorem with_found (l:List Attr) (name v:Bs) (to k:Nat) (hl:l.length≤1048577) (hk:k<l.length) (hkn:∀ a,l[k]? = some a→a.name=name) (C:Calls') (N:Nat) (hN:l.length<N) :
  aexec C N (.loop B177x1) (withS l name v (k:Int) to [] 0)=some (withE l name v (k:Int) to (l.set k ⟨name,v⟩)):=by
 have ll:(l.map Attr.pv).length=l.length:=by simp
 have key:=loop_inv (C:=C) (N:=N) (B:=B177x1) (σ := Nat) (S:=fun i=>withS l name v (k:Int) to ((l.set k ⟨name,v⟩).take i) i) (I:=fun i=>i≤l.length) (μ := fun i=>l.length - i) (Q:=fun r=>r=withE l name v (k:Int) to (l.set k ⟨name,v⟩)) ?_ 0 (by omega) (by omega)
 ·obtain ⟨r,hq,rfl⟩:=key
  simpa using hq
 intro i hi
 by_cases h1:i<l.length
 ·left
  have k1:(i:Int)<(l.length:Int):=by omega
  obtain ⟨a,ha⟩:=get_some h1
  have hg:=getD_map (f:=Attr.pv) ha
  have hw:(l.set k ⟨name,v⟩)[i]? = some (if k=i then ⟨name,v⟩ else a):=by
   rw [List.getElem?_set]
   split
   ·rename_i e;subst e;first | rfl | rw [if_pos h1]
   ·rw [ha]
  have hs:=take_snoc hw
  have hll:((l.set k ⟨name,v⟩).take i).length≤1048577:=by rw [List.length_take,List.length_set];omega
  refine ⟨i+1, ?_,by omega,by omega⟩
  simp only [withS]
  rw [hs]
  generalize (l.set k ⟨name,v⟩).take i=acc at hll
  have la:(acc.map Attr.pv).length=acc.length:=by simp
  have k0:¬ (k:Int)<0:=by omega
  by_cases e:k=i
  ·rw [if_pos e]
   have e1:((i:Int)==(k:Int))=true:=by simp;omega
   have hn:=hkn a (by rw [e];exact ha)
   have os1:acc.map Attr.pv++[[.str name,.str v]]=(acc++[(⟨name,v⟩:Attr)]).map Attr.pv:=by simp [Attr.pv]
   have ol1:((acc++[(⟨name,v⟩:Attr)]).map Attr.pv).length=acc.length+1:=by simp
   have ol3:(acc++[(⟨name,v⟩:Attr)]).length=acc.length+1:=by simp
   rw [ol3]
   generalize acc++[(⟨name,v⟩:Attr)]=acc1 at os1 ol1
   simp -implicitDefEqProofs (disch:=omega) only [Rx,simprocAttr,B177x1,k0,k1,hg,ll,la,Attr.pv,e1,hn,os1,ol1]
  ·rw [if_neg e]
   have e1:((i:Int)==(k:Int))=false:=by simp;omega
   have os1:acc.map Attr.pv++[[.str a.name,.str a.value]]=(acc++[a]).map Attr.pv:=by simp [Attr.pv]
   have ol1:((acc++[a]).map Attr.pv).length=acc.length+1:=by simp
   have ol3:(acc++[a]).length=acc.length+1:=by simp
   rw [ol3]
   generalize acc++[a]=acc1 at os1 ol1
   simp -implicitDefEqProofs (disch:=omega) only [Rx,simprocAttr,B177x1,k0,k1,hg,ll,la,Attr.pv,e1,os1,ol1]
 ·right
  obtain rfl:i=l.length:=by omega
  have k1:¬ (l.length:Int)<(l.length:Int):=by omega
  refine ⟨_, ?_, ?_,rfl⟩
  ·have:(l.set k ⟨name,v⟩).take l.length=l.set k ⟨name,v⟩:=List.take_of_length_le (by simp)
   rw [this]
   simp only [withS,withE]
   simp -implicitDefEqProofs (disch:=omega) only [Rx,simprocAttr,B177x1,k1]
  ·simp [withE]
def putA (l:List Attr) (to:Nat) (a:Attr) (i:Nat):List Attr:=if i≤to then l.take i else l.take to++a::(l.drop to).take (i - to)
theorem with_new (l : List Attr) (name v : Bs) (to : Nat) (hl : l.length ≤ 1048577) (C : Calls') (N : Nat) (hN : l.length < N) :
    aexec C N (.loop B177x1) (withS l name v (-1) to [] 0)=some (withE l name v (-1) to (putA l to ⟨name,v⟩ l.length)):=by
  have ll:(l.map Attr.pv).length=l.length:=by simp
  have key:=loop_inv (C:=C) (N:=N) (B:=B177x1) (σ := Nat) (S:=fun i=>withS l name v (-1) to (putA l to ⟨name,v⟩ i) i) (I:=fun i=>i≤l.length) (μ := fun i=>l.length - i) (Q:=fun r=>r=withE l name v (-1) to (putA l to ⟨name,v⟩ l.length)) ?_ 0 (by omega) (by omega)
  · obtain ⟨r,hq,rfl⟩:=key
    have:putA l to ⟨name,v⟩ 0=[]:=by simp [putA]
    rw [this] at hq
    exact hq
  intro i hi
  by_cases h1:i<l.length
  · left
    have k1:(i:Int)<(l.length:Int):=by omega
    obtain ⟨a,ha⟩:=get_some h1
    have hg:=getD_map (f:=Attr.pv) ha
    have e9:((i:Int) == -1)=false:=by simp <;> omega
    have hll:(putA l to ⟨name,v⟩ i).length≤1048579:=by
      unfold putA
      split
      · rw [List.length_take];omega
      · rw [List.length_append,List.length_cons,List.length_take,List.length_take,List.length_drop];omega
    refine ⟨i+1, ?_,by omega,by omega⟩
    by_cases e:i=to
    · have hs:putA l to ⟨name,v⟩ (i+1)=putA l to ⟨name,v⟩ i++[⟨name,v⟩]++[a]:=by
        subst e
        have hd:l.drop i=a::l.drop (i+1):=by rw [List.drop_eq_getElem?_toList_append,ha];rfl
        simp only [putA,Nat.le_refl,if_true]
        rw [if_neg (by omega),show i+1 - i=1 by omega,hd]
        simp
      have e1:((i:Int)==(to:Int))=true:=by simp;omega
      rw [hs]
      generalize putA l to ⟨name,v⟩ i=acc at hll
      have la:(acc.map Attr.pv).length=acc.length:=by simp
      have os1:acc.map Attr.pv++[[.str name,.str v]]=(acc++[(⟨name,v⟩:Attr)]).map Attr.pv:=by simp [Attr.pv]
      have ol1:((acc++[(⟨name,v⟩:Attr)]).map Attr.pv).length=acc.length+1:=by simp
      have os2:(acc++[(⟨name,v⟩:Attr)]).map Attr.pv++[[.str a.name,.str a.value]]=(acc++[(⟨name,v⟩:Attr)]++[a]).map Attr.pv:=by simp [Attr.pv]
      have ol2:((acc++[(⟨name,v⟩:Attr)]++[a]).map Attr.pv).length=acc.length+1+1:=by simp
      have ol3:(acc++[(⟨name,v⟩:Attr)]++[a]).length=acc.length+1+1:=by simp
      simp only [withS]
      rw [ol3]
      generalize acc++[(⟨name,v⟩:Attr)]++[a]=acc2 at os2 ol2
      generalize acc++[(⟨name,v⟩:Attr)]=acc1 at os1 os2 ol1
      simp -implicitDefEqProofs (disch:=omega) only [Rx,simprocAttr,B177x1,k1,hg,ll,la,Attr.pv,e1,e9,os1,os2,ol1,ol2]
    · have hs:putA l to ⟨name,v⟩ (i+1)=putA l to ⟨name,v⟩ i++[a]:=by
        unfold putA
        by_cases e2:i+1≤to
        · rw [if_pos e2,if_pos (by omega),take_snoc ha]
        · rw [if_neg e2,if_neg (by omega),show i+1 - to=i - to+1 by omega]
          have hd:(l.drop to)[i - to]? = some a:=by rw [List.getElem?_drop,show to+(i - to)=i by omega];exact ha
          rw [take_snoc hd]
          simp
      have e1:((i:Int)==(to:Int))=false:=by simp;omega
      rw [hs]
      generalize putA l to ⟨name,v⟩ i=acc at hll
      have la:(acc.map Attr.pv).length=acc.length:=by simp
      have os1:acc.map Attr.pv++[[.str a.name,.str a.value]]=(acc++[a]).map Attr.pv:=by simp [Attr.pv]
      have ol1:((acc++[a]).map Attr.pv).length=acc.length+1:=by simp
      have ol3:(acc++[a]).length=acc.length+1:=by simp
      simp only [withS]
      rw [ol3]
      generalize acc++[a]=acc1 at os1 ol1
      simp -implicitDefEqProofs (disch:=omega) only [Rx,simprocAttr,B177x1,k1,hg,ll,la,Attr.pv,e1,e9,os1,ol1]
  · right
    obtain rfl:i=l.length:=by omega
    have k1:¬ (l.length:Int)<(l.length:Int):=by omega
    refine ⟨_, ?_, ?_,rfl⟩
    · simp only [withS,withE]
      simp -implicitDefEqProofs (disch:=omega) only [Rx,simprocAttr,B177x1,k1]
    · simp [withE]
theorem with09_run (l : List Attr) (name v : Bs) (hl : l.length ≤ 1048577) (hnl : name.length ≤ 1048577) (g : List AObj) {n : Nat} (hn : l.length < n) (hn2 : name.length < n) :
    acall T (n+2) 177 [.p (.list (l.map Attr.pv)),.p (.str name),.p (.str v)] g=some (.p (.list ((withA l name v).map Attr.pv)),g):=by
  have ll:(l.map Attr.pv).length=l.length:=by simp
  have hfi:=fun g=>find09_run l name hl g (n:=n) hn
  have hle:=le_loop l name v (findA l name) hl hnl (n:=n) hn2 (n+1) (by omega)
  simp only [Int.natCast_zero] at hle
  unfold withA
  rw [acall_code T177,run_pure rfl rfl rfl]
  by_cases hf:fstAt l name<l.length
  · rw [if_pos hf]
    have hfa:findA l name=(fstAt l name:Int):=by simp [findA,hf]
    have hlo:=with_found l name v (leAt l name) (fstAt l name) hl hf (fun a ha=>fstAt_hit ha rfl) (acall T (n+1)) (n+1) (by omega)
    rw [hfa] at hfi hle
    have hwl:(l.set (fstAt l name) ⟨name,v⟩).length≤1048577:=by simp;omega
    generalize l.set (fstAt l name) ⟨name,v⟩=w at hlo hwl
    have wl:(w.map Attr.pv).length=w.length:=by simp
    generalize fstAt l name=k at hfi hle hlo
    generalize leAt l name=to at hle hlo
    simp only [withS,withE,List.map_nil,List.length_nil,Int.natCast_zero] at hlo
    have k0:¬ (k:Int)<0:=by omega
    simp -implicitDefEqProofs (disch:=omega) only [Rx,simprocAttr,F177,hfi,hle,hlo,ll,wl,k0]
  · rw [if_neg hf]
    have hfa:findA l name = -1:=by simp [findA,hf]
    have hlo:=with_new l name v (leAt l name) hl (acall T (n+1)) (n+1) (by omega)
    rw [hfa] at hfi hle
    rw [leAt_pos hf] at hle hlo
    have hpl:posAt l name≤l.length:=List.findIdx_le_length
    generalize hto:posAt l name=to at hle hlo hpl
    have hacc:(putA l to ⟨name,v⟩ l.length).length≤1048579:=by
      unfold putA
      split
      · rw [List.length_take];omega
      · rw [List.length_append,List.length_cons,List.length_take,List.length_take,List.length_drop];omega
    by_cases e:to=l.length
    · have hr:l.take to++⟨name,v⟩::l.drop to=putA l to ⟨name,v⟩ l.length++[⟨name,v⟩]:=by
        subst e;simp [putA]
      rw [hr]
      generalize putA l to ⟨name,v⟩ l.length=acc at hlo hacc
      have la:(acc.map Attr.pv).length=acc.length:=by simp
      have os1:acc.map Attr.pv++[[.str name,.str v]]=(acc++[(⟨name,v⟩:Attr)]).map Attr.pv:=by simp [Attr.pv]
      have ol1:((acc++[(⟨name,v⟩:Attr)]).map Attr.pv).length=acc.length+1:=by simp
      generalize acc++[(⟨name,v⟩:Attr)]=acc1 at os1 ol1
      have e1:((to:Int)==(l.length:Int))=true:=by simp;omega
      simp only [withS,withE,List.map_nil,List.length_nil,Int.natCast_zero] at hlo
      simp -implicitDefEqProofs (disch:=omega) only [Rx,simprocAttr,F177,hfi,hle,hlo,ll,la,os1,ol1,e1]
    · have hr:l.take to++⟨name,v⟩::l.drop to=putA l to ⟨name,v⟩ l.length:=by
        unfold putA
        rw [if_neg (by omega),List.take_of_length_le (l:=l.drop to) (by rw [List.length_drop];omega)]
      rw [hr]
      generalize putA l to ⟨name,v⟩ l.length=acc at hlo hacc
      have la:(acc.map Attr.pv).length=acc.length:=by simp
      have e1:((to:Int)==(l.length:Int))=false:=by simp;omega
      simp only [withS,withE,List.map_nil,List.length_nil,Int.natCast_zero] at hlo
      simp -implicitDefEqProofs (disch:=omega) only [Rx,simprocAttr,F177,hfi,hle,hlo,ll,la,e1]
end Tryz
end Go.TA


end
section
/- The document's answer: a node's attributes and text; a node is made. -/
namespace Go.TA
namespace Tryz
section
variable {R:Nat} {S:MS} {av:Nat→AV} {p q:Nat} {g:List AObj} {nx:Int}
theorem textD_run (hD:DM (liveL S) S.st S.kd nx av p q g) (hL:(liveL S).length≤4194304) (id:Int) (s:Bs) {n:Nat} (hn:(liveL S).length<n) :
  ∃ g',acall T (n+3) 143 [DP p,.p (.int .i64 id),.p (.str s)] g=some (.p (.int .i64 (textD S id s).1),g')∧DM (liveL (textD S id s).2) (textD S id s).2.st (textD S id s).2.kd nx av p q g'∧DFr (liveL S) av p q g (liveL (textD S id s).2) av q g':=by
 obtain ⟨o,ho,hrep⟩:=hD.core.row
 have hob:=hD.core.obj
 have hix:=fun s i=>hrep.idx rowsD_len s true q i
 have hno:=noneD_run hD.core hL id (n:=n) (by omega)
 unfold textD
 by_cases hf:fitE S id≠0
 ·rw [if_pos hf]
  have e1:(fitE S id==0)=false:=by simpa using hf
  refine ⟨g, ?_,hD,DFr.refl _ _ _ _ _⟩
  rw [acall_code T143,run_code rfl rfl]
  generalize fitE S id=e at hno e1 ⊢
  simp -implicitDefEqProofs (disch:=omega) only [Rx,simprocAttr,F143,hno,e1]
 rw [if_neg hf]
 obtain ⟨c,rfl,hcL,hc0⟩:=fit_live hf
 simp only [ne_eq,Decidable.not_not] at hf
 rw [hf] at hno
 by_cases hl:65536<(s.length:Int)
 ·rw [if_pos hl]
  have e1:(s.length:Int) > 65536:=hl
  refine ⟨g, ?_,hD,DFr.refl _ _ _ _ _⟩
  rw [acall_code T143,run_code rfl rfl]
  simp -implicitDefEqProofs (disch:=omega) only [Rx,simprocAttr,F143,hno,e1]
 rw [if_neg hl]
 have e1:¬ (s.length:Int) > 65536:=hl
 obtain ⟨ic,hpc,hic⟩:=posL_in hcL
 have hat1:=at_run hD.core hL (c:Int) (n:=n+1) (by omega)
 rw [hpc] at hat1
 have lc:=(List.getElem?_eq_some_iff.1 hic).1
 have kc:(ic:Int)<((liveL S).length:Int):=by omega
 obtain ⟨o',hw,hr'⟩:=wr_node hrep hic (j:=5) (by omega) (.p (.str s))
 have e3:(rowsD (liveL S) S.st av).set ic ((nAV c (S.st c) (av c)).set 5 (.p (.str s)))=rowsD (liveL S) (upd S.st c { S.st c with text:=s }) av:=by
  rw [← rows_node hD.core.nodup hic];rfl
 rw [e3] at hr'
 have hlv:liveL (textM S c s)=liveL S:=liveL_node (S:=S) (h:=c) (s:={ S.st c with text:=s }) rfl
 simp only [Int.toNat_natCast]
 refine ⟨g.set q o', ?_,by rw [hlv];exact hD.node _ hr',by rw [hlv];exact DFr.node o'⟩
 rw [acall_code T143,run_code rfl rfl]
 simp -implicitDefEqProofs (disch:=omega) only [Rx,simprocAttr,F143,hno,e1,hat1,hob,ho,hix,hw]
theorem setD_run (hS:S.Ok R) (hD:DM (liveL S) S.st S.kd nx av p q g) (hL:(liveL S).length≤4194304) (id:Int) (name v:Bs) {n:Nat} (hn:(liveL S).length<n) (hn2:1048577<n) :
  ∃ g',acall T (n+36) 141 [DP p,.p (.int .i64 id),.p (.str name),.p (.str v)] g=some (.p (.int .i64 (setD S id name v).1),g')∧DM (liveL (setD S id name v).2) (setD S id name v).2.st (setD S id name v).2.kd nx av p q g'∧DFr (liveL S) av p q g (liveL (setD S id name v).2) av q g':=by
 obtain ⟨o,ho,hrep⟩:=hD.core.row
 have hob:=hD.core.obj
 have hix:=fun s i=>hrep.idx rowsD_len s true q i
 have hno:=noneD_run hD.core hL id (n:=n+33) (by omega)
 unfold setD
 by_cases hf:fitE S id≠0
 ·rw [if_pos hf]
  have e1:(fitE S id==0)=false:=by simpa using hf
  refine ⟨g, ?_,hD,DFr.refl _ _ _ _ _⟩
  rw [acall_code T141,run_code rfl rfl]
  generalize fitE S id=e at hno e1 ⊢
  simp -implicitDefEqProofs (disch:=omega) only [Rx,simprocAttr,F141,hno,e1]
 rw [if_neg hf]
 obtain ⟨c,rfl,hcL,hc0⟩:=fit_live hf
 simp only [ne_eq,Decidable.not_not] at hf
 rw [hf] at hno
 have hnm:=fun g=>named02_run name true g n
 by_cases hm:namedB true name=false
 ·rw [if_pos hm]
  rw [hm] at hnm
  refine ⟨g, ?_,hD,DFr.refl _ _ _ _ _⟩
  rw [acall_code T141,run_code rfl rfl]
  simp -implicitDefEqProofs (disch:=omega) only [Rx,simprocAttr,F141,hno,hnm]
 rw [if_neg hm]
 simp only [Bool.not_eq_false] at hm
 have hnl:=namedB_len hm
 rw [hm] at hnm
 by_cases hl:65536<(v.length:Int)
 ·rw [if_pos hl]
  have e1:(v.length:Int) > 65536:=hl
  refine ⟨g, ?_,hD,DFr.refl _ _ _ _ _⟩
  rw [acall_code T141,run_code rfl rfl]
  simp -implicitDefEqProofs (disch:=omega) only [Rx,simprocAttr,F141,hno,hnm,e1]
 rw [if_neg hl]
 have e1:¬ (v.length:Int) > 65536:=hl
 obtain ⟨ic,hpc,hic⟩:=posL_in hcL
 have hat1:=at_run hD.core hL (c:Int) (n:=n+34) (by omega)
 rw [hpc] at hat1
 have lc:=(List.getElem?_eq_some_iff.1 hic).1
 have kc:(ic:Int)<((liveL S).length:Int):=by omega
 have rdc:=rd_node hrep hic (j:=6) (by omega)
 simp only [nAV] at rdc
 obtain ⟨hcN,hcl⟩:=mem_liveL.1 hcL
 have hal:=hS.attrs c hcN
 have hwi:=fun g=>with09_run (S.st c).attrs name v hal (by omega) g (n:=n+33) (by omega) (by omega)
 simp only [Int.toNat_natCast]
 generalize hwa:withA (S.st c).attrs name v=w at hwi
 have wl:(w.map Attr.pv).length=w.length:=by simp
 by_cases h64:64<(w.length:Int)
 ·rw [if_pos h64]
  have k64:(w.length:Int) > 64:=h64
  refine ⟨g, ?_,hD,DFr.refl _ _ _ _ _⟩
  rw [acall_code T141,run_code rfl rfl]
  simp -implicitDefEqProofs (disch:=omega) only [Rx,simprocAttr,F141,hno,hnm,e1,hat1,hob,ho,hix,rdc,hwi,wl,k64]
 rw [if_neg h64]
 have k64:¬ (w.length:Int) > 64:=h64
 obtain ⟨o',hw,hr'⟩:=wr_node hrep hic (j:=6) (by omega) (.p (.list (w.map Attr.pv)))
 have e3:(rowsD (liveL S) S.st av).set ic ((nAV c (S.st c) (av c)).set 6 (.p (.list (w.map Attr.pv))))=rowsD (liveL S) (upd S.st c { S.st c with attrs:=w }) av:=by
  rw [← rows_node hD.core.nodup hic];rfl
 rw [e3] at hr'
 have hlv:liveL (setM S c w)=liveL S:=liveL_node (S:=S) (h:=c) (s:={ S.st c with attrs:=w }) rfl
 refine ⟨g.set q o', ?_,by rw [hlv];exact hD.node _ hr',by rw [hlv];exact DFr.node o'⟩
 rw [acall_code T141,run_code rfl rfl]
 simp -implicitDefEqProofs (disch:=omega) only [Rx,simprocAttr,F141,hno,hnm,e1,hat1,hob,ho,hix,rdc,hwi,wl,k64,hw]
theorem delD_run (hS:S.Ok R) (hD:DM (liveL S) S.st S.kd nx av p q g) (hL:(liveL S).length≤4194304) (id:Int) (name:Bs) {n:Nat} (hn:(liveL S).length<n) (hn2:1048577<n) :
  ∃ g',acall T (n+3) 142 [DP p,.p (.int .i64 id),.p (.str name)] g=some (.p (.int .i64 (delD S id name).1),g')∧DM (liveL (delD S id name).2) (delD S id name).2.st (delD S id name).2.kd nx av p q g'∧DFr (liveL S) av p q g (liveL (delD S id name).2) av q g':=by
 obtain ⟨o,ho,hrep⟩:=hD.core.row
 have hob:=hD.core.obj
 have hix:=fun s i=>hrep.idx rowsD_len s true q i
 have hno:=noneD_run hD.core hL id (n:=n) (by omega)
 unfold delD
 by_cases hf:fitE S id≠0
 ·rw [if_pos hf]
  have e1:(fitE S id==0)=false:=by simpa using hf
  refine ⟨g, ?_,hD,DFr.refl _ _ _ _ _⟩
  rw [acall_code T142,run_code rfl rfl]
  generalize fitE S id=e at hno e1 ⊢
  simp -implicitDefEqProofs (disch:=omega) only [Rx,simprocAttr,F142,hno,e1]
 rw [if_neg hf]
 obtain ⟨c,rfl,hcL,hc0⟩:=fit_live hf
 simp only [ne_eq,Decidable.not_not] at hf
 rw [hf] at hno
 obtain ⟨ic,hpc,hic⟩:=posL_in hcL
 have hat1:=at_run hD.core hL (c:Int) (n:=n+1) (by omega)
 rw [hpc] at hat1
 have lc:=(List.getElem?_eq_some_iff.1 hic).1
 have kc:(ic:Int)<((liveL S).length:Int):=by omega
 have rdc:=rd_node hrep hic (j:=6) (by omega)
 simp only [nAV] at rdc
 obtain ⟨hcN,hcl⟩:=mem_liveL.1 hcL
 have hal:=hS.attrs c hcN
 have hwi:=fun g=>without09_run (S.st c).attrs name hal g (n:=n+1) (by omega)
 simp only [Int.toNat_natCast]
 generalize hwa:withoutA (S.st c).attrs name=w at hwi
 have wl:(w.map Attr.pv).length=w.length:=by simp
 by_cases hlt:w.length<(S.st c).attrs.length
 rotate_left
 ·rw [if_neg hlt]
  have ed:decide (w.length<(S.st c).attrs.length)=false:=by simpa using hlt
  rw [ed] at hwi
  refine ⟨g, ?_,hD,DFr.refl _ _ _ _ _⟩
  rw [acall_code T142,run_code rfl rfl]
  simp -implicitDefEqProofs (disch:=omega) only [Rx,simprocAttr,F142,hno,hat1,hob,ho,hix,rdc,hwi]
 rw [if_pos hlt]
 have ed:decide (w.length<(S.st c).attrs.length)=true:=by simpa using hlt
 rw [ed] at hwi
 obtain ⟨o',hw,hr'⟩:=wr_node hrep hic (j:=6) (by omega) (.p (.list (w.map Attr.pv)))
 have e3:(rowsD (liveL S) S.st av).set ic ((nAV c (S.st c) (av c)).set 6 (.p (.list (w.map Attr.pv))))=rowsD (liveL S) (upd S.st c { S.st c with attrs:=w }) av:=by
  rw [← rows_node hD.core.nodup hic];rfl
 rw [e3] at hr'
 have hlv:liveL (setM S c w)=liveL S:=liveL_node (S:=S) (h:=c) (s:={ S.st c with attrs:=w }) rfl
 refine ⟨g.set q o', ?_,by rw [hlv];exact hD.node _ hr',by rw [hlv];exact DFr.node o'⟩
 rw [acall_code T142,run_code rfl rfl]
 simp -implicitDefEqProofs (disch:=omega) only [Rx,simprocAttr,F142,hno,hat1,hob,ho,hix,rdc,hwi,hw]
end
end Tryz
end Go.TA


end
section
/- The document's answer: a node is made; any operation. -/
namespace Go.TA
theorem DM.push {L : List Nat} {st : Nat → MNode} {kd : Nat → List Int} {nx : Int} {av : Nat → AV} {p q : Nat} {g : List AObj} (h : DM L st kd nx av p q g) {N : Nat} (hN : N ∉ L) (s : MNode) (nx' : Int) {o' : AObj} (hr : RowRep 7 (rowsD (L ++ [N]) (upd st N s) (upd av N .nils)) o') : DM (L ++ [N]) (upd st N s) (upd kd N []) nx' (upd av N .nils) p q ((g.set q o').set p (.cells 2 [[.own true q (L.length + 1), .p (.int .i64 nx')]])) := by
  have hp:=(List.getElem?_eq_some_iff.1 h.core.obj).1
  obtain ⟨o,ho,_⟩:=h.core.row
  have hq:=(List.getElem?_eq_some_iff.1 ho).1
  have hmem:∀ k,k ∈ L++[N]→k=N∨(k ∈ L∧k≠N):=fun k hk=>by
    rcases List.mem_append.1 hk with h1 | h1
    · exact .inr ⟨h1,fun e=>hN (e ▸ h1)⟩
    · simp at h1;exact .inl h1
  refine ⟨⟨?_,⟨o', ?_,hr⟩,h.core.pq, ?_⟩,fun k hk => ?_,fun k hk => ?_,fun k k' hk hk' hne => ?_⟩
  · rw [List.getElem?_set,if_pos rfl,if_pos (by rw [List.length_set];exact hp)];simp
  · rw [List.getElem?_set,if_neg h.core.pq,List.getElem?_set,if_pos rfl,if_pos hq]
  · rw [List.nodup_append]
    refine ⟨h.core.nodup,by simp,fun a ha b hb e => ?_⟩
    simp at hb;subst hb;subst e;exact hN ha
  · rcases hmem k hk with rfl | ⟨h1,h2⟩
    · rw [upd_at,upd_at];exact .none
    · rw [upd_ne h2,upd_ne h2]
      refine (h.kids k h1).keep fun r hr => ?_
      rw [List.getElem?_set,if_neg (fun e=>(h.away k h1).1 (by rw [e];exact hr)),List.getElem?_set,if_neg (fun e=>(h.away k h1).2 (by rw [e];exact hr))]
  · rcases hmem k hk with rfl | ⟨h1,h2⟩
    · rw [upd_at];simp [refOf]
    · rw [upd_ne h2];exact h.away k h1
  · rcases hmem k hk with rfl | ⟨h1,h2⟩
    · left;rw [upd_at];rfl
    · rw [upd_ne h2]
      rcases hmem k' hk' with rfl | ⟨h3,h4⟩
      · rw [upd_at]
        cases hr:refOf (av k) with
        | none=>exact .inl rfl
        | some q=>exact .inr (by simp [refOf])
      · rw [upd_ne h4];exact h.disj k k' h1 h3 hne
theorem DFr.push {L:List Nat} {av:Nat→AV} {p q:Nat} {g:List AObj} {N:Nat} (hN:N ∉ L) (o o':AObj):DFr L av p q g (L++[N]) (upd av N .nils) q ((g.set q o).set p o') where
 len:=by simp
 keep j hj hp hq hn:=by rw [List.getElem?_set,if_neg (fun e=>hp e.symm),List.getElem?_set,if_neg (fun e=>hq e.symm)]
 row:=.inl rfl
 refs k hk j hj _:=by
  rcases List.mem_append.1 hk with h1 | h1
  ·have:k≠N:=fun e=>hN (e ▸ h1)
   rw [upd_ne this] at hj;exact ⟨k,h1,hj⟩
  ·simp at h1;subst h1;rw [upd_at] at hj;cases hj
namespace Tryz
section
variable {R:Nat} {S:MS} {av:Nat→AV} {p q:Nat} {g:List AObj}
theorem createD_run (hD:DM (liveL S) S.st S.kd S.N av p q g) (hL:(liveL S).length≤4194304) (x:GOp) (hs:smallAttrs x.attrs) {n:Nat} (hn:x.attrs.length<n) (hn2:1048576<n) :
    ∃ av' g', acall T (n + 37) 76 [DP p, .p (.str x.tag), .p (.str x.key), .p (.str x.text), .p (.list (x.attrs.map Attr.pv))] g = some (if createErr S.N x = 0 then .tuple [.p (.int .i64 S.N), .p (.int .i64 0)] else .tuple [.p (.int .i64 0), .p (.int .i64 (createErr S.N x))], g')
      ∧ DM (liveL (if createErr S.N x=0 then S.create x else S)) (if createErr S.N x=0 then S.create x else S).st (if createErr S.N x=0 then S.create x else S).kd (if createErr S.N x=0 then S.create x else S).N av' p q g'∧DFr (liveL S) av p q g (liveL (if createErr S.N x=0 then S.create x else S)) av' q g':=by
  obtain ⟨o,ho,hrep⟩:=hD.core.row
  have hob:=hD.core.obj
  have hnm:=fun g=>named02_run x.tag false g (n+1)
  have hat:=fun g=>a09_run x.attrs hs g (n:=n) (by omega) hn2
  have bad:∀ e:Int,createErr S.N x=e→e≠0→acall T (n+37) 76 [DP p,.p (.str x.tag),.p (.str x.key),.p (.str x.text),.p (.list (x.attrs.map Attr.pv))] g=some (.tuple [.p (.int .i64 0),.p (.int .i64 e)],g) →
      ∃ av' g',acall T (n+37) 76 [DP p,.p (.str x.tag),.p (.str x.key),.p (.str x.text),.p (.list (x.attrs.map Attr.pv))] g=some (if createErr S.N x=0 then .tuple [.p (.int .i64 S.N),.p (.int .i64 0)] else .tuple [.p (.int .i64 0),.p (.int .i64 (createErr S.N x))],g')
      ∧ DM (liveL (if createErr S.N x=0 then S.create x else S)) (if createErr S.N x=0 then S.create x else S).st (if createErr S.N x=0 then S.create x else S).kd (if createErr S.N x=0 then S.create x else S).N av' p q g'∧DFr (liveL S) av p q g (liveL (if createErr S.N x=0 then S.create x else S)) av' q g':=fun e he hne hr=>by
    rw [he,if_neg hne,if_neg hne]
    exact ⟨av,g,hr,hD,DFr.refl _ _ _ _ _⟩
  by_cases h7:namedB false x.tag=false
  · refine bad 7 (by simp [createErr,h7]) (by decide) ?_
    rw [h7] at hnm
    rw [acall_code T76,run_code rfl rfl]
    simp -implicitDefEqProofs (disch:=omega) only [Rx,simprocAttr,F76,hnm]
  simp only [Bool.not_eq_false] at h7
  rw [h7] at hnm
  by_cases h3:65536<(x.key.length:Int)
  · refine bad 3 (by simp only [createErr,h7,Bool.true_eq_false,if_false,if_pos (Or.inl h3:65536<(x.key.length:Int)∨65536<(x.text.length:Int))]) (by decide) ?_
    have k3:(x.key.length:Int) > 65536:=h3
    rw [acall_code T76,run_code rfl rfl]
    simp -implicitDefEqProofs (disch:=omega) only [Rx,simprocAttr,F76,hnm,k3]
  have k3:¬ (x.key.length:Int) > 65536:=h3
  by_cases h4:65536<(x.text.length:Int)
  · refine bad 3 (by simp only [createErr,h7,Bool.true_eq_false,if_false,if_pos (Or.inr h4:65536<(x.key.length:Int)∨65536<(x.text.length:Int))]) (by decide) ?_
    have k4:(x.text.length:Int) > 65536:=h4
    rw [acall_code T76,run_code rfl rfl]
    simp -implicitDefEqProofs (disch:=omega) only [Rx,simprocAttr,F76,hnm,k3,k4]
  have k4:¬ (x.text.length:Int) > 65536:=h4
  have h34:¬ (65536<(x.key.length:Int)∨65536<(x.text.length:Int)):=fun h=>h.elim h3 h4
  by_cases h5:attrsErr x.attrs≠0
  · refine bad (attrsErr x.attrs) (by simp only [createErr,h7,Bool.true_eq_false,if_false,if_neg h34,if_pos h5]) h5 ?_
    have k5:(attrsErr x.attrs==0)=false:=by simpa using h5
    generalize attrsErr x.attrs=e at hat k5
    rw [acall_code T76,run_code rfl rfl]
    simp -implicitDefEqProofs (disch:=omega) only [Rx,simprocAttr,F76,hnm,k3,k4,hat,k5]
  simp only [ne_eq,Decidable.not_not] at h5
  rw [h5] at hat
  by_cases h6:4294967295<(S.N:Int)
  · refine bad 21 (by simp only [createErr,h7,Bool.true_eq_false,if_false,if_neg h34,h5,ne_eq,not_true_eq_false,if_pos h6]) (by decide) ?_
    have k6:(S.N:Int) > 4294967295:=h6
    rw [acall_code T76,run_code rfl rfl]
    simp -implicitDefEqProofs (disch:=omega) only [Rx,simprocAttr,F76,hnm,k3,k4,hat,hob,k6]
  have k6:¬ (S.N:Int) > 4294967295:=h6
  have hz:createErr S.N x=0:=by simp only [createErr,h7,Bool.true_eq_false,if_false,if_neg h34,h5,ne_eq,not_true_eq_false,if_neg h6]
  rw [hz,if_pos rfl,if_pos rfl]
  have hNL:S.N ∉ liveL S:=fun h=>by have:=(mem_liveL.1 h).1;omega
  obtain ⟨o',happ,hr'⟩:=hrep.app (bytes:=112) rowsD_len (by omega) (c:=nAV S.N ⟨true, -1,x.tag,x.key,x.text,x.attrs⟩ .nils) rfl rfl
  rw [rowsD_push hNL] at hr'
  have hDp:=hD.push hNL ⟨true, -1,x.tag,x.key,x.text,x.attrs⟩ ((S.N:Int)+1) hr'
  have hFp:=DFr.push (av:=av) (p:=p) (q:=q) (g:=g) hNL o' (.cells 2 [[.own true q ((liveL S).length+1),.p (.int .i64 ((S.N:Int)+1))]])
  refine ⟨upd av S.N .nils,_, ?_,by rw [liveL_create];exact hDp,by rw [liveL_create];exact hFp⟩
  have hpl:=(List.getElem?_eq_some_iff.1 hob).1
  have hob2:(g.set q o')[p]? = some (.cells 2 [[.own true q (liveL S).length,.p (.int .i64 S.N)]]):=by
    rw [List.getElem?_set,if_neg (fun e=>hD.core.pq e.symm)];exact hob
  have hA:∀ X:AObj,((g.set q o').set p X)[p]? = some X:=fun X=>by rw [List.getElem?_set,if_pos rfl,if_pos (by rw [List.length_set];exact hpl)]
  have hss:∀ X Y:AObj,((g.set q o').set p X).set p Y=(g.set q o').set p Y:=fun X Y=>by simp
  have e9:(S.N:Int)+1 - 1=S.N:=by omega
  generalize hG:g.set q o'=G at hob2 hA hss
  simp only [nAV,List.map_nil] at happ
  rw [acall_code T76,run_code rfl rfl]
  simp -implicitDefEqProofs (disch:=omega) only [Rx,simprocAttr,F76,hnm,k3,k4,hat,hob,ho,k6,happ,hG,hob2,hA,hss,e9]
end
end Tryz
end Go.TA


end
section
/- The document's answer: any operation. -/
namespace Go.TA.Tryz
section
variable {R:Nat} {S:MS} {av:Nat→AV} {p q:Nat} {g:List AObj}
theorem insertD_N (S:MS) (id up b:Int):(insertD S id up b).2.N=S.N:=by
 unfold insertD;repeat' split
 all_goals rfl
theorem moveD_N (S:MS) (id b:Int):(moveD S id b).2.N=S.N:=by
 unfold moveD;repeat' split
 all_goals first | rfl | simp [placeM,takeM_N]
theorem removeD_N (S:MS) (id:Int):(removeD S id).2.N=S.N:=by
 unfold removeD;split
 ·rfl
 ·simp [endM,takeM_N]
theorem setD_N (S:MS) (id:Int) (name v:Bs):(setD S id name v).2.N=S.N:=by
 unfold setD;repeat' split
 all_goals rfl
theorem delD_N (S:MS) (id:Int) (name:Bs):(delD S id name).2.N=S.N:=by
 unfold delD;repeat' split
 all_goals rfl
theorem textD_N (S:MS) (id:Int) (s:Bs):(textD S id s).2.N=S.N:=by
 unfold textD;repeat' split
 all_goals rfl
theorem doD_run (hS:S.Ok R) (hD:DM (liveL S) S.st S.kd S.N av p q g) (hL:(liveL S).length≤4194304) (x:GOp) (hs:smallAttrs x.attrs) {n:Nat} (hn:(liveL S).length<n) (hR:R+3<n) (hx:x.attrs.length<n) (hn2:1048577<n) :
  ∃ av' q' g',acall T (n+38) 81 [DP p,.p (.agg x.pv)] g=some (.tuple [.p (.int .i64 (doD S x).1),.p (.int .i64 (doD S x).2.1)],g')∧DM (liveL (doD S x).2.2) (doD S x).2.2.st (doD S x).2.2.kd (doD S x).2.2.N av' p q' g'∧DFr (liveL S) av p q g (liveL (doD S x).2.2) av' q' g':=by
 unfold doD
 by_cases h1:x.kind=1
 ·rw [if_pos h1]
  have e1:(x.kind==1)=true:=by simpa using h1
  obtain ⟨av',g',hc,hD',hF⟩:=createD_run hD hL x hs (n:=n) (by omega) (by omega)
  by_cases hz:createErr S.N x=0
  ·rw [if_pos hz] at hc hD' hF ⊢
   refine ⟨av',q,g', ?_,hD',hF⟩
   rw [acall_code T81,run_code rfl rfl]
   simp -implicitDefEqProofs (disch:=omega) only [Rx,simprocAttr,F81,GOp.pv,attrsPV,e1,hc]
  ·rw [if_neg hz] at hc hD' hF ⊢
   refine ⟨av',q,g', ?_,hD',hF⟩
   generalize createErr S.N x=e at hc
   rw [acall_code T81,run_code rfl rfl]
   simp -implicitDefEqProofs (disch:=omega) only [Rx,simprocAttr,F81,GOp.pv,attrsPV,e1,hc]
 rw [if_neg h1]
 have e1:(x.kind==1)=false:=by simpa using h1
 by_cases h2:x.kind=2
 ·rw [if_pos h2]
  have e2:(x.kind==2)=true:=by simpa using h2
  obtain ⟨av',g',hc,hD',hF⟩:=insertD_run hS hD hL x.node x.up x.before (n:=n+33) (by omega) (by omega)
  refine ⟨av',q,g', ?_,by rw [insertD_N];exact hD',hF⟩
  generalize insertD S x.node x.up x.before=z at hc
  rw [acall_code T81,run_code rfl rfl]
  simp -implicitDefEqProofs (disch:=omega) only [Rx,simprocAttr,F81,GOp.pv,attrsPV,e1,e2,hc]
 rw [if_neg h2]
 have e2:(x.kind==2)=false:=by simpa using h2
 by_cases h3:x.kind=3
 ·rw [if_pos h3]
  have e3:(x.kind==3)=true:=by simpa using h3
  obtain ⟨av',g',hc,hD',hF⟩:=moveD_run hS hD hL x.node x.before (n:=n+33) (by omega)
  refine ⟨av',q,g', ?_,by rw [moveD_N];exact hD',hF⟩
  generalize moveD S x.node x.before=z at hc
  rw [acall_code T81,run_code rfl rfl]
  simp -implicitDefEqProofs (disch:=omega) only [Rx,simprocAttr,F81,GOp.pv,attrsPV,e1,e2,e3,hc]
 rw [if_neg h3]
 have e3:(x.kind==3)=false:=by simpa using h3
 by_cases h4:x.kind=4
 ·rw [if_pos h4]
  have e4:(x.kind==4)=true:=by simpa using h4
  obtain ⟨av',q',g',hc,hD',hF⟩:=removeD_run hS hD hL x.node (n:=n+33) (by omega) (by omega)
  refine ⟨av',q',g', ?_,by rw [removeD_N];exact hD',hF⟩
  generalize removeD S x.node=z at hc
  rw [acall_code T81,run_code rfl rfl]
  simp -implicitDefEqProofs (disch:=omega) only [Rx,simprocAttr,F81,GOp.pv,attrsPV,e1,e2,e3,e4,hc]
 rw [if_neg h4]
 have e4:(x.kind==4)=false:=by simpa using h4
 by_cases h5:x.kind=5
 ·rw [if_pos h5]
  have e5:(x.kind==5)=true:=by simpa using h5
  obtain ⟨g',hc,hD',hF⟩:=setD_run hS hD hL x.node x.name x.text (n:=n+1) (by omega) (by omega)
  refine ⟨av,q,g', ?_,by rw [setD_N];exact hD',hF⟩
  generalize setD S x.node x.name x.text=z at hc
  rw [acall_code T81,run_code rfl rfl]
  simp -implicitDefEqProofs (disch:=omega) only [Rx,simprocAttr,F81,GOp.pv,attrsPV,e1,e2,e3,e4,e5,hc]
 rw [if_neg h5]
 have e5:(x.kind==5)=false:=by simpa using h5
 by_cases h6:x.kind=6
 ·rw [if_pos h6]
  have e6:(x.kind==6)=true:=by simpa using h6
  obtain ⟨g',hc,hD',hF⟩:=delD_run hS hD hL x.node x.name (n:=n+34) (by omega) (by omega)
  refine ⟨av,q,g', ?_,by rw [delD_N];exact hD',hF⟩
  generalize delD S x.node x.name=z at hc
  rw [acall_code T81,run_code rfl rfl]
  simp -implicitDefEqProofs (disch:=omega) only [Rx,simprocAttr,F81,GOp.pv,attrsPV,e1,e2,e3,e4,e5,e6,hc]
 rw [if_neg h6]
 have e6:(x.kind==6)=false:=by simpa using h6
 by_cases h7:x.kind=7
 ·rw [if_pos h7]
  have e7:(x.kind==7)=true:=by simpa using h7
  obtain ⟨g',hc,hD',hF⟩:=textD_run hD hL x.node x.text (n:=n+34) (by omega)
  refine ⟨av,q,g', ?_,by rw [textD_N];exact hD',hF⟩
  generalize textD S x.node x.text=z at hc
  rw [acall_code T81,run_code rfl rfl]
  simp -implicitDefEqProofs (disch:=omega) only [Rx,simprocAttr,F81,GOp.pv,attrsPV,e1,e2,e3,e4,e5,e6,e7,hc]
 rw [if_neg h7]
 have e7:(x.kind==7)=false:=by simpa using h7
 refine ⟨av,q,g, ?_,hD,DFr.refl _ _ _ _ _⟩
 rw [acall_code T81,run_code rfl rfl]
 simp -implicitDefEqProofs (disch:=omega) only [Rx,simprocAttr,F81,GOp.pv,attrsPV,e1,e2,e3,e4,e5,e6,e7]
end
end Go.TA.Tryz


end
section
/- The document's answer, at first. -/
namespace Go.TA.Tryz
theorem new20_run (nx:Int) (g:List AObj) (n:Nat):acall T (n+1) 27 [.p (.int .i64 nx)] g=some (DP (g.length+1),g++[.cells 7 [nAV 0 holder .nils]]++[.cells 2 [[.own true g.length 1,.p (.int .i64 nx)]]]):=by
 rw [acall_code T27,run_code rfl rfl]
 have e:(g++[AObj.cells 7 [nAV 0 holder .nils]]).length=g.length+1:=by simp
 simp only [nAV,holder,List.map_nil,Int.natCast_zero] at e ⊢
 simp -implicitDefEqProofs (disch:=omega) only [Rx,simprocAttr,F27,e]
theorem dm_docS (N:Nat) (g:List AObj):DM (liveL (docS (N+1))) (docS (N+1)).st (docS (N+1)).kd (docS (N+1)).N (fun _ => .nils) (g.length+1) g.length (g++[.cells 7 [nAV 0 holder .nils]]++[.cells 2 [[.own true g.length 1,.p (.int .i64 ((N+1:Nat):Int))]]]):=by
 rw [liveL_docS]
 refine ⟨⟨?_,⟨.cells 7 [nAV 0 holder .nils], ?_,.inl ?_⟩,by omega,by simp⟩,fun h hh => ?_,fun h hh=>by simp [refOf],fun h h' hh hh' hne => .inl rfl⟩
 ·rw [List.getElem?_append_right (by simp)];simp [docS]
 ·rw [List.append_assoc,List.getElem?_append_right (Nat.le_refl _)];simp
 ·simp [rowsD,docS]
 ·simp only [docS];exact .none
end Go.TA.Tryz


end
section
/- Operations with IDs in the place of handles: the document's answer. -/
namespace Go.TA
def OwnR (L:List Nat) (av:Nat→AV) (p q:Nat) (j:Nat):Prop:=j=p∨j=q∨∃ h ∈ L,refOf (av h)=some j
theorem DFr.gfr {L:List Nat} {av:Nat→AV} {p q:Nat} {g:List AObj} {L':List Nat} {av':Nat→AV} {q':Nat} {g':List AObj} (h:DFr L av p q g L' av' q' g'):GFr g (OwnR L av p q) g' (OwnR L' av' p q') where
 len:=h.len
 keep j hj hn:=h.keep j hj (fun e=>hn (.inl e)) (fun e=>hn (.inr (.inl e))) fun c hc e=>hn (.inr (.inr ⟨c,hc,e⟩))
 refs j hj hl:=by
  rcases hj with e | e | ⟨c,hc,e⟩
  ·exact .inl e
  ·rcases h.row with e2 | e2
   ·exact .inr (.inl (by omega))
   ·omega
  ·obtain ⟨c0,hc0,e0⟩:=h.refs c hc j e hl
   exact .inr (.inr ⟨c0,hc0,e0⟩)
theorem DM.own_lt {L:List Nat} {st:Nat→MNode} {kd:Nat→List Int} {nx:Int} {av:Nat→AV} {p q:Nat} {g:List AObj} (h:DM L st kd nx av p q g) {j:Nat} (hj:OwnR L av p q j):j<g.length:=by
 rcases hj with rfl | rfl | ⟨c,hc,e⟩
 ·exact (List.getElem?_eq_some_iff.1 h.core.obj).1
 ·obtain ⟨o,ho,_⟩:=h.core.row
  exact (List.getElem?_eq_some_iff.1 ho).1
 ·exact (h.kids c hc).ref_lt e
theorem DM.stay {L:List Nat} {st:Nat→MNode} {kd:Nat→List Int} {nx:Int} {av:Nat→AV} {p q:Nat} {g g':List AObj} (h:DM L st kd nx av p q g) (hg:∀ j,OwnR L av p q j→g'[j]? = g[j]?):DM L st kd nx av p q g' where
 core:=⟨by rw [hg _ (.inl rfl)];exact h.core.obj,by rw [hg _ (.inr (.inl rfl))];exact h.core.row,h.core.pq,h.core.nodup⟩
 kids k hk:=(h.kids k hk).keep fun r e=>hg r (.inr (.inr ⟨k,hk,e⟩))
 away:=h.away
 disj:=h.disj
structure RTb (S:MS) (av:Nat→AV) (p q k:Nat) (tb:List Int) (g:List AObj):Prop where
 dm:DM (liveL S) S.st S.kd S.N av p q g
 row:g[k]? = some (.pcells 1 (intsPV tb))
 sep:¬ OwnR (liveL S) av p q k
def OwnT (S:MS) (av:Nat→AV) (p q k:Nat) (j:Nat):Prop:=OwnR (liveL S) av p q j∨j=k
theorem RTb.turn {S S':MS} {av av':Nat→AV} {p q q' k:Nat} {tb:List Int} {g g':List AObj} (h:RTb S av p q k tb g) (hD:DM (liveL S') S'.st S'.kd S'.N av' p q' g') (hF:GFr g (OwnR (liveL S) av p q) g' (OwnR (liveL S') av' p q')) :
  RTb S' av' p q' k tb g'∧GFr g (OwnT S av p q k) g' (OwnT S' av' p q' k):=by
 have hk:=(List.getElem?_eq_some_iff.1 h.row).1
 refine ⟨⟨hD,by rw [hF.keep k hk h.sep];exact h.row,fun e=>h.sep (hF.refs k e hk)⟩,⟨hF.len,fun j hj hn=>hF.keep j hj fun e=>hn (.inl e),fun j hj hl => ?_⟩⟩
 rcases hj with e | e
 ·exact .inl (hF.refs j e hl)
 ·exact .inr e
theorem RTb.set {S:MS} {av:Nat→AV} {p q k:Nat} {tb:List Int} {g:List AObj} (h:RTb S av p q k tb g) (tb':List Int):RTb S av p q k tb' (g.set k (.pcells 1 (intsPV tb')))∧GFr g (OwnT S av p q k) (g.set k (.pcells 1 (intsPV tb'))) (OwnT S av p q k):=by
 have hk:=(List.getElem?_eq_some_iff.1 h.row).1
 refine ⟨⟨h.dm.stay fun j hj=>by rw [List.getElem?_set,if_neg (fun e=>h.sep (by rw [e];exact hj))],by rw [List.getElem?_set,if_pos rfl,if_pos hk],h.sep⟩,⟨by simp,fun j hj hn => ?_,fun j hj _=>hj⟩⟩
 rw [List.getElem?_set,if_neg (fun e=>hn (.inr e.symm))]
namespace Tryz
def idT (tb:List Int) (h:Int):Int × Bool:=if h<0∨(tb.length:Int)≤h then (0,false) else (tb.getD h.toNat 0,true)
theorem idR_run (tb:List Int) (htb:tb.length≤8388608) (h:Int) {g:List AObj} {k:Nat} (hrow:g[k]? = some (.pcells 1 (intsPV tb))) (n:Nat):acall T (n+1) 138 [.own true k tb.length,.p (.int .i64 h)] g=some (.tuple [.p (.int .i64 (idT tb h).1),.p (.bool (idT tb h).2)],g):=by
 have il:=intsPV_len tb
 rw [acall_code T138,run_code rfl rfl]
 unfold idT
 by_cases h0:h<0
 ·rw [if_pos (.inl h0)]
  simp -implicitDefEqProofs (disch:=omega) only [Rx,simprocAttr,F138,h0]
 by_cases h1:h<(tb.length:Int)
 ·rw [if_neg (by omega)]
  have hg:=intsPV_get (getD_in (by omega) h1)
  generalize tb.getD h.toNat 0=v at hg ⊢
  simp -implicitDefEqProofs (disch:=omega) only [Rx,simprocAttr,F138,h0,h1,il,hg,hrow]
 ·rw [if_pos (.inr (by omega))]
  simp -implicitDefEqProofs (disch:=omega) only [Rx,simprocAttr,F138,h0]
theorem put_run (tb : List Int) (htb : tb.length ≤ 8388608) (x : GOp) (he : opErr x = 0) {g : List AObj} {k : Nat} (hrow : g[k]? = some (.pcells 1 (intsPV tb))) (n : Nat) :
    ∃ y:GOp,acall T (n+2) 80 [.p (.agg x.pv),.own true k tb.length] g=some (.tuple [.p (.agg y.pv),.p (.bool (decide (x.kind=1∨inT tb x)))],g)∧(x.kind=1∨inT tb x→y=putO tb x):=by
  have hf:=fineOp_of he
  obtain ⟨h01,h02,h03,h04,h05,h06⟩:=hf.hs
  by_cases k1:x.kind=1
  · refine ⟨x, ?_,fun _=>by unfold putO;rw [if_pos k1]⟩
    rw [decide_eq_true (.inl k1)]
    rw [acall_code T80,run_code rfl rfl]
    simp -implicitDefEqProofs (disch:=omega) only [Rx,simprocAttr,F80,GOp.pv,attrsPV,k1]
  have e1:(x.kind==1)=false:=by simpa using k1
  have i1:=idR_run tb htb x.node hrow n
  have i2:=idR_run tb htb x.up hrow n
  have i3:=idR_run tb htb x.before hrow n
  have hup:x.kind≠2→x.up=0:=fun k2=>by
    have hn:=hf.none
    unfold noneB at hn
    have hc:x.kind=3∨x.kind=4∨x.kind=5∨x.kind=6∨x.kind=7:=by have:=hf.kind;omega
    by_cases hz:x.up=0
    · exact hz
    · exfalso
      rcases hc with q | q | q | q | q
      all_goals simp [q,none3,none4,none5,none6,none7,nzI,hz] at hn
  refine ⟨⟨x.kind,(idT tb x.node).1,if x.kind=2 then (idT tb x.up).1 else 0,if x.before=0 then 0 else (idT tb x.before).1,x.tag,x.key,x.name,x.text,x.attrs⟩, ?_,fun hin => ?_⟩
  · have hb : decide (x.kind = 1 ∨ inT tb x) = ((idT tb x.node).2 && ((if x.kind = 2 then (idT tb x.up).2 else true) && (if x.before = 0 then true else (idT tb x.before).2))) := by
      unfold idT inT
      by_cases a1:x.node<(tb.length:Int)
      · by_cases a2:x.up<(tb.length:Int)
        · by_cases a3:x.before<(tb.length:Int)
          · rw [if_neg (show ¬ (x.node<0∨(tb.length:Int)≤x.node) by omega),if_neg (show ¬ (x.up<0∨(tb.length:Int)≤x.up) by omega),if_neg (show ¬ (x.before<0∨(tb.length:Int)≤x.before) by omega)]
            simp [k1,a1,a2,a3]
          · have a4:x.before≠0:=by omega
            rw [if_pos (show (x.before<0∨(tb.length:Int)≤x.before) by omega)]
            simp [k1,a1,a2,a3,a4]
        · have k2:x.kind=2:=by
            by_cases k2:x.kind=2
            · exact k2
            · have:=hup k2;omega
          rw [if_pos (show (x.up<0∨(tb.length:Int)≤x.up) by omega)]
          simp [k1,k2,a2]
      · rw [if_pos (show (x.node<0∨(tb.length:Int)≤x.node) by omega)]
        simp [k1,a1]
    rw [hb]
    rw [acall_code T80,run_code rfl rfl]
    generalize idT tb x.node=a at *
    generalize idT tb x.up=b at *
    generalize idT tb x.before=c at *
    obtain ⟨a1,a2⟩:=a
    obtain ⟨b1,b2⟩:=b
    obtain ⟨c1,c2⟩:=c
    dsimp only at i1 i2 i3 ⊢
    by_cases k2:x.kind=2
    · rw [if_pos k2,if_pos k2]
      by_cases z:x.before=0
      · rw [if_pos z,if_pos z]
        rw [z] at i3
        cases a2 <;> cases b2 <;> simp -implicitDefEqProofs (disch:=omega) only [Rx,simprocAttr,F80,GOp.pv,attrsPV,k2,z,i1,i2,i3]
      · have z1:(x.before==0)=false:=by simpa using z
        rw [if_neg z,if_neg z]
        cases a2 <;> cases b2 <;> cases c2 <;> simp -implicitDefEqProofs (disch:=omega) only [Rx,simprocAttr,F80,GOp.pv,attrsPV,k2,z1,i1,i2,i3]
    · have e2:(x.kind==2)=false:=by simpa using k2
      rw [if_neg k2,if_neg k2]
      by_cases z:x.before=0
      · rw [if_pos z,if_pos z]
        rw [z] at i3
        cases a2 <;> simp -implicitDefEqProofs (disch:=omega) only [Rx,simprocAttr,F80,GOp.pv,attrsPV,e1,e2,z,i1,i2,i3]
      · have z1:(x.before==0)=false:=by simpa using z
        rw [if_neg z,if_neg z]
        cases a2 <;> cases c2 <;> simp -implicitDefEqProofs (disch:=omega) only [Rx,simprocAttr,F80,GOp.pv,attrsPV,e1,e2,z1,i1,i2,i3]
  · have hin:=hin.resolve_left k1
    unfold inT at hin
    unfold putO idT
    rw [if_neg k1,if_neg (show ¬ (x.node<0∨(tb.length:Int)≤x.node) by omega),if_neg (show ¬ (x.up<0∨(tb.length:Int)≤x.up) by omega),if_neg (show ¬ (x.before<0∨(tb.length:Int)≤x.before) by omega)]
end Tryz
end Go.TA


end
section
/- The nodes of rows: the program, and the document's answer. -/
namespace Go.TA.Tryz
theorem ibuild_run (l:List GRow) (hsm:Rows.small 1048577 l) (hc:check13 l=0) (hs:standTo l l.length) (hal:∀ x ∈ l,aloneErr x=0) (N0:Nat) (hN0:N0+1+l.length≤4294967296) {R0 pd pm:Nat} {S0':MS} {it0 nd0:Nat→Nat} {I0:Nat→LK} {g0:List AObj} (hD0:Doc R0 S0' it0 nd0 I0 pd pm g0) (hNe:S0'.N=N0+1) (hM0:Sim (fI N0) (T0 l 0) S0') (hLv:(liveL S0').length≤1) {n:Nat} (hn:5*1048578+4*bnd R0 (2*l.length)<n) :
  ∃ it nd I g k,acall T (n+1) 28 [DocP pd,.p (.list (l.map GRow.pv))] g0=some (.tuple [.own true k (l.length+1),.p (.int .i64 0)],g)∧Doc (bnd R0 (2*l.length)) (bldM N0 S0' l) it nd I pd pm g∧Sim (fI N0) (S0 l) (bldM N0 S0' l)∧g[k]? = some (.pcells 1 (intsPV (tabI N0 l.length)))∧GFr g0 (OwnD S0' it0 nd0 pd pm) g (OwnD (bldM N0 S0' l) it nd pd pm)∧¬ OwnD (bldM N0 S0' l) it nd pd pm k∧g0.length≤k∧(liveL (bldM N0 S0' l)).length≤1+l.length:=by
 have hlen:=hsm.len
 have ha:∀ x ∈ l,x.attrs.length≤1048577:=fun x hx=>by have:=(hsm.mid.row x hx).attrs;omega
 have hck:=flatCheckE_mid l hsm.mid (Nat.le_refl _) (n:=n - l.length - 43) (by omega) []
 have hnx:=next_doc hD0.lies (n - 1)
 rw [show n - 1+1=n by omega,hNe] at hnx
 obtain ⟨s,hl1,e,d1,d2,d3,d4,d5,d6⟩:=ib_loop l hs ha hal (by omega) N0 hN0 pd pm g0.length S0' it0 nd0 I0 g0 R0 hD0 hM0 hLv rfl (n:=n) (by omega)
 obtain ⟨i,S,it,nd,I,g⟩:=s
 simp only at hl1 e d1 d2 d3 d4 d5 d6
 subst e
 refine ⟨it,nd,I,g,g0.length, ?_,d1,d2,d3,d4,d5,Nat.le_refl _,d6⟩
 rw [hc] at hck
 have et:intsPV (tabI N0 0)=[[.int .i64 0]]:=rfl
 rw [et] at hl1
 have hll:(l.map GRow.pv).length=l.length:=by simp
 have hle:¬ ((N0+1:Nat):Int)+(l.length:Int) > 4294967296:=by omega
 simp only [ibS,Int.natCast_zero] at hl1
 have hnb:0≤((N0+1:Nat):Int)∧((N0+1:Nat):Int)+(l.length:Int)≤4294967296:=by omega
 generalize ((N0+1:Nat):Int)=nx at hnx hle hnb
 rw [acall_code T28,run_code rfl rfl]
 rw [show n - l.length - 43+l.length+43=n by omega] at hck
 simp -implicitDefEqProofs (disch:=omega) only [Rx,simprocAttr,F28,hck,hnx,hll,hle,hl1]
structure RBSt where
 i:Nat
 S:MS
 av:Nat→AV
 g:List AObj
def rbS (l:List GRow) (p k:Nat) (s:RBSt):St:=⟨[(0,DP p),(1,.p (.list (l.map GRow.pv))),(6,.own true k (s.i+1)),(21,.p (.int .i64 l.length)),(22,.p (.int .i64 s.i))],[],s.g⟩
theorem rb_loop (l:List GRow) (hsm:Rows.small 1048577 l) (hs:standTo l l.length) (hal:∀ x ∈ l,aloneErr x=0) (N0:Nat) (hN0:N0+1+l.length≤4294967296) (R0:Nat) (S0':MS) (hok:S0'.Ok R0) (hM0:Sim (fI N0) (T0 l 0) S0') (hLv:(liveL S0').length≤1) (av0:Nat→AV) (p q k:Nat) (g0:List AObj) (hR:RTb S0' av0 p q k (tabI N0 0) g0) {n:Nat} (hn:4*1048578+4*bnd R0 (2*l.length)<n) :
  ∃ s:RBSt,aexec (acall T n) n (.loop B29x0) (rbS l p k ⟨0,S0',av0,g0⟩)=some (.exit 0,⟨[(6,.own true k (l.length+1))],[],s.g⟩)∧RTb (bldM N0 S0' l) s.av p q k (tabI N0 l.length) s.g∧GFr g0 (OwnT S0' av0 p q k) s.g (OwnT (bldM N0 S0' l) s.av p q k):=by
 have hlen:=hsm.len
 have ha:∀ x ∈ l,x.attrs.length≤1048577:=fun x hx=>by have:=(hsm.mid.row x hx).attrs;omega
 have key:=loop_inv (C:=acall T n) (N:=n) (B:=B29x0) (σ := RBSt) (S:=rbS l p k)
  (I:=fun s=>s.i≤l.length∧s.S=bldM N0 S0' (l.take s.i)∧s.S.Ok (bnd R0 (2*s.i))∧RTb s.S s.av p q k (tabI N0 s.i) s.g∧Sim (fI N0) (T0 l s.i) s.S∧GFr g0 (OwnT S0' av0 p q k) s.g (OwnT s.S s.av p q k)∧(liveL s.S).length≤1+s.i) (μ := fun s=>l.length - s.i)
  (Q:=fun z=>∃ s:RBSt,z=(.exit 0,⟨[(6,.own true k (l.length+1))],[],s.g⟩)∧RTb (bldM N0 S0' l) s.av p q k (tabI N0 l.length) s.g∧GFr g0 (OwnT S0' av0 p q k) s.g (OwnT (bldM N0 S0' l) s.av p q k)) ?_ ⟨0,S0',av0,g0⟩ ⟨by simp only;omega,rfl,hok,hR,hM0,GFr.refl _ _,by simp only;omega⟩ (by simp only;omega)
 ·obtain ⟨z,hz,s,rfl,h1⟩:=key
  exact ⟨s,hz,h1⟩
 rintro ⟨i,S,av,g⟩ ⟨hi,hSe,hS,hD,hM,hF,hlv⟩
 simp only at hi hSe hS hD hM hF hlv
 by_cases h:i<l.length
 ·left
  obtain ⟨x,hx⟩:=get_some h
  have hxm:=List.mem_of_getElem? hx
  have hgx:=getD_map (f:=GRow.pv) hx
  have hu0:=hs i x h hx
  obtain ⟨u,hu⟩:∃ u:Nat,x.up=(u:Int):=⟨x.up.toNat,by omega⟩
  have hb:=bnd_mono R0 (show 2*i+1≤2*l.length by omega)
  have hbe:bnd R0 (2*i+1)=bnd R0 (2*i)+bnd R0 (2*i)+1:=rfl
  have k1:(i:Int)<(l.length:Int):=by omega
  have hSN':S.N=N0+1+i:=by
   have h:fI N0 (i+1+0)=S.N+0:=hM.next 0
   rw [fI_pos (by omega)] at h;omega
  have hce:=createErr_alone (hal x hxm) (N:=S.N) (by omega)
  obtain ⟨b1,b2,b3,b4⟩:=built_step hs ha hS hM hx hu hce
  have hax:=ha x hxm
  have hsa:smallAttrs (crO x).attrs:=(hsm.mid.row x hxm).small
  obtain ⟨av1,g1,d1,m1,f1⟩:=createD_run hD.dm (by omega) (crO x) hsa (n:=n - 37) (by show x.attrs.length<n - 37;omega) (by omega)
  rw [show n - 37+37=n by omega,if_pos hce] at d1
  rw [if_pos hce] at m1 f1
  obtain ⟨w1,v1⟩:=hD.turn m1 f1.gfr
  have hOk1:=hS.create (crO x) hax
  have hlv1:(liveL (S.create (crO x))).length≤1+i+1:=by rw [liveL_create,List.length_append];simp;omega
  obtain ⟨av2,g2,d2,m2,f2⟩:=insertD_run hOk1 w1.dm (by omega) (S.N:Int) (fI N0 u:Int) 0 (n:=n - 4) (by omega) (by omega)
  rw [show n - 4+4=n by omega] at d2
  have hins:insertD (S.create (crO x)) (S.N:Int) (fI N0 u:Int) 0=(0,placeM (S.create (crO x)) S.N (fI N0 u) 0):=by
   have:=b3
   unfold doD at this
   rw [if_neg (show ¬ (inO (S.N:Int) (fI N0 u)).kind=1 from fun e=>by cases e),if_pos (show (inO (S.N:Int) (fI N0 u)).kind=2 from rfl)] at this
   have h2:=(Prod.mk.inj this).2
   exact h2
  rw [hins] at d2 m2 f2
  dsimp only at d2 m2 f2
  have m2':DM (liveL (placeM (S.create (crO x)) S.N (fI N0 u) 0)) (placeM (S.create (crO x)) S.N (fI N0 u) 0).st (placeM (S.create (crO x)) S.N (fI N0 u) 0).kd (placeM (S.create (crO x)) S.N (fI N0 u) 0).N av2 p q g2:=m2
  obtain ⟨w2,v2⟩:=w1.turn m2' f2.gfr
  obtain ⟨w3,v3⟩:=w2.set (tabI N0 (i+1))
  have hOk2:(placeM (S.create (crO x)) S.N (fI N0 u) 0).Ok (bnd R0 (2*i)+bnd R0 (2*i)+1):=by
   have:=insertD_ok hOk1 (S.N:Int) (fI N0 u:Int) 0
   rw [hins] at this
   exact this
  have hrow1:=w1.row
  have hrow2:=w2.row
  have il:=intsPV_len (tabI N0 i)
  have tl:=tabI_len N0 i
  have hgu:=intsPV_get (tabI_get (N0:=N0) (show u≤i by omega))
  have e1:(fI N0 (i+1):Int)=(S.N:Int):=by rw [fI_pos (by omega)];omega
  have os:=intsPV_snoc (tabI N0 i) (S.N:Int)
  rw [← e1, ← tabI_next,e1] at os
  have ol:(intsPV (tabI N0 (i+1))).length=i+1+1:=by rw [intsPV_len,tabI_len]
  refine ⟨⟨i+1,placeM (S.create (crO x)) S.N (fI N0 u) 0,av2,g2.set k (.pcells 1 (intsPV (tabI N0 (i+1))))⟩, ?_,⟨by simp only;omega, ?_,hOk2.more (by show _≤bnd R0 (2*i+1)+bnd R0 (2*i+1)+1;omega),w3,b4,((hF.trans v1).trans v2).trans v3, ?_⟩,by simp only;omega⟩
  ·simp only [rbS]
   simp only [crO] at d1
   generalize intsPV (tabI N0 (i+1))=Y at os ol ⊢
   generalize intsPV (tabI N0 i)=X at *
   simp -implicitDefEqProofs (disch:=omega) only [Rx,simprocAttr,B29x0,k1,hgx,GRow.pv,attrsPV,d1,hrow1,hgu,hu,il,tl,d2,hrow2,os,ol]
  ·simp only
   rw [bldM_step hx, ← hSe,hu];rfl
  ·simp only
   have hll2:liveL (placeM (S.create (crO x)) S.N (fI N0 u) 0)=liveL (S.create (crO x)):=liveL_place _ _ _ _
   rw [hll2];omega
 ·right
  obtain rfl:i=l.length:=by omega
  have k1:¬ (l.length:Int)<(l.length:Int):=by omega
  rw [List.take_length] at hSe
  refine ⟨_, ?_, ?_,⟨l.length,S,av,g⟩,rfl,by rw [← hSe];exact hD,by rw [← hSe];exact hF⟩
  ·simp only [rbS]
   simp -implicitDefEqProofs (disch:=omega) only [Rx,simprocAttr,B29x0,k1]
  ·simp
theorem rbuild_run (l:List GRow) (hsm:Rows.small 1048577 l) (hs:standTo l l.length) (hal:∀ x ∈ l,aloneErr x=0) (N0:Nat) (hN0:N0+1+l.length≤4294967296) {R0:Nat} {S0':MS} (hok:S0'.Ok R0) (hNe:S0'.N=N0+1) (hM0:Sim (fI N0) (T0 l 0) S0') (hLv:(liveL S0').length≤1) {av0:Nat→AV} {p q:Nat} {g0:List AObj} (hD:DM (liveL S0') S0'.st S0'.kd S0'.N av0 p q g0) {n:Nat} (hn:4*1048578+4*bnd R0 (2*l.length)<n) :
  ∃ av g k,acall T (n+1) 29 [DP p,.p (.list (l.map GRow.pv))] g0=some (.tuple [.own true k (l.length+1),.p (.int .i64 0)],g)∧DM (liveL (bldM N0 S0' l)) (bldM N0 S0' l).st (bldM N0 S0' l).kd (bldM N0 S0' l).N av p q g∧g[k]? = some (.pcells 1 (intsPV (tabI N0 l.length)))∧GFr g0 (OwnR (liveL S0') av0 p q) g (OwnR (liveL (bldM N0 S0' l)) av p q)∧¬ OwnR (liveL (bldM N0 S0' l)) av p q k∧g0.length≤k:=by
 have hlt:∀ j,OwnR (liveL S0') av0 p q j→j<g0.length:=fun j hj=>hD.own_lt hj
 have hR0:RTb S0' av0 p q g0.length (tabI N0 0) (g0++[.pcells 1 (intsPV (tabI N0 0))]):=⟨hD.stay fun j hj=>List.getElem?_append_left (hlt j hj),by simp,fun h=>by have:=hlt _ h;omega⟩
 obtain ⟨s,hl1,d1,d2⟩:=rb_loop l hsm hs hal N0 hN0 R0 S0' hok hM0 hLv av0 p q g0.length _ hR0 hn
 obtain ⟨i,S,av,g⟩:=s
 simp only at hl1 d1 d2
 refine ⟨av,g,g0.length, ?_,d1.dm,d1.row,⟨by have:=d2.len;simp at this;omega,fun j hj hn => ?_,fun j hj hl => ?_⟩,d1.sep,Nat.le_refl _⟩
 ·have et:intsPV (tabI N0 0)=[[.int .i64 0]]:=rfl
  rw [et] at hl1
  have hll:(l.map GRow.pv).length=l.length:=by simp
  have hob:=hD.core.obj
  have hle:¬ ((N0+1:Nat):Int)+(l.length:Int) > 4294967296:=by omega
  rw [hNe] at hob
  simp only [rbS,Int.natCast_zero] at hl1
  have hnb:0≤((N0+1:Nat):Int)∧((N0+1:Nat):Int)+(l.length:Int)≤4294967296:=by omega
  generalize ((N0+1:Nat):Int)=nx at hob hle hnb
  rw [acall_code T29,run_code rfl rfl]
  simp -implicitDefEqProofs (disch:=omega) only [Rx,simprocAttr,F29,hob,hll,hle,hl1]
 ·rw [d2.keep j (by simp;omega) (fun h=>by
   rcases h with h | h
   ·exact hn h
   ·omega),List.getElem?_append_left hj]
 ·rcases d2.refs j (.inl hj) (by simp;omega) with h | h
  ·exact h
  ·omega
end Go.TA.Tryz


end
section
/- A script on a document, with a table: the program. -/
namespace Go.TA.Tryz
noncomputable def runT:MS→List Int→List GOp→Nat→(List Int × Nat × Int) × MS
 | S,tb,[],i=>((tb,i,0),S)
 | S,tb,x::l,i=>if opErr x≠0 then (([],i,opErr x),S) else if (oneT S tb x).1≠0 then (([],i,(oneT S tb x).1),(oneT S tb x).2.1) else runT (oneT S tb x).2.1 (oneT S tb x).2.2 l (i+1)
theorem runT_drop {L:List GOp} {i:Nat} {x:GOp} (hx:L[i]? = some x) (S:MS) (tb:List Int):runT S tb (L.drop i) i=if opErr x≠0 then (([],i,opErr x),S) else if (oneT S tb x).1≠0 then (([],i,(oneT S tb x).1),(oneT S tb x).2.1) else runT (oneT S tb x).2.1 (oneT S tb x).2.2 (L.drop (i+1)) (i+1):=by
 have:L.drop i=x::L.drop (i+1):=by rw [List.drop_eq_getElem?_toList_append,hx];rfl
 rw [this,runT]
theorem oneT_facts {R:Nat} {S:MS} (hS:S.Ok R) (tb:List Int) (x:GOp) (hx:x.attrs.length≤1048577):(oneT S tb x).2.1.Ok (R+R+1)∧(liveL (oneT S tb x).2.1).length≤(liveL S).length+1∧(oneT S tb x).2.2.length≤tb.length+1∧(oneT S tb x).2.1.N≤S.N+1:=by
 have hN:∀ y:GOp,(doD S y).2.2.N≤S.N+1:=fun y=>by rcases doD_N S y with ⟨_,_,_,h⟩ | ⟨_,h⟩ <;> omega
 have hp:(putO tb x).attrs=x.attrs:=by unfold putO;split <;> rfl
 unfold oneT
 split
 ·refine ⟨doD_ok hS x hx,doD_live hS x, ?_,hN x⟩
  dsimp only
  split
  ·simp
  ·omega
 split
 ·exact ⟨doD_ok hS _ (by rw [hp];exact hx),doD_live hS _,by dsimp only;omega,hN _⟩
 ·exact ⟨hS.more (by omega),by dsimp only;omega,by dsimp only;omega,by dsimp only;omega⟩
theorem cloneL_run (ks:List Int) (hl:ks.length≤4194304) (g:List AObj) (n:Nat):acall T (n+1) 78 [.p (.list (intsPV ks))] g=some (.own true g.length ks.length,g++[.pcells 1 (intsPV ks)]):=by
 rw [acall_prim T78]
 have h2:((intsPV ks).all fun x=>x.length==1)=true:=by simp [List.all_eq_true,intsPV]
 have h4:=intsPV_len ks
 have h3:ks.length*4096≤140737488355328:=by omega
 simp only [pCloneU,pCloneT,thaw,h4,bk_some,pClone,h2,h3,and_self,if_true]
section
variable {R:Nat} {S:MS} {it nd:Nat→Nat} {I:Nat→LK} {pd pm pr k:Nat} {tb:List Int} {g:List AObj}
theorem rnr_more (h:Rnr R S it nd I pd pm pr k tb g) {R':Nat} (hR:R≤R'):Rnr R' S it nd I pd pm pr k tb g:=⟨⟨h.doc.ok.more hR,h.doc.link,h.doc.lies⟩,h.obj,h.row,h.sepP,h.sepK,h.ne⟩
structure IRSt where
 i:Nat
 S:MS
 it:Nat→Nat
 nd:Nat→Nat
 I:Nat→LK
 tb:List Int
 g:List AObj
def irS (L:List GOp) (pr:Nat) (s:IRSt):St:=⟨[(2,.p (.list (L.map GOp.pv))),(9,RP pr),(10,.bound 79 [RP pr]),(23,.p (.list (L.map GOp.pv))),(24,.p (.int .i64 L.length)),(25,.p (.int .i64 s.i))],[],s.g⟩
theorem ir_loop (L:List GOp) (hL:∀ x ∈ L,x.attrs.length≤1048576) (hLl:L.length≤1048575) (hR:Rnr R S it nd I pd pm pr k tb g) (htb:tb.length≤2097152) (hlv:(liveL S).length≤2097152) {n:Nat} (hn:8*1048578+4*bnd R L.length<n) :
    ∃ q, aexec (acall T n) n (.loop B30x0) (irS L pr ⟨0, S, it, nd, I, tb, g⟩) = some q ∧ ∃ S' it' nd' I' tb' g', Rnr (bnd R L.length) S' it' nd' I' pd pm pr k tb' g' ∧ GFr g (OwnN S it nd pd pm pr k) g' (OwnN S' it' nd' pd pm pr k) ∧ S'.N ≤ S.N + L.length ∧ (liveL S').length ≤ (liveL S).length + L.length ∧ tb'.length ≤ tb.length + L.length ∧
      ((q=(.exit 0,⟨[(2,.p (.list (L.map GOp.pv))),(9,RP pr)],[],g'⟩)∧runT S tb L 0=((tb',L.length,0),S'))∨∃ (j:Nat) (e:Int),q=(.ret,⟨[(6,.p (.list [])),(7,.p (.int .i64 j)),(8,.p (.int .i64 e))],[],g'⟩)∧e≠0∧runT S tb L 0=(([],j,e),S')):=by
  have hlL:(L.map GOp.pv).length=L.length:=by simp
  refine loop_inv (C:=acall T n) (N:=n) (B:=B30x0) (σ := IRSt) (S:=irS L pr)
    (I:=fun s=>s.i≤L.length∧Rnr (bnd R s.i) s.S s.it s.nd s.I pd pm pr k s.tb s.g∧GFr g (OwnN S it nd pd pm pr k) s.g (OwnN s.S s.it s.nd pd pm pr k)∧s.S.N≤S.N+s.i∧(liveL s.S).length≤(liveL S).length+s.i∧s.tb.length≤tb.length+s.i∧runT S tb L 0=runT s.S s.tb (L.drop s.i) s.i) (μ := fun s=>L.length - s.i)
    (Q:=fun q=>∃ S' it' nd' I' tb' g',Rnr (bnd R L.length) S' it' nd' I' pd pm pr k tb' g'∧GFr g (OwnN S it nd pd pm pr k) g' (OwnN S' it' nd' pd pm pr k)∧S'.N≤S.N+L.length∧(liveL S').length≤(liveL S).length+L.length∧tb'.length≤tb.length+L.length ∧
      ((q=(.exit 0,⟨[(2,.p (.list (L.map GOp.pv))),(9,RP pr)],[],g'⟩)∧runT S tb L 0=((tb',L.length,0),S'))∨∃ (j:Nat) (e:Int),q=(.ret,⟨[(6,.p (.list [])),(7,.p (.int .i64 j)),(8,.p (.int .i64 e))],[],g'⟩)∧e≠0∧runT S tb L 0=(([],j,e),S'))) ?_ ⟨0,S,it,nd,I,tb,g⟩ ⟨by simp only;omega,hR,GFr.refl _ _,by simp only;omega,by simp only;omega,by simp only;omega,rfl⟩ (by simp only;omega)
  rintro ⟨i,S1,it1,nd1,I1,tb1,g1⟩ ⟨hi,hD,hF,hN,hv,ht,hrun⟩
  simp only at hi hD hF hN hv ht hrun
  by_cases h:i<L.length
  · obtain ⟨x,hx⟩:=get_some h
    have hxm:=List.mem_of_getElem? hx
    have hgx:=getD_map (f:=GOp.pv) hx
    have hb:=bnd_mono R (show i≤L.length by omega)
    have hb1:=bnd_mono R (show i+1≤L.length by omega)
    have k1:(i:Int)<(L.length:Int):=by omega
    have hax:=hL x hxm
    have hck:=opsP_run x [] (n:=n - 38) (by omega) hax
    rw [show n - 38+38=n by omega] at hck
    rw [runT_drop hx] at hrun
    by_cases he:opErr x=0
    rotate_left
    · right
      have he1:(opErr x==0)=false:=by simpa using he
      rw [if_pos he] at hrun
      refine ⟨(.ret,⟨[(6,.p (.list [])),(7,.p (.int .i64 i)),(8,.p (.int .i64 (opErr x)))],[],g1⟩), ?_,by simp,S1,it1,nd1,I1,tb1,g1,rnr_more hD hb,hF,by omega,by omega,by omega,.inr ⟨i,opErr x,rfl,he,hrun⟩⟩
      simp only [irS]
      simp only [GOp.pv,attrsPV] at hck
      generalize opErr x=e at hck he1 ⊢
      simp -implicitDefEqProofs (disch:=omega) only [Rx,simprocAttr,B30x0,k1,hgx,hlL,GOp.pv,attrsPV,hck,he1]
    rw [if_neg (by simpa using he)] at hrun
    rw [he] at hck
    obtain ⟨it2,nd2,I2,g2,d2,w2,f2⟩:=irone_run hD (by omega) x he (by omega) (n:=n - bnd R i - 41) (by omega) (by omega) (by omega)
    rw [show n - bnd R i - 41+bnd R i+41=n by omega] at d2
    obtain ⟨o1,o2,o3,o4⟩:=oneT_facts hD.doc.ok tb1 x (by omega)
    have hF2:=hF.trans f2
    by_cases hz:(oneT S1 tb1 x).1=0
    · left
      rw [if_neg (by simpa using hz)] at hrun
      refine ⟨⟨i+1,(oneT S1 tb1 x).2.1,it2,nd2,I2,(oneT S1 tb1 x).2.2,g2⟩, ?_,⟨by simp only;omega,w2,hF2,by simp only;omega,by simp only;omega,by simp only;omega,hrun⟩,by simp only;omega⟩
      rw [hz] at d2
      simp only [irS]
      simp only [GOp.pv,attrsPV] at hck d2
      simp -implicitDefEqProofs (disch:=omega) only [Rx,simprocAttr,B30x0,k1,hgx,hlL,GOp.pv,attrsPV,hck,d2]
    · right
      have hz1:((oneT S1 tb1 x).1==0)=false:=by simpa using hz
      rw [if_pos hz] at hrun
      refine ⟨(.ret,⟨[(6,.p (.list [])),(7,.p (.int .i64 i)),(8,.p (.int .i64 (oneT S1 tb1 x).1))],[],g2⟩), ?_,by simp,_,it2,nd2,I2,_,g2,rnr_more w2 hb1,hF2,by omega,by omega,by omega,.inr ⟨i,_,rfl,hz,hrun⟩⟩
      simp only [irS]
      simp only [GOp.pv,attrsPV] at hck d2
      generalize (oneT S1 tb1 x).1=e at d2 hz1 ⊢
      simp -implicitDefEqProofs (disch:=omega) only [Rx,simprocAttr,B30x0,k1,hgx,hlL,GOp.pv,attrsPV,hck,d2,hz1]
  · right
    obtain rfl:i=L.length:=by omega
    have k1:¬ (L.length:Int)<(L.length:Int):=by omega
    rw [List.drop_length,runT] at hrun
    refine ⟨_, ?_, ?_,S1,it1,nd1,I1,tb1,g1,hD,hF,hN,hv,ht,.inl ⟨rfl,hrun⟩⟩
    · simp only [irS]
      simp -implicitDefEqProofs (disch:=omega) only [Rx,simprocAttr,B30x0,k1]
    · simp
inductive Told (g:List AObj) (O:Nat→Prop):AV→List Int→Prop
 | none:Told g O (.p (.list [])) []
 | own {k:Nat} {tb:List Int}:g[k]? = some (.pcells 1 (intsPV tb))→¬ O k→Told g O (.own true k tb.length) tb
theorem irun_run (hD : Doc R S it nd I pd pm g) (tb : List Int) (L : List GOp) (hL : ∀ x ∈ L, x.attrs.length ≤ 1048576) (hLl : L.length ≤ 1048575) (htb : tb.length ≤ 2097152) (hlv : (liveL S).length ≤ 2097152) {n : Nat} (hn : 8 * 1048578 + 4 * bnd R L.length < n) :
    ∃ it' nd' I' g' r, acall T (n + 1) 30 [DocP pd, .p (.list (intsPV tb)), .p (.list (L.map GOp.pv))] g = some (.tuple [r, .p (.int .i64 (runT S tb L 0).1.2.1), .p (.int .i64 (runT S tb L 0).1.2.2)], g') ∧ Doc (bnd R L.length) (runT S tb L 0).2 it' nd' I' pd pm g' ∧ GFr g (OwnD S it nd pd pm) g' (OwnD (runT S tb L 0).2 it' nd' pd pm)
      ∧ Told g' (OwnD (runT S tb L 0).2 it' nd' pd pm) r (runT S tb L 0).1.1∧(runT S tb L 0).2.N≤S.N+L.length∧(liveL (runT S tb L 0).2).length≤(liveL S).length+L.length∧(∀ k m,r = .own true k m→g.length≤k)∧(runT S tb L 0).1.1.length≤tb.length+L.length:=by
  have hcl:=cloneL_run tb (by omega) g (n - 1)
  rw [show n - 1+1=n by omega] at hcl
  have hlt:∀ j,OwnD S it nd pd pm j→j<g.length:=fun j hj=>hD.lies.own_lt hj
  have hlL:(L.map GOp.pv).length=L.length:=by simp
  have hR0:Rnr R S it nd I pd pm (g.length+1) g.length tb (g++[.pcells 1 (intsPV tb)]++[.cells 2 [[DocP pd,.own true g.length tb.length]]]):=by
    refine ⟨⟨hD.ok,hD.link,(hD.lies.more _).more _⟩, ?_, ?_,fun h=>by have:=hlt _ h;omega,fun h=>by have:=hlt _ h;omega,by omega⟩
    · rw [List.getElem?_append_right (by simp)];simp
    · rw [List.append_assoc,List.getElem?_append_right (Nat.le_refl _)];simp
  obtain ⟨q,hq,S',it',nd',I',tb',g',w,f,b1,b2,b4,b3⟩:=ir_loop L hL hLl hR0 htb hlv hn
  have hg2l:(g++[AObj.pcells 1 (intsPV tb)]++[AObj.cells 2 [[DocP pd,.own true g.length tb.length]]]).length=g.length+2:=by simp
  have hF:GFr g (OwnD S it nd pd pm) g' (OwnD S' it' nd' pd pm):=by
    refine ⟨by have:=f.len;omega,fun j hj hn => ?_,fun j hj hl => ?_⟩
    · rw [f.keep j (by omega) (fun h=>by
        rcases h with h | h | h
        · exact hn h
        · omega
        · omega),List.append_assoc,List.getElem?_append_left hj]
    · rcases f.refs j (.inl hj) (by omega) with h | h | h
      · exact h
      · omega
      · omega
  have e1:(g++[AObj.pcells 1 (intsPV tb)]).length=g.length+1:=by simp
  simp only [irS,Int.natCast_zero] at hq
  rcases b3 with ⟨rfl,hrun⟩ | ⟨j,e,rfl,he,hrun⟩
  · rw [hrun]
    dsimp only
    refine ⟨it',nd',I',g',.own true g.length tb'.length, ?_,w.doc,hF,.own w.row w.sepK,b1,b2,fun k m h=>by cases h;exact Nat.le_refl _,b4⟩
    have wo:=w.obj
    rw [acall_code T30,run_code rfl rfl]
    generalize hG1:g++[AObj.pcells 1 (intsPV tb)]=G1 at hcl hq e1
    simp -implicitDefEqProofs (disch:=omega) only [Rx,simprocAttr,F30,hcl,e1,hq,wo,hlL]
  · rw [hrun]
    dsimp only
    refine ⟨it',nd',I',g',.p (.list []), ?_,w.doc,hF,.none,b1,b2,fun k m h=>(by cases h),by simp⟩
    rw [acall_code T30,run_code rfl rfl]
    generalize hG1:g++[AObj.pcells 1 (intsPV tb)]=G1 at hcl hq e1
    simp -implicitDefEqProofs (disch:=omega) only [Rx,simprocAttr,F30,hcl,e1,hq,hlL]
theorem irun_nil (tb:List Int) (L:List GOp) (g:List AObj) (n:Nat):acall T (n+1) 30 [.p .nilp,.p (.list (intsPV tb)),.p (.list (L.map GOp.pv))] g=some (.tuple [.p (.list []),.p (.int .i64 0),.p (.int .i64 1)],g):=by
 rw [acall_code T30,run_code rfl rfl]
 simp -implicitDefEqProofs (disch:=omega) only [Rx,simprocAttr,F30]
theorem table_nil (g:List AObj) (n:Nat):acall T (n+1) 36 [.p .nilp] g=some (.p (.list []),g):=by
 rw [acall_code T36,run_code rfl rfl]
 simp -implicitDefEqProofs (disch:=omega) only [Rx,simprocAttr,F36]
end
end Go.TA.Tryz


end
section
/- The guard of most laws: whether operations are few. -/
set_option maxHeartbeats 1000000
namespace Go.TA.Tryz
theorem attr_get {l:List Attr} {i:Nat} {a:Attr} (h:l[i]? = some a):(l.map Attr.pv).getD i []=[.str a.name,.str a.value]:=by
 rw [List.getD_eq_getElem?_getD,List.getElem?_map,h];rfl
theorem few_attr {C:Calls'} {N:Nat} (x:GOp) (p0 p11 p12:PV) (g:List AObj) (i:Nat) (a:Attr) (left:Int) (h:x.attrs[i]? = some a) (hb:x.attrs.length≤1048576) (ha:a.value.length+a.name.length≤1048576) (hl : -4611686018427387904≤left) (hl2:left≤4611686018427387904) :
  aexec C N B12x1 ⟨[(0,.p p0),(5,.p (.int .i64 left)),(7,.ptr false 7 9 1 0 0),(11,.p p11),(12,.p p12),(46,.p (.int .i64 x.attrs.length)),(47,.p (.int .i64 i))],[(7,.pcells 9 [x.pv])],g⟩ =
   some (.normal,⟨[(0,.p p0),(5,.p (.int .i64 (left - ((a.value.length:Int)+a.name.length).tdiv 4096))),(7,.ptr false 7 9 1 0 0),(11,.p p11),(12,.p p12),(46,.p (.int .i64 x.attrs.length)),(47,.p (.int .i64 (i+1)))],[(7,.pcells 9 [x.pv])],g⟩):=by
 have hlt:i<x.attrs.length:=(List.getElem?_eq_some_iff.1 h).1
 have h1:(i:Int)<(x.attrs.length:Int):=by omega
 have h2:=attr_get h
 have q:0≤((a.value.length:Int)+(a.name.length:Int)).tdiv 4096∧((a.value.length:Int)+(a.name.length:Int)).tdiv 4096≤1048576:=by
  rw [Int.tdiv_eq_ediv_of_nonneg (by omega)];omega
 generalize hq:((a.value.length:Int)+(a.name.length:Int)).tdiv 4096=d at q ⊢
 obtain ⟨w1,w2,w3,w4⟩:IntKind.i64.wrap ((a.value.length:Int)+(a.name.length:Int))=(a.value.length:Int)+(a.name.length:Int)∧IntKind.i64.wrap d=d∧IntKind.i64.wrap (left - d)=left - d∧IntKind.i64.wrap ((i:Int)+1)=(i:Int)+1 :=
  ⟨wrap_id (by omega) (by omega),wrap_id (by omega) (by omega),wrap_id (by omega) (by omega),wrap_id (by omega) (by omega)⟩
 simp -implicitDefEqProofs (disch:=omega) only [Rx,simprocAttr,B12x1,h1,h2,GOp.pv,attrsPV,w1,hq,w2,w3,w4]
theorem few_attr_end {C:Calls'} {N:Nat} (x:GOp) (p0 p11 p12:PV) (g:List AObj) (left:Int) :
  aexec C N B12x1 ⟨[(0,.p p0),(5,.p (.int .i64 left)),(7,.ptr false 7 9 1 0 0),(11,.p p11),(12,.p p12),(46,.p (.int .i64 x.attrs.length)),(47,.p (.int .i64 x.attrs.length))],[(7,.pcells 9 [x.pv])],g⟩ =
   some (.exit 2,⟨[(0,.p p0),(5,.p (.int .i64 left)),(11,.p p11),(12,.p p12)],[],g⟩):=by
 have h1:¬ ((x.attrs.length:Int)<(x.attrs.length:Int)):=by omega
 simp -implicitDefEqProofs (disch:=omega) only [Rx,simprocAttr,B12x1,h1]
def smallAttrs (l:List Attr):Prop:=∀ a ∈ l,a.value.length+a.name.length≤1048576
theorem few_attrs {C:Calls'} {N:Nat} (x:GOp) (p0 p11 p12:PV) (g:List AObj) (hb:x.attrs.length≤1048576) (hs:smallAttrs x.attrs) (rest:List Attr):∀ (pre:List Attr) (m:Nat) (left:Int),x.attrs=pre++rest→rest.length<m →
    -4611686018427387904+1048576*(rest.length:Int)≤left→left≤4611686018427387904 →
    aloop C N B12x1 m ⟨[(0,.p p0),(5,.p (.int .i64 left)),(7,.ptr false 7 9 1 0 0),(11,.p p11),(12,.p p12),(46,.p (.int .i64 x.attrs.length)),(47,.p (.int .i64 pre.length))],[(7,.pcells 9 [x.pv])],g⟩ =
      some (.exit 2,⟨[(0,.p p0),(5,.p (.int .i64 (attrsLeft rest left))),(11,.p p11),(12,.p p12)],[],g⟩):=by
  induction rest with
  | nil =>
    intro pre m left hd hm h1 h2
    obtain ⟨m,rfl⟩:∃ k,m=k+1:=⟨m - 1,by simp at hm;omega⟩
    have e:pre.length=x.attrs.length:=by rw [hd];simp
    rw [e,aloop_succ,few_attr_end,bl_exit];rfl
  | cons a rest ih =>
    intro pre m left hd hm h1 h2
    obtain ⟨m,rfl⟩:∃ k,m=k+1:=⟨m - 1,by simp at hm;omega⟩
    have hget:x.attrs[pre.length]? = some a:=by rw [hd];simp
    have hmem:a ∈ x.attrs:=List.mem_of_getElem? hget
    simp only [List.length_cons,Int.natCast_add,Int.natCast_one] at hm h1
    have q:0≤((a.value.length:Int)+(a.name.length:Int)).tdiv 4096∧((a.value.length:Int)+(a.name.length:Int)).tdiv 4096≤1048576:=by
      have:=hs a hmem
      rw [Int.tdiv_eq_ediv_of_nonneg (by omega)];omega
    rw [aloop_succ,few_attr x p0 p11 p12 g pre.length a left hget hb (hs a hmem) (by omega) h2,bl_normal]
    have:=ih (pre++[a]) m (left - ((a.value.length:Int)+a.name.length).tdiv 4096) (by rw [hd];simp) (by omega) (by omega) (by omega)
    rw [List.length_append,Int.natCast_add] at this
    exact this
theorem few_attrs0 {C:Calls'} {N:Nat} (x:GOp) (p0 p11 p12:PV) (g:List AObj) (hb:x.attrs.length≤1048576) (hs:smallAttrs x.attrs) (hN:x.attrs.length<N) {left:Int} (h1 : -4611686018427387904+1048576*(x.attrs.length:Int)≤left) (h2:left≤4611686018427387904) :
  aexec C N (.loop B12x1) ⟨[(0,.p p0),(5,.p (.int .i64 left)),(7,.ptr false 7 9 1 0 0),(11,.p p11),(12,.p p12),(46,.p (.int .i64 x.attrs.length)),(47,.p (.int .i64 0))],[(7,.pcells 9 [x.pv])],g⟩ =
   some (.exit 2,⟨[(0,.p p0),(5,.p (.int .i64 (attrsLeft x.attrs left))),(11,.p p11),(12,.p p12)],[],g⟩):=by
 rw [aexec_loop]
 exact few_attrs x p0 p11 p12 g hb hs x.attrs [] N left rfl hN h1 h2
def smallOp (x:GOp):Prop:=x.attrs.length≤1048576∧smallAttrs x.attrs∧x.text.length+x.key.length+x.tag.length+x.name.length≤1048576
theorem smallOp_of {x:GOp} {n:Nat} (h:bulkL x.pv≤n) (hn:n≤1048576):smallOp x∧x.attrs.length<n:=by
 rw [bulk_op] at h
 obtain ⟨h1,h2⟩:=bulk_attrs x.attrs
 refine ⟨⟨by omega,fun a ha=>by have:=h1 a ha;omega,by omega⟩,by omega⟩
theorem attrsLeft_boundF (l:List Attr) (hs:smallAttrs l):∀ left:Int,left - 1048576*(l.length:Int)≤attrsLeft l left∧attrsLeft l left≤left:=by
  induction l with
  | nil=>intro left;simp [attrsLeft]
  | cons a l ih =>
    intro left
    have ha:=hs a (by simp)
    have q:0≤((a.value.length:Int)+(a.name.length:Int)).tdiv 4096∧((a.value.length:Int)+(a.name.length:Int)).tdiv 4096≤1048576:=by
      rw [Int.tdiv_eq_ediv_of_nonneg (by omega)];omega
    obtain ⟨z1,z2⟩:=ih (fun b hb=>hs b (by simp [hb])) (left - ((a.value.length:Int)+a.name.length).tdiv 4096)
    simp only [attrsLeft,List.length_cons,Int.natCast_add,Int.natCast_one]
    constructor <;> omega
theorem op_get {l:List GOp} {i:Nat} {x:GOp} (h:l[i]? = some x):(l.map GOp.pv).getD i []=x.pv:=by
 rw [List.getD_eq_getElem?_getD,List.getElem?_map,h];rfl
def fewCost (x:GOp):Int:=((x.text.length:Int)+x.key.length+x.tag.length+x.name.length).tdiv 4096
theorem fewCost_bound {x:GOp} (h:smallOp x):0≤fewCost x∧fewCost x≤1048576:=by
 have:=h.2.2
 unfold fewCost
 rw [Int.tdiv_eq_ediv_of_nonneg (by omega)];omega
theorem few_op {C:Calls'} {N:Nat} (l:List GOp) (g:List AObj) (i:Nat) (x:GOp) (left:Int) (h:l[i]? = some x) (hx:smallOp x) (hN:x.attrs.length<N) (hlen:l.length≤1048576) (hl : -1099511627776≤left) (hl2:left≤1099511627776) :
  aexec C N B12x0 ⟨[(0,.p (.list (l.map GOp.pv))),(5,.p (.int .i64 left)),(11,.p (.int .i64 l.length)),(12,.p (.int .i64 i))],[],g⟩ =
   if left - 1 - x.attrs.length - fewCost x<0 then some (.ret,⟨[(4,.p (.bool false))],[],g⟩) else
   some (.normal,⟨[(0,.p (.list (l.map GOp.pv))),(5,.p (.int .i64 (attrsLeft x.attrs (left - 1 - x.attrs.length - fewCost x)))),(11,.p (.int .i64 l.length)),(12,.p (.int .i64 (i+1)))],[],g⟩):=by
 have hlt:i<l.length:=(List.getElem?_eq_some_iff.1 h).1
 have h1:(i:Int)<(l.length:Int):=by omega
 have h2:=op_get h
 obtain ⟨b1,b2,b3⟩:=hx
 have q:=fewCost_bound (x:=x) ⟨b1,b2,b3⟩
 have hq:((x.text.length:Int)+x.key.length+x.tag.length+x.name.length).tdiv 4096=fewCost x:=rfl
 generalize fewCost x=d at q hq ⊢
 obtain ⟨w1,w2,w3,w4,w5,w6,w7,w8⟩:IntKind.i64.wrap ((x.text.length:Int)+x.key.length)=(x.text.length:Int)+x.key.length∧IntKind.i64.wrap ((x.text.length:Int)+x.key.length+x.tag.length)=(x.text.length:Int)+x.key.length+x.tag.length ∧
   IntKind.i64.wrap ((x.text.length:Int)+x.key.length+x.tag.length+x.name.length)=(x.text.length:Int)+x.key.length+x.tag.length+x.name.length∧IntKind.i64.wrap d=d∧IntKind.i64.wrap (left - 1)=left - 1 ∧
   IntKind.i64.wrap (left - 1 - x.attrs.length)=left - 1 - x.attrs.length∧IntKind.i64.wrap (left - 1 - x.attrs.length - d)=left - 1 - x.attrs.length - d∧IntKind.i64.wrap ((i:Int)+1)=(i:Int)+1 :=
  ⟨wrap_id (by omega) (by omega),wrap_id (by omega) (by omega),wrap_id (by omega) (by omega),wrap_id (by omega) (by omega),wrap_id (by omega) (by omega),wrap_id (by omega) (by omega),wrap_id (by omega) (by omega),wrap_id (by omega) (by omega)⟩
 have hloop:=few_attrs0 (C:=C) (N:=N) x (.list (l.map GOp.pv)) (.int .i64 l.length) (.int .i64 i) g b1 b2 hN (left:=left - 1 - x.attrs.length - d) (by omega) (by omega)
 by_cases hneg:left - 1 - x.attrs.length - d<0
 ·simp -implicitDefEqProofs (disch:=omega) only [Rx,simprocAttr,B12x0,h1,h2,GOp.pv,attrsPV,w1,hq,w2,w3,w4,w5,w6,w7,hneg]
 ·simp only [GOp.pv,attrsPV] at hloop
  simp -implicitDefEqProofs (disch:=omega) only [Rx,simprocAttr,B12x0,h1,h2,GOp.pv,attrsPV,w1,hq,w2,w3,w4,w5,w6,w7,w8,hneg,hloop]
def fewEnd (r:Option Int) (l:PV) (n:Int) (g:List AObj):Ex × St:=match r with
 | none=>(.ret,⟨[(4,.p (.bool false))],[],g⟩)
 | some left=>(.exit 0,⟨[(5,.p (.int .i64 left))],[],g⟩)
theorem few_op_end {C:Calls'} {N:Nat} (l:List GOp) (g:List AObj) (left:Int) :
  aexec C N B12x0 ⟨[(0,.p (.list (l.map GOp.pv))),(5,.p (.int .i64 left)),(11,.p (.int .i64 l.length)),(12,.p (.int .i64 l.length))],[],g⟩=some (.exit 0,⟨[(5,.p (.int .i64 left))],[],g⟩):=by
 have h1:¬ ((l.length:Int)<(l.length:Int)):=by omega
 simp -implicitDefEqProofs (disch:=omega) only [Rx,simprocAttr,B12x0,h1]
theorem few_ops {C:Calls'} {N:Nat} (l:List GOp) (g:List AObj) (hs:∀ x ∈ l,smallOp x∧x.attrs.length<N) (hlen:l.length≤1048576) (rest:List GOp):∀ (pre:List GOp) (m:Nat) (left:Int),l=pre++rest→rest.length<m→(pre≠[]→0≤left+1099511627776) → -1099511627776≤left→left≤1000000 →
    aloop C N B12x0 m ⟨[(0,.p (.list (l.map GOp.pv))),(5,.p (.int .i64 left)),(11,.p (.int .i64 l.length)),(12,.p (.int .i64 pre.length))],[],g⟩=some (fewEnd (fewOpsL rest left) (.list (l.map GOp.pv)) l.length g):=by
  induction rest with
  | nil =>
    intro pre m left hd hm _ h1 h2
    obtain ⟨m,rfl⟩:∃ k,m=k+1:=⟨m - 1,by simp at hm;omega⟩
    have e:pre.length=l.length:=by rw [hd];simp
    rw [e,aloop_succ,few_op_end,bl_exit];rfl
  | cons x rest ih =>
    intro pre m left hd hm _ h1 h2
    obtain ⟨m,rfl⟩:∃ k,m=k+1:=⟨m - 1,by simp at hm;omega⟩
    have hget:l[pre.length]? = some x:=by rw [hd];simp
    have hmem:x ∈ l:=List.mem_of_getElem? hget
    obtain ⟨hx,hN⟩:=hs x hmem
    rw [aloop_succ,few_op l g pre.length x left hget hx hN hlen (by omega) (by omega)]
    have hc:fewOpsL (x::rest) left=if left - 1 - x.attrs.length - fewCost x<0 then none else fewOpsL rest (attrsLeft x.attrs (left - 1 - x.attrs.length - fewCost x)):=rfl
    rw [hc]
    have q:=fewCost_bound hx
    by_cases hneg:left - 1 - x.attrs.length - fewCost x<0
    · rw [if_pos hneg,if_pos hneg,bl_ret];rfl
    · rw [if_neg hneg,if_neg hneg,bl_normal]
      have hb:=attrsLeft_boundF x.attrs hx.2.1 (left - 1 - x.attrs.length - fewCost x)
      have hb2:(x.attrs.length:Int)≤1000000:=by omega
      simp only [List.length_cons] at hm
      have:=ih (pre++[x]) m (attrsLeft x.attrs (left - 1 - x.attrs.length - fewCost x)) (by rw [hd];simp) (by omega) (by omega) (by omega) (by omega)
      rw [List.length_append,Int.natCast_add] at this
      exact this
theorem few_run (l:List GOp) (most:Int) (g:List AObj) {n:Nat} (hs:∀ x ∈ l,smallOp x∧x.attrs.length<n) (hlen:l.length≤1048576) (hn:l.length<n) (h1:0≤most) (h2:most≤1000000) :
    acall T (n+1) 12 [.p (.list (l.map GOp.pv)),.p (.int .i64 most)] g=some (.p (.bool (fewOps l most)),g):=by
  rw [acall_code T12,run_pure rfl rfl rfl]
  have hloop:=few_ops (C:=acall T n) (N:=n) l [] hs hlen l [] n most rfl hn (by simp) (by omega) (by omega)
  rw [← aexec_loop] at hloop
  cases hr:fewOpsL l most with
  | none =>
    rw [hr] at hloop
    simp -implicitDefEqProofs only [F12,fewEnd,List.length_nil,Int.natCast_zero] at hloop ⊢
    simp -implicitDefEqProofs (disch:=omega) only [Rx,simprocAttr,hloop,fewOps,hr]
  | some left =>
    rw [hr] at hloop
    simp -implicitDefEqProofs only [F12,fewEnd,List.length_nil,Int.natCast_zero] at hloop ⊢
    simp -implicitDefEqProofs (disch:=omega) only [Rx,simprocAttr,hloop,fewOps,hr]
end Go.TA.Tryz


end
section
/- A script with a table, and the nodes of rows: the document's answer. -/
namespace Go.TA.Tryz
section
variable {S:MS} {av:Nat→AV} {p q k:Nat} {tb:List Int} {g:List AObj}
structure RRSt where
 i:Nat
 S:MS
 av:Nat→AV
 q:Nat
 tb:List Int
 g:List AObj
def rrS (L:List GOp) (p k:Nat) (s:RRSt):St:=⟨[(0,DP p),(2,.p (.list (L.map GOp.pv))),(9,.own true k s.tb.length),(20,.p (.int .i64 L.length)),(21,.p (.int .i64 s.i))],[],s.g⟩
theorem rr_loop (R : Nat) (hok : S.Ok R) (L : List GOp) (hL : ∀ x ∈ L, smallOp x) (hLl : L.length ≤ 1048575) (hR : RTb S av p q k tb g) (htb : tb.length ≤ 2097152) (hlv : (liveL S).length ≤ 2097152) {n : Nat} (hn : 8 * 1048578 + 4 * bnd R L.length < n) :
    ∃ z, aexec (acall T n) n (.loop B31x0) (rrS L p k ⟨0, S, av, q, tb, g⟩) = some z ∧ ∃ S' av' q' tb' g', RTb S' av' p q' k tb' g' ∧ GFr g (OwnT S av p q k) g' (OwnT S' av' p q' k) ∧
      ((z=(.exit 0,⟨[(2,.p (.list (L.map GOp.pv))),(9,.own true k tb'.length)],[],g'⟩)∧runT S tb L 0=((tb',L.length,0),S'))∨∃ (j:Nat) (e:Int),z=(.ret,⟨[(6,.p (.list [])),(7,.p (.int .i64 j)),(8,.p (.int .i64 e))],[],g'⟩)∧runT S tb L 0=(([],j,e),S')):=by
  have hlL:(L.map GOp.pv).length=L.length:=by simp
  refine loop_inv (C:=acall T n) (N:=n) (B:=B31x0) (σ := RRSt) (S:=rrS L p k)
    (I:=fun s=>s.i≤L.length∧s.S.Ok (bnd R s.i)∧RTb s.S s.av p s.q k s.tb s.g∧GFr g (OwnT S av p q k) s.g (OwnT s.S s.av p s.q k)∧(liveL s.S).length≤(liveL S).length+s.i∧s.tb.length≤tb.length+s.i∧runT S tb L 0=runT s.S s.tb (L.drop s.i) s.i) (μ := fun s=>L.length - s.i)
    (Q:=fun z=>∃ S' av' q' tb' g',RTb S' av' p q' k tb' g'∧GFr g (OwnT S av p q k) g' (OwnT S' av' p q' k) ∧
      ((z=(.exit 0,⟨[(2,.p (.list (L.map GOp.pv))),(9,.own true k tb'.length)],[],g'⟩)∧runT S tb L 0=((tb',L.length,0),S'))∨∃ (j:Nat) (e:Int),z=(.ret,⟨[(6,.p (.list [])),(7,.p (.int .i64 j)),(8,.p (.int .i64 e))],[],g'⟩)∧runT S tb L 0=(([],j,e),S'))) ?_ ⟨0,S,av,q,tb,g⟩ ⟨by simp only;omega,hok,hR,GFr.refl _ _,by simp only;omega,by simp only;omega,rfl⟩ (by simp only;omega)
  rintro ⟨i,S1,av1,q1,tb1,g1⟩ ⟨hi,hS,hD,hF,hv,ht,hrun⟩
  simp only at hi hS hD hF hv ht hrun
  by_cases h:i<L.length
  · obtain ⟨x,hx⟩:=get_some h
    have hxm:=List.mem_of_getElem? hx
    have hgx:=getD_map (f:=GOp.pv) hx
    have hb:=bnd_mono R (show i≤L.length by omega)
    have k1:(i:Int)<(L.length:Int):=by omega
    have hax:=(hL x hxm).1
    have hsa:=(hL x hxm).2.1
    have hck:=ref25_run x hsa [] (n:=n - 37) (by omega) (by omega)
    rw [show n - 37+37=n by omega] at hck
    rw [runT_drop hx] at hrun
    by_cases he:opErr x=0
    rotate_left
    · right
      have he1:(opErr x==0)=false:=by simpa using he
      rw [if_pos he] at hrun
      refine ⟨(.ret,⟨[(6,.p (.list [])),(7,.p (.int .i64 i)),(8,.p (.int .i64 (opErr x)))],[],g1⟩), ?_,by simp,S1,av1,q1,tb1,g1,hD,hF,.inr ⟨i,opErr x,rfl,hrun⟩⟩
      simp only [rrS]
      simp only [GOp.pv,attrsPV] at hck
      generalize opErr x=e at hck he1 ⊢
      simp -implicitDefEqProofs (disch:=omega) only [Rx,simprocAttr,B31x0,k1,hgx,hlL,GOp.pv,attrsPV,hck,he1]
    rw [if_neg (by simpa using he)] at hrun
    rw [he] at hck
    have hrow:=hD.row
    obtain ⟨y,hput,hy⟩:=put_run tb1 (by omega) x he hrow (n - 2)
    rw [show n - 2+2=n by omega] at hput
    have il:=intsPV_len tb1
    by_cases hin:x.kind=1∨inT tb1 x
    rotate_left
    · right
      rw [decide_eq_false hin] at hput
      have e1:oneT S1 tb1 x=(13,S1,tb1):=by unfold oneT;rw [if_neg (fun e=>hin (.inl e)),if_neg (fun e=>hin (.inr e))]
      rw [e1] at hrun
      dsimp only at hrun
      rw [if_pos (by decide)] at hrun
      refine ⟨(.ret,⟨[(6,.p (.list [])),(7,.p (.int .i64 i)),(8,.p (.int .i64 13))],[],g1⟩), ?_,by simp,S1,av1,q1,tb1,g1,hD,hF,.inr ⟨i,13,rfl,hrun⟩⟩
      simp only [rrS]
      simp only [GOp.pv,attrsPV] at hck hput
      generalize intsPV tb1=X at *
      simp -implicitDefEqProofs (disch:=omega) only [Rx,simprocAttr,B31x0,k1,hgx,hlL,GOp.pv,attrsPV,hck,hput]
    rw [decide_eq_true hin] at hput
    have hye:=hy hin
    have hya:y.attrs=x.attrs:=by rw [hye];unfold putO;split <;> rfl
    have hyk:y.kind=x.kind:=by rw [hye];unfold putO;split <;> rfl
    obtain ⟨av2,q2,g2,d2,m2,f2⟩:=doD_run hS hD.dm (by omega) y (by rw [hya];exact hsa) (n:=n - 38) (by omega) (by omega) (by rw [hya];omega) (by omega)
    rw [show n - 38+38=n by omega] at d2
    obtain ⟨w2,v2⟩:=hD.turn m2 f2.gfr
    obtain ⟨o1,o2,o3,_⟩:=oneT_facts hS tb1 x (by omega)
    have hone:oneT S1 tb1 x=((doD S1 y).2.1,(doD S1 y).2.2,if x.kind=1∧(doD S1 y).2.1=0 then tb1++[(doD S1 y).1] else tb1):=by
      unfold oneT
      by_cases q:x.kind=1
      · have:y=x:=by rw [hye];unfold putO;rw [if_pos q]
        rw [if_pos q,this]
        by_cases z:(doD S1 x).2.1=0
        · rw [if_pos z,if_pos ⟨q,z⟩]
        · rw [if_neg z,if_neg (fun e=>z e.2)]
      · rw [if_neg q,if_pos (hin.resolve_left q),if_neg (fun e=>q e.1),hye]
    rw [hone] at hrun o1 o2 o3
    dsimp only at hrun o1 o2 o3
    have hyp:y.pv=[.int .i64 x.kind,.int .i64 y.node,.int .i64 y.up,.int .i64 y.before,.str y.tag,.str y.key,.str y.name,.str y.text,attrsPV y.attrs]:=by unfold GOp.pv;rw [hyk]
    rw [hyp] at d2 hput
    by_cases hz:(doD S1 y).2.1=0
    · left
      rw [if_neg (by simpa using hz)] at hrun
      rw [hz] at d2
      by_cases q:x.kind=1
      · rw [if_pos ⟨q,hz⟩] at hrun o3
        rw [q] at hput d2
        obtain ⟨w3,v3⟩:=w2.set (tb1++[(doD S1 y).1])
        refine ⟨⟨i+1,(doD S1 y).2.2,av2,q2,tb1++[(doD S1 y).1],g2.set k (.pcells 1 (intsPV (tb1++[(doD S1 y).1])))⟩, ?_,⟨by simp only;omega,o1,w3,(hF.trans v2).trans v3,by simp only;omega,by simp only;omega,hrun⟩,by simp only;omega⟩
        have os:=intsPV_snoc tb1 (doD S1 y).1
        have ol:(intsPV (tb1++[(doD S1 y).1])).length=tb1.length+1:=by rw [intsPV_len,List.length_append];rfl
        have ol2:(tb1++[(doD S1 y).1]).length=tb1.length+1:=by simp
        have hrow2:=w2.row
        simp only [rrS,ol2]
        simp only [GOp.pv,attrsPV,q] at hck hput d2
        generalize (doD S1 y).1=z at *
        generalize intsPV (tb1++[z])=Y at *
        generalize intsPV tb1=X at *
        simp -implicitDefEqProofs (disch:=omega) only [Rx,simprocAttr,B31x0,k1,hgx,hlL,GOp.pv,attrsPV,hck,hrow2,il,os,ol,hput,d2,q]
      · rw [if_neg (fun e=>q e.1)] at hrun o3
        have q1':(x.kind==1)=false:=by simpa using q
        refine ⟨⟨i+1,(doD S1 y).2.2,av2,q2,tb1,g2⟩, ?_,⟨by simp only;omega,o1,w2,hF.trans v2,by simp only;omega,by simp only;omega,hrun⟩,by simp only;omega⟩
        simp only [rrS]
        simp only [GOp.pv,attrsPV] at hck hput d2
        generalize (doD S1 y).1=z at *
        generalize intsPV tb1=X at *
        simp -implicitDefEqProofs (disch:=omega) only [Rx,simprocAttr,B31x0,k1,hgx,hlL,GOp.pv,attrsPV,hck,hput,d2,q1']
    · right
      have hz1:((doD S1 y).2.1==0)=false:=by simpa using hz
      rw [if_pos hz] at hrun
      refine ⟨(.ret,⟨[(6,.p (.list [])),(7,.p (.int .i64 i)),(8,.p (.int .i64 (doD S1 y).2.1))],[],g2⟩), ?_,by simp,_,av2,q2,tb1,g2,w2,hF.trans v2,.inr ⟨i,_,rfl,hrun⟩⟩
      simp only [rrS]
      simp only [GOp.pv,attrsPV] at hck hput d2
      generalize (doD S1 y).2.1=e at d2 hz1 ⊢
      generalize (doD S1 y).1=z at *
      generalize intsPV tb1=X at *
      simp -implicitDefEqProofs (disch:=omega) only [Rx,simprocAttr,B31x0,k1,hgx,hlL,GOp.pv,attrsPV,hck,hput,d2,hz1]
  · right
    obtain rfl:i=L.length:=by omega
    have k1:¬ (L.length:Int)<(L.length:Int):=by omega
    rw [List.drop_length,runT] at hrun
    refine ⟨_, ?_, ?_,S1,av1,q1,tb1,g1,hD,hF,.inl ⟨rfl,hrun⟩⟩
    · simp only [rrS]
      simp -implicitDefEqProofs (disch:=omega) only [Rx,simprocAttr,B31x0,k1]
    · simp
theorem rrun_run (R : Nat) (hok : S.Ok R) (hD : DM (liveL S) S.st S.kd S.N av p q g) (tb : List Int) (L : List GOp) (hL : ∀ x ∈ L, smallOp x) (hLl : L.length ≤ 1048575) (htb : tb.length ≤ 2097152) (hlv : (liveL S).length ≤ 2097152) {n : Nat} (hn : 8 * 1048578 + 4 * bnd R L.length < n) :
    ∃ av' q' g' r, acall T (n + 1) 31 [DP p, .p (.list (intsPV tb)), .p (.list (L.map GOp.pv))] g = some (.tuple [r, .p (.int .i64 (runT S tb L 0).1.2.1), .p (.int .i64 (runT S tb L 0).1.2.2)], g') ∧ DM (liveL (runT S tb L 0).2) (runT S tb L 0).2.st (runT S tb L 0).2.kd (runT S tb L 0).2.N av' p q' g' ∧ GFr g (OwnR (liveL S) av p q) g' (OwnR (liveL (runT S tb L 0).2) av' p q')
      ∧ Told g' (OwnR (liveL (runT S tb L 0).2) av' p q') r (runT S tb L 0).1.1∧(∀ k m,r = .own true k m→g.length≤k):=by
  have hlt:∀ j,OwnR (liveL S) av p q j→j<g.length:=fun j hj=>hD.own_lt hj
  have hlL:(L.map GOp.pv).length=L.length:=by simp
  have hR0:RTb S av p q g.length tb (g++[.pcells 1 (intsPV tb)]):=⟨hD.stay fun j hj=>List.getElem?_append_left (hlt j hj),by simp,fun h=>by have:=hlt _ h;omega⟩
  obtain ⟨z,hq,S',av',q',tb',g',w,f,b3⟩:=rr_loop R hok L hL hLl hR0 htb hlv hn
  have hF:GFr g (OwnR (liveL S) av p q) g' (OwnR (liveL S') av' p q'):=by
    refine ⟨by have:=f.len;simp at this;omega,fun j hj hn => ?_,fun j hj hl => ?_⟩
    · rw [f.keep j (by simp;omega) (fun h=>by
        rcases h with h | h
        · exact hn h
        · omega),List.getElem?_append_left hj]
    · rcases f.refs j (.inl hj) (by simp;omega) with h | h
      · exact h
      · omega
  have il:=intsPV_len tb
  have a1:∀ X:AObj,(g++[X])[g.length]? = some X:=fun X=>by simp
  have a2:∀ X Y:AObj,(g++[X]).set g.length Y=g++[Y]:=fun X Y=>by simp [List.set_append]
  have a3:((intsPV tb).all fun x=>x.length==1)=true:=by simp [List.all_eq_true,intsPV]
  simp only [rrS,Int.natCast_zero] at hq
  rcases b3 with ⟨rfl,hrun⟩ | ⟨j,e,rfl,hrun⟩
  · rw [hrun]
    dsimp only
    refine ⟨av',q',g',.own true g.length tb'.length, ?_,w.dm,hF,.own w.row w.sep,fun k m h=>by cases h;exact Nat.le_refl _⟩
    rw [acall_code T31,run_code rfl rfl]
    generalize intsPV tb=X at *
    simp -implicitDefEqProofs (disch:=omega) only [Rx,simprocAttr,F31,a1,a2,a3,il,hq,hlL]
  · rw [hrun]
    dsimp only
    refine ⟨av',q',g',.p (.list []), ?_,w.dm,hF,.none,fun k m h=>by cases h⟩
    rw [acall_code T31,run_code rfl rfl]
    generalize intsPV tb=X at *
    simp -implicitDefEqProofs (disch:=omega) only [Rx,simprocAttr,F31,a1,a2,a3,il,hq,hlL]
end
end Go.TA.Tryz


end
