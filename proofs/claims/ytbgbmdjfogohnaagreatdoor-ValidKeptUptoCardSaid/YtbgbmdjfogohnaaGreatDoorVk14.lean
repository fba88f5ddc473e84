/- Part 14 of 15 of a proof; joined from VkpRRem, VkpRWith, VkpRSet, VkpRMake, VkpRNew, VkpRDo, VkpRDo2, VkpRRun, VkpValidG, VkpKeptG, VkpBoth, VkpValidR. Whether a script is valid: the document's answer. -/
import Derived.Test.YtbgbmdjfogohnaaGreatDoorVk1
import Derived.Test.YtbgbmdjfogohnaaGreatDoorVk12
import Derived.Test.YtbgbmdjfogohnaaGreatDoorVk10
import Derived.Test.YtbgbmdjfogohnaaGreatDoorVk7
import Derived.Test.YtbgbmdjfogohnaaGreatDoorVk13
import Derived.Test.YtbgbmdjfogohnaaGreatDoorVk11
import Derived.Test.YtbgbmdjfogohnaaGreatDoorVk6
set_option linter.unusedSimpArgs false
set_option linter.unusedVariables false
set_option linter.defProp false
set_option maxRecDepth 100000
set_option maxHeartbeats 8000000
section
/- The document's answer: a node ends, and all below it. -/
namespace Go.TA
theorem DM.swap {L L':List Nat} {st:Nat→MNode} {kd:Nat→List Int} {nx:Int} {av:Nat→AV} {p q:Nat} {g:List AObj} (h:DM L st kd nx av p q g) (hs:∀ k ∈ L',k ∈ L) (hn:L'.Nodup) {o:AObj} (hr:RowRep 7 (rowsD L' st av) o):DM L' st kd nx av p g.length ((g++[o]).set p (.cells 2 [[.own true g.length L'.length,.p (.int .i64 nx)]])):=by
 have hp:=(List.getElem?_eq_some_iff.1 h.core.obj).1
 refine ⟨⟨?_,⟨o, ?_,hr⟩,by omega,hn⟩,fun k hk => ?_,fun k hk => ?_,fun k k' hk hk' hne=>h.disj k k' (hs k hk) (hs k' hk') hne⟩
 ·rw [List.getElem?_set,if_pos rfl,if_pos (by rw [List.length_append];omega)]
 ·rw [List.getElem?_set,if_neg (by omega)];simp
 ·refine (h.kids k (hs k hk)).keep fun r hr => ?_
  have:=(h.kids k (hs k hk)).ref_lt hr
  rw [List.getElem?_set,if_neg (fun e=>(h.away k (hs k hk)).1 (by rw [e];exact hr)),List.getElem?_append_left this]
 ·refine ⟨(h.away k (hs k hk)).1,fun hr => ?_⟩
  have:=(h.kids k (hs k hk)).ref_lt hr
  omega
theorem DFr.swap {L L':List Nat} {av:Nat→AV} {p q:Nat} {g:List AObj} (hs:∀ k ∈ L',k ∈ L) (o o':AObj):DFr L av p q g L' av g.length ((g++[o]).set p o') where
 len:=by simp
 keep j hj hp hq hn:=by rw [List.getElem?_set,if_neg (fun e=>hp e.symm),List.getElem?_append_left hj]
 row:=.inr (Nat.le_refl _)
 refs k hk j hj _:=⟨k,hs k hk,hj⟩
namespace Tryz
section
variable {R:Nat} {S:MS} {nx:Int} {av:Nat→AV} {p q:Nat} {g:List AObj}
def remS (p:Nat) (c k n i:Nat) (q1:Nat) (G:List AObj):St:=⟨[(0,DP p),(1,.p (.int .i64 c)),(7,.own true q1 k),(46,.p (.int .i64 n)),(47,.p (.int .i64 i))],[],G⟩
theorem rem_loop (hS : S.Ok R) (hD : DC (liveL S) S.st nx av p q g) (hL : (liveL S).length ≤ 4194304) (hno : ∀ h, h ∈ liveL S → noLocal (av h) = true) (c : Nat) {n : Nat} (hn : (liveL S).length < n) (hR : R + 3 < n) (N : Nat) (hN : (liveL S).length < N) :
    ∃ o,aexec (acall T (n+2)) N (.loop B140x0) (remS p c 0 (liveL S).length 0 g.length (g++[.pcells 7 []]))=some (.exit 0,⟨[(0,DP p),(7,.own true g.length ((liveL S).filter fun h:Nat => !(underB S (h:Int) (c:Int))).length)],[],g++[o]⟩)∧RowRep 7 (rowsD ((liveL S).filter fun h:Nat => !(underB S (h:Int) (c:Int))) S.st av) o:=by
  generalize hP:(fun h:Nat => !(underB S (h:Int) (c:Int)))=P
  have key:=loop_inv (C:=acall T (n+2)) (N:=N) (B:=B140x0) (σ := Nat × AObj) (S:=fun s=>remS p c (((liveL S).take s.1).filter P).length (liveL S).length s.1 g.length (g++[s.2]))
    (I:=fun s=>s.1≤(liveL S).length∧RowRep 7 (rowsD (((liveL S).take s.1).filter P) S.st av) s.2) (μ := fun s=>(liveL S).length - s.1) (Q:=fun r=>∃ o,r=(.exit 0,⟨[(0,DP p),(7,.own true g.length ((liveL S).filter P).length)],[],g++[o]⟩)∧RowRep 7 (rowsD ((liveL S).filter P) S.st av) o) ?_ (0,.pcells 7 []) ⟨by simp,RowRep.nil 7⟩ (by simp only;omega)
  · obtain ⟨r,hr,o,rfl,hro⟩:=key
    exact ⟨o,by simpa using hr,hro⟩
  rintro ⟨i,oi⟩ ⟨h1,h2⟩
  simp only at h1 h2 ⊢
  by_cases hi:i<(liveL S).length
  · left
    obtain ⟨h,hh⟩:=get_some hi
    have hhL:=List.mem_of_getElem? hh
    have hDi:=hD.more [oi]
    obtain ⟨o,ho,hrep⟩:=hDi.row
    have hob:=hDi.obj
    have hix:=fun s i=>hrep.idx rowsD_len s true q i
    have rd0:=rd_node hrep hh (j:=0) (by omega)
    have rdA:=hrep.rdA rowsD_len hi (rowsD_get hh) rfl
    have un:=underD_run hS hDi hL c h hhL (n:=n) hn hR
    have k1:(i:Int)<((liveL S).length:Int):=by omega
    have hs:((liveL S).take (i+1)).filter P=((liveL S).take i).filter P++if P h=true then [h] else []:=by
      rw [List.take_add_one,hh,List.filter_append]
      simp [List.filter_cons]
    have hlen:(((liveL S).take i).filter P).length≤4194304:=by
      have h3:=List.length_filter_le P ((liveL S).take i)
      rw [List.length_take] at h3
      omega
    cases hb:underB S (h:Int) (c:Int) with
    | true =>
      have hPh:P h=false:=by rw [← hP];simp [hb]
      rw [hPh] at hs
      simp only [Bool.false_eq_true,if_false,List.append_nil] at hs
      rw [hb] at un
      refine ⟨(i+1,oi), ?_,⟨by simp only;omega,by simp only [hs];exact h2⟩,by simp only;omega⟩
      simp only [hs,remS]
      simp only [nAV] at rd0
      generalize g++[oi]=G at hob ho un
      simp -implicitDefEqProofs (disch:=omega) only [Rx,simprocAttr,B140x0,k1,hob,ho,hix,rd0,un]
    | false =>
      have hPh:P h=true:=by rw [← hP];simp [hb]
      rw [hPh,if_pos rfl] at hs
      rw [hb] at un
      have hnl:noLocals (nAV h (S.st h) (av h))=true:=by simp [nAV,noLocals,noLocal,hno h hhL]
      obtain ⟨o',happ,hro'⟩:=h2.app (bytes:=112) rowsD_len (by omega) (c:=nAV h (S.st h) (av h)) rfl hnl
      have hpush:rowsD (((liveL S).take i).filter P) S.st av++[nAV h (S.st h) (av h)]=rowsD (((liveL S).take (i+1)).filter P) S.st av:=by
        rw [hs];simp [rowsD]
      rw [hpush] at hro'
      refine ⟨(i+1,o'), ?_,⟨by simp only;omega,hro'⟩,by simp only;omega⟩
      have hsl:(((liveL S).take (i+1)).filter P).length=(((liveL S).take i).filter P).length+1:=by rw [hs,List.length_append];rfl
      have hcv:=cells_ofCells (nAV h (S.st h) (av h))
      have hlast:(g++[oi])[g.length]? = some oi:=by simp
      have hset:(g++[oi]).set g.length o'=g++[o']:=by simp [List.set_append]
      simp only [hsl,remS]
      simp only [nAV] at rd0 rdA hcv happ
      generalize ofCells [.p (.int .i64 (h:Int)),.p (.int .i64 (S.st h).up),av h,.p (.str (S.st h).tag),.p (.str (S.st h).key),.p (.str (S.st h).text),.p (.list ((S.st h).attrs.map Attr.pv))]=v at rdA hcv
      generalize g++[o']=G' at hset
      generalize g++[oi]=G at hob ho un hlast hset
      simp -implicitDefEqProofs (disch:=omega) only [Rx,simprocAttr,B140x0,k1,hob,ho,hix,rd0,rdA,un,hcv,happ,hlast,hset]
  · right
    obtain rfl:i=(liveL S).length:=by omega
    have k1:¬ ((liveL S).length:Int)<((liveL S).length:Int):=by omega
    rw [List.take_length] at h2
    refine ⟨_, ?_, ?_,oi,rfl,h2⟩
    · simp only [List.take_length,remS]
      simp -implicitDefEqProofs (disch:=omega) only [Rx,simprocAttr,B140x0,k1]
    · simp
theorem removeD_run (hS:S.Ok R) (hD:DM (liveL S) S.st S.kd nx av p q g) (hL:(liveL S).length≤4194304) (id:Int) {n:Nat} (hn:(liveL S).length<n) (hR:R+3<n) :
  ∃ av' q' g',acall T (n+4) 140 [DP p,.p (.int .i64 id)] g=some (.p (.int .i64 (removeD S id).1),g')∧DM (liveL (removeD S id).2) (removeD S id).2.st (removeD S id).2.kd nx av' p q' g'∧DFr (liveL S) av p q g (liveL (removeD S id).2) av' q' g':=by
 obtain ⟨o,ho,hrep⟩:=hD.core.row
 have hob:=hD.core.obj
 have hix:=fun s i=>hrep.idx rowsD_len s true q i
 have hno:=noneD_run hD.core hL id (n:=n+1) (by omega)
 have hat:=fun id=>at_run hD.core hL id (n:=n+2) (by omega)
 unfold removeD
 by_cases hf:fitE S id≠0
 ·rw [if_pos hf]
  have e1:(fitE S id==0)=false:=by simpa using hf
  refine ⟨av,q,g, ?_,hD,DFr.refl _ _ _ _ _⟩
  rw [acall_code T140,run_code rfl rfl]
  generalize fitE S id=e at hno e1 ⊢
  simp -implicitDefEqProofs (disch:=omega) only [Rx,simprocAttr,F140,hno,e1]
 rw [if_neg hf]
 obtain ⟨c,rfl,hcL,hc0⟩:=fit_live hf
 simp only [ne_eq,Decidable.not_not] at hf
 rw [hf] at hno
 obtain ⟨ic,hpc,hic⟩:=posL_in hcL
 have hat1:=hat (c:Int)
 rw [hpc] at hat1
 have lc:=(List.getElem?_eq_some_iff.1 hic).1
 have kc:(ic:Int)<((liveL S).length:Int):=by omega
 have rdc:=rd_node hrep hic (j:=1) (by omega)
 simp only [nAV] at rdc
 obtain ⟨hcN,hcl⟩:=mem_liveL.1 hcL
 simp only [Int.toNat_natCast]
 have hfil:∀ k ∈ (liveL S).filter fun h:Nat => !(underB S (h:Int) (c:Int)),k ∈ liveL S:=fun k hk=>(List.mem_filter.1 hk).1
 have hfn:((liveL S).filter fun h:Nat => !(underB S (h:Int) (c:Int))).Nodup:=(liveL_nodup S).filter _
 have hle:=liveL_end (S:=S) hc0
 have hke:=end_kept (S:=S) hc0
 by_cases h16:(S.st c).up<0
 ·have htk:takeM S c=S:=by unfold takeM;rw [if_pos h16]
  obtain ⟨oe,hloop,hro⟩:=rem_loop hS hD.core hL (fun h hh=>(hD.kids h hh).noLocal) c (n:=n+1) (by omega) (by omega) (n+3) (by omega)
  have hDs:=hD.swap hfil hfn hro
  have hFs:=DFr.swap (L:=liveL S) (av:=av) (p:=p) (q:=q) (g:=g) hfil oe (.cells 2 [[.own true g.length ((liveL S).filter fun h:Nat => !(underB S (h:Int) (c:Int))).length,.p (.int .i64 nx)]])
  refine ⟨av,g.length,_, ?_,by rw [hle];exact hDs.congr fun k hk=>by rw [← (hke k hk).1, ← (hke k hk).2,htk];exact ⟨rfl,rfl⟩,by rw [hle];exact hFs⟩
  have k16:¬ (S.st c).up ≥ 0:=by omega
  have hob2:=(hD.core.more [oe]).obj
  have hob3:=(hD.core.more [.pcells 7 []]).obj
  simp only [remS,Int.natCast_zero] at hloop
  generalize ((liveL S).filter fun h:Nat => !(underB S (h:Int) (c:Int))).length=k at hloop
  rw [acall_code T140,run_code rfl rfl]
  simp -implicitDefEqProofs (disch:=omega) only [Rx,simprocAttr,F140,hno,hat1,hob,ho,hix,rdc,k16,hloop,hob2,hob3]
 ·obtain ⟨u,hu,huN,hul,hkid⟩:=hS.up_nat hcN (by omega)
  have huL:u ∈ liveL S:=mem_liveL.2 ⟨huN,hul⟩
  obtain ⟨iu,hpu,hiu⟩:=posL_in huL
  have hat2:=hat (u:Int)
  rw [hpu] at hat2
  have lu:=(List.getElem?_eq_some_iff.1 hiu).1
  have ku:(iu:Int)<((liveL S).length:Int):=by omega
  have hkl:=kd_len hS huN
  have hK:=hD.kids u huL
  have hout:=out_run (S.kd u) (c:Int) (by omega) [] (n:=n+2) (by omega)
  generalize hl1:(S.kd u).filter (fun k => !(k==(c:Int)))=l1 at hout
  have hD1:=hD.core.kill (hD.away u huL).1 (hD.away u huL).2
  obtain ⟨o1,hk1,hr1⟩:=kidsF_run hD1 hL huL (intsPV l1) (n:=n+1) (by omega)
  have hD2:=hD.fix huL l1 hr1
  have hF2:=DFr.fix hD huL (intsPV l1) o1
  generalize hav2:upd av u (.p (.list (intsPV l1)))=av2 at hD2 hF2
  generalize hg2:(killG g (av u)).set q o1=g2 at hk1 hD2 hF2
  have htk:(takeM S c).kd=upd S.kd u l1:=by
   unfold takeM
   rw [if_neg h16,hu,Int.toNat_natCast,hl1]
  obtain ⟨oe,hloop,hro⟩:=rem_loop hS hD2.core hL (fun h hh=>(hD2.kids h hh).noLocal) c (n:=n+1) (by omega) (by omega) (n+3) (by omega)
  have hDs:=hD2.swap hfil hfn hro
  have hFs:=hF2.trans (DFr.swap (L:=liveL S) (av:=av2) (p:=p) (q:=q) (g:=g2) hfil oe (.cells 2 [[.own true g2.length ((liveL S).filter fun h:Nat => !(underB S (h:Int) (c:Int))).length,.p (.int .i64 nx)]]))
  refine ⟨av2,g2.length,_, ?_,by rw [hle];exact hDs.congr fun k hk=>by rw [← (hke k hk).1, ← (hke k hk).2,htk];exact ⟨rfl,rfl⟩,by rw [hle];exact hFs⟩
  have k16:(u:Int) ≥ 0:=by omega
  rw [hu] at rdc
  have rdu:=rd_node hrep hiu (j:=2) (by omega)
  simp only [nAV] at rdu
  have hob2:=(hD2.core.more [oe]).obj
  have hob3:=(hD2.core.more [.pcells 7 []]).obj
  have hfz:=hK.frz
  generalize killG g (av u)=g1 at hk1 hfz
  generalize av u=au at rdu hfz
  simp only [remS,Int.natCast_zero] at hloop
  generalize ((liveL S).filter fun h:Nat => !(underB S (h:Int) (c:Int))).length=k at hloop
  rw [acall_code T140,run_code rfl rfl]
  simp -implicitDefEqProofs (disch:=omega) only [Rx,simprocAttr,F140,hno,hat1,hat2,hob,ho,hix,rdc,rdu,k16,hout,hk1,hfz,hloop,hob2,hob3]
end
end Tryz
end Go.TA


end
section
/- Attributes with one more, or without one: the document's answer. -/
namespace Go.TA
def findA (l:List Attr) (name:Bs):Int:=if fstAt l name<l.length then (fstAt l name:Int) else -1
theorem fstAt_hit {l:List Attr} {name:Bs} {i:Nat} {a:Attr} (ha:l[i]? = some a) (h:i=fstAt l name):a.name=name:=by
 obtain ⟨hi,e⟩:=List.getElem?_eq_some_iff.1 ha
 have:=List.findIdx_getElem (xs:=l) (p:=fun a=>a.name==name) (w:=by unfold fstAt at h;omega)
 unfold fstAt at h
 simp only [← h,e] at this
 simpa using this
theorem fstAt_miss {l:List Attr} {name:Bs} {i:Nat} {a:Attr} (ha:l[i]? = some a) (h:i<fstAt l name):a.name≠name:=by
 obtain ⟨hi,e⟩:=List.getElem?_eq_some_iff.1 ha
 have:=List.not_of_lt_findIdx (xs:=l) (p:=fun a:Attr=>a.name==name) (i:=i) (by unfold fstAt at h;exact h)
 rw [e] at this
 simpa using this
theorem take_snoc {α : Type} {l:List α} {i:Nat} {a : α} (h:l[i]? = some a):l.take (i+1)=l.take i++[a]:=by
 rw [List.take_add_one,h];rfl
namespace Tryz
theorem find09_run (l : List Attr) (name : Bs) (hl : l.length ≤ 1048577) (g : List AObj) {n : Nat} (hn : l.length < n) :
    acall T (n+1) 193 [.p (.list (l.map Attr.pv)),.p (.str name)] g=some (.p (.int .i64 (findA l name)),g):=by
  have ll:(l.map Attr.pv).length=l.length:=by simp
  have key:=loop_inv (C:=acall T n) (N:=n) (B:=B193x0) (σ := Nat) (S:=fun i=>⟨[(0,.p (.list (l.map Attr.pv))),(1,.p (.str name)),(7,.p (.int .i64 l.length)),(8,.p (.int .i64 i))],[],[]⟩)
    (I:=fun i=>i≤l.length∧i≤fstAt l name) (μ := fun i=>l.length - i) (Q:=fun r=>r=if fstAt l name<l.length then (.ret,⟨[(4,.p (.int .i64 (fstAt l name)))],[],[]⟩) else (.exit 0,⟨[],[],[]⟩)) ?_ 0 ⟨by omega,by omega⟩ (by omega)
  · obtain ⟨r,hq,rfl⟩:=key
    simp only [Int.natCast_zero] at hq
    unfold findA
    rw [acall_code T193,run_pure rfl rfl rfl]
    by_cases hc:fstAt l name<l.length
    · rw [if_pos hc] at hq ⊢
      simp -implicitDefEqProofs (disch:=omega) only [Rx,simprocAttr,F193,hq,ll]
    · rw [if_neg hc] at hq ⊢
      simp -implicitDefEqProofs (disch:=omega) only [Rx,simprocAttr,F193,hq,ll]
  rintro i ⟨h1,h2⟩
  by_cases hi:i<l.length
  · have k1:(i:Int)<(l.length:Int):=by omega
    obtain ⟨a,ha⟩:=get_some hi
    have hg:=getD_map (f:=Attr.pv) ha
    by_cases e:i=fstAt l name
    · right
      have hp:(a.name==name)=true:=by simpa using fstAt_hit ha e
      refine ⟨_, ?_, ?_,rfl⟩
      · rw [if_pos (by omega), ← e]
        simp -implicitDefEqProofs (disch:=omega) only [Rx,simprocAttr,B193x0,k1,hg,ll,Attr.pv,hp]
      · rw [if_pos (by omega)];simp
    · left
      have hp:(a.name==name)=false:=by simpa using fstAt_miss ha (by omega)
      refine ⟨i+1, ?_,⟨by omega,by omega⟩,by omega⟩
      simp -implicitDefEqProofs (disch:=omega) only [Rx,simprocAttr,B193x0,k1,hg,ll,Attr.pv,hp]
  · right
    obtain rfl:i=l.length:=by omega
    have k1:¬ (l.length:Int)<(l.length:Int):=by omega
    refine ⟨_, ?_, ?_,rfl⟩
    · rw [if_neg (by omega)]
      simp -implicitDefEqProofs (disch:=omega) only [Rx,simprocAttr,B193x0,k1]
    · rw [if_neg (by omega)];simp
theorem without09_run (l:List Attr) (name:Bs) (hl:l.length≤1048577) (g:List AObj) {n:Nat} (hn:l.length<n) :
  acall T (n+1) 178 [.p (.list (l.map Attr.pv)),.p (.str name)] g=some (.tuple [.p (.list ((withoutA l name).map Attr.pv)),.p (.bool (decide ((withoutA l name).length<l.length)))],g):=by
 have ll:(l.map Attr.pv).length=l.length:=by simp
 unfold withoutA
 have hlen:∀ i,((l.take i).filter (notN name)).length≤l.length:=fun i=>by
  have:=List.length_filter_le (notN name) (l.take i)
  have h2:(l.take i).length≤l.length:=by rw [List.length_take];omega
  omega
 have key:=loop_inv (C:=acall T n) (N:=n) (B:=B178x0) (σ := Nat) (S:=fun i=>⟨[(0,.p (.list (l.map Attr.pv))),(1,.p (.str name)),(6,.own false 1000 ((l.take i).filter (notN name)).length),(9,.p (.int .i64 l.length)),(10,.p (.int .i64 i))],[(1000,.pcells 2 (((l.take i).filter (notN name)).map Attr.pv))],[]⟩)
  (I:=fun i=>i≤l.length) (μ := fun i=>l.length - i) (Q:=fun r=>r=(.exit 0,⟨[(0,.p (.list (l.map Attr.pv))),(6,.own false 1000 (l.filter (notN name)).length)],[(1000,.pcells 2 ((l.filter (notN name)).map Attr.pv))],[]⟩)) ?_ 0 (by omega) (by omega)
 ·obtain ⟨r,hq,rfl⟩:=key
  simp only [List.take_zero,List.filter_nil,List.length_nil,List.map_nil,Int.natCast_zero] at hq
  have hll:=hlen l.length
  rw [List.take_length] at hll
  generalize l.filter (notN name)=acc at hq hll
  have la:(acc.map Attr.pv).length=acc.length:=by simp
  rw [acall_code T178,run_pure rfl rfl rfl]
  by_cases hc:acc.length<l.length
  ·have k1:(acc.length:Int)<(l.length:Int):=by omega
   have ed:decide (acc.length<l.length)=true:=by simpa using hc
   simp -implicitDefEqProofs (disch:=omega) only [Rx,simprocAttr,F178,hq,ll,la,k1,ed]
  ·have k1:¬ (acc.length:Int)<(l.length:Int):=by omega
   have ed:decide (acc.length<l.length)=false:=by simpa using hc
   simp -implicitDefEqProofs (disch:=omega) only [Rx,simprocAttr,F178,hq,ll,la,k1,ed]
 intro i h1
 by_cases hi:i<l.length
 ·left
  have k1:(i:Int)<(l.length:Int):=by omega
  obtain ⟨a,ha⟩:=get_some hi
  have hg:=getD_map (f:=Attr.pv) ha
  have hs:(l.take (i+1)).filter (notN name)=(l.take i).filter (notN name)++if notN name a=true then [a] else []:=by
   rw [take_snoc ha,List.filter_append]
   simp [List.filter_cons]
  have hll:=hlen i
  refine ⟨i+1, ?_,by omega,by omega⟩
  rw [hs]
  generalize (l.take i).filter (notN name)=acc at hll
  have la:(acc.map Attr.pv).length=acc.length:=by simp
  by_cases e:a.name=name
  ·have e1:(a.name==name)=true:=by simpa using e
   have hfx:notN name a=false:=by simp [notN,e]
   rw [hfx]
   simp only [Bool.false_eq_true,if_false,List.append_nil]
   simp -implicitDefEqProofs (disch:=omega) only [Rx,simprocAttr,B178x0,k1,hg,ll,Attr.pv,e1]
  ·have e1:(a.name==name)=false:=by simpa using e
   have hfx:notN name a=true:=by simp [notN,e]
   rw [hfx,if_pos rfl]
   have os1:acc.map Attr.pv++[[.str a.name,.str a.value]]=(acc++[a]).map Attr.pv:=by simp [Attr.pv]
   have ol1:((acc++[a]).map Attr.pv).length=acc.length+1:=by simp
   have ol3:(acc++[a]).length=acc.length+1:=by simp
   rw [ol3]
   generalize acc++[a]=acc1 at os1 ol1
   simp -implicitDefEqProofs (disch:=omega) only [Rx,simprocAttr,B178x0,k1,hg,ll,la,Attr.pv,e1,os1,ol1]
 ·right
  obtain rfl:i=l.length:=by omega
  have k1:¬ (l.length:Int)<(l.length:Int):=by omega
  refine ⟨_, ?_, ?_,rfl⟩
  ·rw [List.take_length]
   simp -implicitDefEqProofs (disch:=omega) only [Rx,simprocAttr,B178x0,k1]
  ·simp
def leAt (l:List Attr) (name:Bs):Nat:=l.findIdx (fun a=>decide (0<cmpB a.name name))
theorem le_loop (l : List Attr) (name v : Bs) (at' : Int) (hl : l.length ≤ 1048577) (hnl : name.length ≤ 1048577) {n : Nat} (hn : name.length < n) (N : Nat) (hN : l.length < N) :
    aexec (acall T (n+1)) N (.loop B177x0) ⟨[(0,.p (.list (l.map Attr.pv))),(1,.p (.str name)),(2,.p (.str v)),(7,.p (.int .i64 at')),(8,.p (.int .i64 ((0:Nat):Int)))],[],[]⟩=some (.exit 0,⟨[(0,.p (.list (l.map Attr.pv))),(1,.p (.str name)),(2,.p (.str v)),(7,.p (.int .i64 at')),(8,.p (.int .i64 (leAt l name)))],[],[]⟩):=by
  have ll:(l.map Attr.pv).length=l.length:=by simp
  have hle:leAt l name≤l.length:=List.findIdx_le_length
  refine loop_rule' (C:=acall T (n+1)) (N:=N) (B:=B177x0) (σ := Nat) (S:=fun i=>⟨[(0,.p (.list (l.map Attr.pv))),(1,.p (.str name)),(2,.p (.str v)),(7,.p (.int .i64 at')),(8,.p (.int .i64 i))],[],[]⟩) (I:=fun i=>i≤leAt l name) (μ := fun i=>l.length - i) (Φ := fun i=>(.exit 0,⟨[(0,.p (.list (l.map Attr.pv))),(1,.p (.str name)),(2,.p (.str v)),(7,.p (.int .i64 at')),(8,.p (.int .i64 (leAt l name)))],[],[]⟩)) ?_ 0 (by omega) (by omega)
  intro i hi
  by_cases h1:i<l.length
  · have k1:(i:Int)<(l.length:Int):=by omega
    obtain ⟨a,ha⟩:=get_some h1
    have hg:=getD_map (f:=Attr.pv) ha
    obtain ⟨_,ea⟩:=List.getElem?_eq_some_iff.1 ha
    have hc:=cmp_run (n:=n) a.name name [] hn hnl
    by_cases e:i=leAt l name
    · right
      have hp:¬ cmpB a.name name≤0:=by
        have:=List.findIdx_getElem (xs:=l) (p:=fun a=>decide (0<cmpB a.name name)) (w:=by unfold leAt at e;omega)
        unfold leAt at e
        simp only [← e,ea] at this
        simp only [decide_eq_true_eq] at this
        omega
      refine ⟨?_,by simp⟩
      rw [← e]
      simp -implicitDefEqProofs (disch:=omega) only [Rx,simprocAttr,B177x0,k1,hg,ll,Attr.pv,hc,hp]
    · left
      have hp:cmpB a.name name≤0:=by
        have:=List.not_of_lt_findIdx (xs:=l) (p:=fun a=>decide (0<cmpB a.name name)) (i:=i) (by unfold leAt at e hi;omega)
        rw [ea] at this
        have h2:¬ 0<cmpB a.name name:=by simpa using this
        omega
      refine ⟨i+1, ?_,by omega,by omega,rfl⟩
      simp -implicitDefEqProofs (disch:=omega) only [Rx,simprocAttr,B177x0,k1,hg,ll,Attr.pv,hc,hp]
  · right
    have e:i=leAt l name:=by omega
    have k1:¬ (i:Int)<(l.length:Int):=by omega
    refine ⟨?_,by simp⟩
    rw [← e]
    simp -implicitDefEqProofs (disch:=omega) only [Rx,simprocAttr,B177x0,k1,ll]
theorem leAt_pos {l : List Attr} {name : Bs} (h : ¬ fstAt l name < l.length) : leAt l name = posAt l name := by
  unfold leAt posAt
  have hne:∀ a ∈ l,a.name≠name:=fun a ha e=>h (List.findIdx_lt_length_of_exists ⟨a,ha,by simpa using e⟩)
  clear h
  induction l with
  | nil=>rfl
  | cons a l ih =>
    have h1:=hne a (by simp)
    have h2:=cmpB_less h1
    have h3:(a.name==name)=false:=by simpa using h1
    rw [h3,Bool.or_false] at h2
    have e:decide (0<cmpB a.name name) = !(strLess a.name name):=by
      by_cases hs:strLess a.name name=true
      · rw [hs] at h2
        have h4:¬ 0<cmpB a.name name:=fun h=>by have:=h2.1 h;cases this
        simp [hs,h4]
      · simp only [Bool.not_eq_true] at hs
        simp [hs,h2.2 hs]
    rw [List.findIdx_cons,List.findIdx_cons,e,ih (fun b hb=>hne b (by simp [hb]))]
def withS (l:List Attr) (name v:Bs) (at':Int) (to:Nat) (acc:List Attr) (i:Nat):St:=⟨[(0,.p (.list (l.map Attr.pv))),(1,.p (.str name)),(2,.p (.str v)),(7,.p (.int .i64 at')),(8,.p (.int .i64 to)),(9,.own false 1000 acc.length),(32,.p (.int .i64 l.length)),(33,.p (.int .i64 i))],[(1000,.pcells 2 (acc.map Attr.pv))],[]⟩
def withE (l:List Attr) (name v:Bs) (at':Int) (to:Nat) (acc:List Attr):Ex × St:=(.exit 2,⟨[(0,.p (.list (l.map Attr.pv))),(1,.p (.str name)),(2,.p (.str v)),(7,.p (.int .i64 at')),(8,.p (.int .i64 to)),(9,.own false 1000 acc.length)],[(1000,.pcells 2 (acc.map Attr.pv))],[]⟩)
theorem with_found (l:List Attr) (name v:Bs) (to k:Nat) (hl:l.length≤1048577) (hk:k<l.length) (hkn:∀ a,l[k]? = some a→a.name=name) (C:Calls') (N:Nat) (hN:l.length<N) :
  aexec C N (.loop B177x1) (withS l name v (k:Int) to [] 0)=some (withE l name v (k:Int) to (l.set k ⟨name,v⟩)):=by
 have ll:(l.map Attr.pv).length=l.length:=by simp
 have key:=loop_inv (C:=C) (N:=N) (B:=B177x1) (σ := Nat) (S:=fun i=>withS l name v (k:Int) to ((l.set k ⟨name,v⟩).take i) i) (I:=fun i=>i≤l.length) (μ := fun i=>l.length - i) (Q:=fun r=>r=withE l name v (k:Int) to (l.set k ⟨name,v⟩)) ?_ 0 (by omega) (by omega)
 ·obtain ⟨r,hq,rfl⟩:=key
  simpa using hq
 intro i hi
 by_cases h1:i<l.length
 ·left
  have k1:(i:Int)<(l.length:Int):=by omega
  obtain ⟨a,ha⟩:=get_some h1
  have hg:=getD_map (f:=Attr.pv) ha
  have hw:(l.set k ⟨name,v⟩)[i]? = some (if k=i then ⟨name,v⟩ else a):=by
   rw [List.getElem?_set]
   split
   ·rename_i e;subst e;first | rfl | rw [if_pos h1]
   ·rw [ha]
  have hs:=take_snoc hw
  have hll:((l.set k ⟨name,v⟩).take i).length≤1048577:=by rw [List.length_take,List.length_set];omega
  refine ⟨i+1, ?_,by omega,by omega⟩
  simp only [withS]
  rw [hs]
  generalize (l.set k ⟨name,v⟩).take i=acc at hll
  have la:(acc.map Attr.pv).length=acc.length:=by simp
  have k0:¬ (k:Int)<0:=by omega
  by_cases e:k=i
  ·rw [if_pos e]
   have e1:((i:Int)==(k:Int))=true:=by simp;omega
   have hn:=hkn a (by rw [e];exact ha)
   have os1:acc.map Attr.pv++[[.str name,.str v]]=(acc++[(⟨name,v⟩:Attr)]).map Attr.pv:=by simp [Attr.pv]
   have ol1:((acc++[(⟨name,v⟩:Attr)]).map Attr.pv).length=acc.length+1:=by simp
   have ol3:(acc++[(⟨name,v⟩:Attr)]).length=acc.length+1:=by simp
   rw [ol3]
   generalize acc++[(⟨name,v⟩:Attr)]=acc1 at os1 ol1
   simp -implicitDefEqProofs (disch:=omega) only [Rx,simprocAttr,B177x1,k0,k1,hg,ll,la,Attr.pv,e1,hn,os1,ol1]
  ·rw [if_neg e]
   have e1:((i:Int)==(k:Int))=false:=by simp;omega
   have os1:acc.map Attr.pv++[[.str a.name,.str a.value]]=(acc++[a]).map Attr.pv:=by simp [Attr.pv]
   have ol1:((acc++[a]).map Attr.pv).length=acc.length+1:=by simp
   have ol3:(acc++[a]).length=acc.length+1:=by simp
   rw [ol3]
   generalize acc++[a]=acc1 at os1 ol1
   simp -implicitDefEqProofs (disch:=omega) only [Rx,simprocAttr,B177x1,k0,k1,hg,ll,la,Attr.pv,e1,os1,ol1]
 ·right
  obtain rfl:i=l.length:=by omega
  have k1:¬ (l.length:Int)<(l.length:Int):=by omega
  refine ⟨_, ?_, ?_,rfl⟩
  ·have:(l.set k ⟨name,v⟩).take l.length=l.set k ⟨name,v⟩:=List.take_of_length_le (by simp)
   rw [this]
   simp only [withS,withE]
   simp -implicitDefEqProofs (disch:=omega) only [Rx,simprocAttr,B177x1,k1]
  ·simp [withE]
def putA (l:List Attr) (to:Nat) (a:Attr) (i:Nat):List Attr:=if i≤to then l.take i else l.take to++a::(l.drop to).take (i - to)
theorem with_new (l : List Attr) (name v : Bs) (to : Nat) (hl : l.length ≤ 1048577) (C : Calls') (N : Nat) (hN : l.length < N) :
    aexec C N (.loop B177x1) (withS l name v (-1) to [] 0)=some (withE l name v (-1) to (putA l to ⟨name,v⟩ l.length)):=by
  have ll:(l.map Attr.pv).length=l.length:=by simp
  have key:=loop_inv (C:=C) (N:=N) (B:=B177x1) (σ := Nat) (S:=fun i=>withS l name v (-1) to (putA l to ⟨name,v⟩ i) i) (I:=fun i=>i≤l.length) (μ := fun i=>l.length - i) (Q:=fun r=>r=withE l name v (-1) to (putA l to ⟨name,v⟩ l.length)) ?_ 0 (by omega) (by omega)
  · obtain ⟨r,hq,rfl⟩:=key
    have:putA l to ⟨name,v⟩ 0=[]:=by simp [putA]
    rw [this] at hq
    exact hq
  intro i hi
  by_cases h1:i<l.length
  · left
    have k1:(i:Int)<(l.length:Int):=by omega
    obtain ⟨a,ha⟩:=get_some h1
    have hg:=getD_map (f:=Attr.pv) ha
    have e9:((i:Int) == -1)=false:=by simp <;> omega
    have hll:(putA l to ⟨name,v⟩ i).length≤1048579:=by
      unfold putA
      split
      · rw [List.length_take];omega
      · rw [List.length_append,List.length_cons,List.length_take,List.length_take,List.length_drop];omega
    refine ⟨i+1, ?_,by omega,by omega⟩
    by_cases e:i=to
    · have hs:putA l to ⟨name,v⟩ (i+1)=putA l to ⟨name,v⟩ i++[⟨name,v⟩]++[a]:=by
        subst e
        have hd:l.drop i=a::l.drop (i+1):=by rw [List.drop_eq_getElem?_toList_append,ha];rfl
        simp only [putA,Nat.le_refl,if_true]
        rw [if_neg (by omega),show i+1 - i=1 by omega,hd]
        simp
      have e1:((i:Int)==(to:Int))=true:=by simp;omega
      rw [hs]
      generalize putA l to ⟨name,v⟩ i=acc at hll
      have la:(acc.map Attr.pv).length=acc.length:=by simp
      have os1:acc.map Attr.pv++[[.str name,.str v]]=(acc++[(⟨name,v⟩:Attr)]).map Attr.pv:=by simp [Attr.pv]
      have ol1:((acc++[(⟨name,v⟩:Attr)]).map Attr.pv).length=acc.length+1:=by simp
      have os2:(acc++[(⟨name,v⟩:Attr)]).map Attr.pv++[[.str a.name,.str a.value]]=(acc++[(⟨name,v⟩:Attr)]++[a]).map Attr.pv:=by simp [Attr.pv]
      have ol2:((acc++[(⟨name,v⟩:Attr)]++[a]).map Attr.pv).length=acc.length+1+1:=by simp
      have ol3:(acc++[(⟨name,v⟩:Attr)]++[a]).length=acc.length+1+1:=by simp
      simp only [withS]
      rw [ol3]
      generalize acc++[(⟨name,v⟩:Attr)]++[a]=acc2 at os2 ol2
      generalize acc++[(⟨name,v⟩:Attr)]=acc1 at os1 os2 ol1
      simp -implicitDefEqProofs (disch:=omega) only [Rx,simprocAttr,B177x1,k1,hg,ll,la,Attr.pv,e1,e9,os1,os2,ol1,ol2]
    · have hs:putA l to ⟨name,v⟩ (i+1)=putA l to ⟨name,v⟩ i++[a]:=by
        unfold putA
        by_cases e2:i+1≤to
        · rw [if_pos e2,if_pos (by omega),take_snoc ha]
        · rw [if_neg e2,if_neg (by omega),show i+1 - to=i - to+1 by omega]
          have hd:(l.drop to)[i - to]? = some a:=by rw [List.getElem?_drop,show to+(i - to)=i by omega];exact ha
          rw [take_snoc hd]
          simp
      have e1:((i:Int)==(to:Int))=false:=by simp;omega
      rw [hs]
      generalize putA l to ⟨name,v⟩ i=acc at hll
      have la:(acc.map Attr.pv).length=acc.length:=by simp
      have os1:acc.map Attr.pv++[[.str a.name,.str a.value]]=(acc++[a]).map Attr.pv:=by simp [Attr.pv]
      have ol1:((acc++[a]).map Attr.pv).length=acc.length+1:=by simp
      have ol3:(acc++[a]).length=acc.length+1:=by simp
      simp only [withS]
      rw [ol3]
      generalize acc++[a]=acc1 at os1 ol1
      simp -implicitDefEqProofs (disch:=omega) only [Rx,simprocAttr,B177x1,k1,hg,ll,la,Attr.pv,e1,e9,os1,ol1]
  · right
    obtain rfl:i=l.length:=by omega
    have k1:¬ (l.length:Int)<(l.length:Int):=by omega
    refine ⟨_, ?_, ?_,rfl⟩
    · simp only [withS,withE]
      simp -implicitDefEqProofs (disch:=omega) only [Rx,simprocAttr,B177x1,k1]
    · simp [withE]
theorem with09_run (l : List Attr) (name v : Bs) (hl : l.length ≤ 1048577) (hnl : name.length ≤ 1048577) (g : List AObj) {n : Nat} (hn : l.length < n) (hn2 : name.length < n) :
    acall T (n+2) 177 [.p (.list (l.map Attr.pv)),.p (.str name),.p (.str v)] g=some (.p (.list ((withA l name v).map Attr.pv)),g):=by
  have ll:(l.map Attr.pv).length=l.length:=by simp
  have hfi:=fun g=>find09_run l name hl g (n:=n) hn
  have hle:=le_loop l name v (findA l name) hl hnl (n:=n) hn2 (n+1) (by omega)
  simp only [Int.natCast_zero] at hle
  unfold withA
  rw [acall_code T177,run_pure rfl rfl rfl]
  by_cases hf:fstAt l name<l.length
  · rw [if_pos hf]
    have hfa:findA l name=(fstAt l name:Int):=by simp [findA,hf]
    have hlo:=with_found l name v (leAt l name) (fstAt l name) hl hf (fun a ha=>fstAt_hit ha rfl) (acall T (n+1)) (n+1) (by omega)
    rw [hfa] at hfi hle
    have hwl:(l.set (fstAt l name) ⟨name,v⟩).length≤1048577:=by simp;omega
    generalize l.set (fstAt l name) ⟨name,v⟩=w at hlo hwl
    have wl:(w.map Attr.pv).length=w.length:=by simp
    generalize fstAt l name=k at hfi hle hlo
    generalize leAt l name=to at hle hlo
    simp only [withS,withE,List.map_nil,List.length_nil,Int.natCast_zero] at hlo
    have k0:¬ (k:Int)<0:=by omega
    simp -implicitDefEqProofs (disch:=omega) only [Rx,simprocAttr,F177,hfi,hle,hlo,ll,wl,k0]
  · rw [if_neg hf]
    have hfa:findA l name = -1:=by simp [findA,hf]
    have hlo:=with_new l name v (leAt l name) hl (acall T (n+1)) (n+1) (by omega)
    rw [hfa] at hfi hle
    rw [leAt_pos hf] at hle hlo
    have hpl:posAt l name≤l.length:=List.findIdx_le_length
    generalize hto:posAt l name=to at hle hlo hpl
    have hacc:(putA l to ⟨name,v⟩ l.length).length≤1048579:=by
      unfold putA
      split
      · rw [List.length_take];omega
      · rw [List.length_append,List.length_cons,List.length_take,List.length_take,List.length_drop];omega
    by_cases e:to=l.length
    · have hr:l.take to++⟨name,v⟩::l.drop to=putA l to ⟨name,v⟩ l.length++[⟨name,v⟩]:=by
        subst e;simp [putA]
      rw [hr]
      generalize putA l to ⟨name,v⟩ l.length=acc at hlo hacc
      have la:(acc.map Attr.pv).length=acc.length:=by simp
      have os1:acc.map Attr.pv++[[.str name,.str v]]=(acc++[(⟨name,v⟩:Attr)]).map Attr.pv:=by simp [Attr.pv]
      have ol1:((acc++[(⟨name,v⟩:Attr)]).map Attr.pv).length=acc.length+1:=by simp
      generalize acc++[(⟨name,v⟩:Attr)]=acc1 at os1 ol1
      have e1:((to:Int)==(l.length:Int))=true:=by simp;omega
      simp only [withS,withE,List.map_nil,List.length_nil,Int.natCast_zero] at hlo
      simp -implicitDefEqProofs (disch:=omega) only [Rx,simprocAttr,F177,hfi,hle,hlo,ll,la,os1,ol1,e1]
    · have hr:l.take to++⟨name,v⟩::l.drop to=putA l to ⟨name,v⟩ l.length:=by
        unfold putA
        rw [if_neg (by omega),List.take_of_length_le (l:=l.drop to) (by rw [List.length_drop];omega)]
      rw [hr]
      generalize putA l to ⟨name,v⟩ l.length=acc at hlo hacc
      have la:(acc.map Attr.pv).length=acc.length:=by simp
      have e1:((to:Int)==(l.length:Int))=false:=by simp;omega
      simp only [withS,withE,List.map_nil,List.length_nil,Int.natCast_zero] at hlo
      simp -implicitDefEqProofs (disch:=omega) only [Rx,simprocAttr,F177,hfi,hle,hlo,ll,la,e1]
end Tryz
end Go.TA


end
section
/- The document's answer: a node's attributes and text; a node is made. -/
namespace Go.TA
namespace Tryz
section
variable {R:Nat} {S:MS} {av:Nat→AV} {p q:Nat} {g:List AObj} {nx:Int}
theorem textD_run (hD:DM (liveL S) S.st S.kd nx av p q g) (hL:(liveL S).length≤4194304) (id:Int) (s:Bs) {n:Nat} (hn:(liveL S).length<n) :
  ∃ g',acall T (n+3) 143 [DP p,.p (.int .i64 id),.p (.str s)] g=some (.p (.int .i64 (textD S id s).1),g')∧DM (liveL (textD S id s).2) (textD S id s).2.st (textD S id s).2.kd nx av p q g'∧DFr (liveL S) av p q g (liveL (textD S id s).2) av q g':=by
 obtain ⟨o,ho,hrep⟩:=hD.core.row
 have hob:=hD.core.obj
 have hix:=fun s i=>hrep.idx rowsD_len s true q i
 have hno:=noneD_run hD.core hL id (n:=n) (by omega)
 unfold textD
 by_cases hf:fitE S id≠0
 ·rw [if_pos hf]
  have e1:(fitE S id==0)=false:=by simpa using hf
  refine ⟨g, ?_,hD,DFr.refl _ _ _ _ _⟩
  rw [acall_code T143,run_code rfl rfl]
  generalize fitE S id=e at hno e1 ⊢
  simp -implicitDefEqProofs (disch:=omega) only [Rx,simprocAttr,F143,hno,e1]
 rw [if_neg hf]
 obtain ⟨c,rfl,hcL,hc0⟩:=fit_live hf
 simp only [ne_eq,Decidable.not_not] at hf
 rw [hf] at hno
 by_cases hl:65536<(s.length:Int)
 ·rw [if_pos hl]
  have e1:(s.length:Int) > 65536:=hl
  refine ⟨g, ?_,hD,DFr.refl _ _ _ _ _⟩
  rw [acall_code T143,run_code rfl rfl]
  simp -implicitDefEqProofs (disch:=omega) only [Rx,simprocAttr,F143,hno,e1]
 rw [if_neg hl]
 have e1:¬ (s.length:Int) > 65536:=hl
 obtain ⟨ic,hpc,hic⟩:=posL_in hcL
 have hat1:=at_run hD.core hL (c:Int) (n:=n+1) (by omega)
 rw [hpc] at hat1
 have lc:=(List.getElem?_eq_some_iff.1 hic).1
 have kc:(ic:Int)<((liveL S).length:Int):=by omega
 obtain ⟨o',hw,hr'⟩:=wr_node hrep hic (j:=5) (by omega) (.p (.str s))
 have e3:(rowsD (liveL S) S.st av).set ic ((nAV c (S.st c) (av c)).set 5 (.p (.str s)))=rowsD (liveL S) (upd S.st c { S.st c with text:=s }) av:=by
  rw [← rows_node hD.core.nodup hic];rfl
 rw [e3] at hr'
 have hlv:liveL (textM S c s)=liveL S:=liveL_node (S:=S) (h:=c) (s:={ S.st c with text:=s }) rfl
 simp only [Int.toNat_natCast]
 refine ⟨g.set q o', ?_,by rw [hlv];exact hD.node _ hr',by rw [hlv];exact DFr.node o'⟩
 rw [acall_code T143,run_code rfl rfl]
 simp -implicitDefEqProofs (disch:=omega) only [Rx,simprocAttr,F143,hno,e1,hat1,hob,ho,hix,hw]
theorem setD_run (hS:S.Ok R) (hD:DM (liveL S) S.st S.kd nx av p q g) (hL:(liveL S).length≤4194304) (id:Int) (name v:Bs) {n:Nat} (hn:(liveL S).length<n) (hn2:1048577<n) :
  ∃ g',acall T (n+36) 141 [DP p,.p (.int .i64 id),.p (.str name),.p (.str v)] g=some (.p (.int .i64 (setD S id name v).1),g')∧DM (liveL (setD S id name v).2) (setD S id name v).2.st (setD S id name v).2.kd nx av p q g'∧DFr (liveL S) av p q g (liveL (setD S id name v).2) av q g':=by
 obtain ⟨o,ho,hrep⟩:=hD.core.row
 have hob:=hD.core.obj
 have hix:=fun s i=>hrep.idx rowsD_len s true q i
 have hno:=noneD_run hD.core hL id (n:=n+33) (by omega)
 unfold setD
 by_cases hf:fitE S id≠0
 ·rw [if_pos hf]
  have e1:(fitE S id==0)=false:=by simpa using hf
  refine ⟨g, ?_,hD,DFr.refl _ _ _ _ _⟩
  rw [acall_code T141,run_code rfl rfl]
  generalize fitE S id=e at hno e1 ⊢
  simp -implicitDefEqProofs (disch:=omega) only [Rx,simprocAttr,F141,hno,e1]
 rw [if_neg hf]
 obtain ⟨c,rfl,hcL,hc0⟩:=fit_live hf
 simp only [ne_eq,Decidable.not_not] at hf
 rw [hf] at hno
 have hnm:=fun g=>named02_run name true g n
 by_cases hm:namedB true name=false
 ·rw [if_pos hm]
  rw [hm] at hnm
  refine ⟨g, ?_,hD,DFr.refl _ _ _ _ _⟩
  rw [acall_code T141,run_code rfl rfl]
  simp -implicitDefEqProofs (disch:=omega) only [Rx,simprocAttr,F141,hno,hnm]
 rw [if_neg hm]
 simp only [Bool.not_eq_false] at hm
 have hnl:=namedB_len hm
 rw [hm] at hnm
 by_cases hl:65536<(v.length:Int)
 ·rw [if_pos hl]
  have e1:(v.length:Int) > 65536:=hl
  refine ⟨g, ?_,hD,DFr.refl _ _ _ _ _⟩
  rw [acall_code T141,run_code rfl rfl]
  simp -implicitDefEqProofs (disch:=omega) only [Rx,simprocAttr,F141,hno,hnm,e1]
 rw [if_neg hl]
 have e1:¬ (v.length:Int) > 65536:=hl
 obtain ⟨ic,hpc,hic⟩:=posL_in hcL
 have hat1:=at_run hD.core hL (c:Int) (n:=n+34) (by omega)
 rw [hpc] at hat1
 have lc:=(List.getElem?_eq_some_iff.1 hic).1
 have kc:(ic:Int)<((liveL S).length:Int):=by omega
 have rdc:=rd_node hrep hic (j:=6) (by omega)
 simp only [nAV] at rdc
 obtain ⟨hcN,hcl⟩:=mem_liveL.1 hcL
 have hal:=hS.attrs c hcN
 have hwi:=fun g=>with09_run (S.st c).attrs name v hal (by omega) g (n:=n+33) (by omega) (by omega)
 simp only [Int.toNat_natCast]
 generalize hwa:withA (S.st c).attrs name v=w at hwi
 have wl:(w.map Attr.pv).length=w.length:=by simp
 by_cases h64:64<(w.length:Int)
 ·rw [if_pos h64]
  have k64:(w.length:Int) > 64:=h64
  refine ⟨g, ?_,hD,DFr.refl _ _ _ _ _⟩
  rw [acall_code T141,run_code rfl rfl]
  simp -implicitDefEqProofs (disch:=omega) only [Rx,simprocAttr,F141,hno,hnm,e1,hat1,hob,ho,hix,rdc,hwi,wl,k64]
 rw [if_neg h64]
 have k64:¬ (w.length:Int) > 64:=h64
 obtain ⟨o',hw,hr'⟩:=wr_node hrep hic (j:=6) (by omega) (.p (.list (w.map Attr.pv)))
 have e3:(rowsD (liveL S) S.st av).set ic ((nAV c (S.st c) (av c)).set 6 (.p (.list (w.map Attr.pv))))=rowsD (liveL S) (upd S.st c { S.st c with attrs:=w }) av:=by
  rw [← rows_node hD.core.nodup hic];rfl
 rw [e3] at hr'
 have hlv:liveL (setM S c w)=liveL S:=liveL_node (S:=S) (h:=c) (s:={ S.st c with attrs:=w }) rfl
 refine ⟨g.set q o', ?_,by rw [hlv];exact hD.node _ hr',by rw [hlv];exact DFr.node o'⟩
 rw [acall_code T141,run_code rfl rfl]
 simp -implicitDefEqProofs (disch:=omega) only [Rx,simprocAttr,F141,hno,hnm,e1,hat1,hob,ho,hix,rdc,hwi,wl,k64,hw]
theorem delD_run (hS:S.Ok R) (hD:DM (liveL S) S.st S.kd nx av p q g) (hL:(liveL S).length≤4194304) (id:Int) (name:Bs) {n:Nat} (hn:(liveL S).length<n) (hn2:1048577<n) :
  ∃ g',acall T (n+3) 142 [DP p,.p (.int .i64 id),.p (.str name)] g=some (.p (.int .i64 (delD S id name).1),g')∧DM (liveL (delD S id name).2) (delD S id name).2.st (delD S id name).2.kd nx av p q g'∧DFr (liveL S) av p q g (liveL (delD S id name).2) av q g':=by
 obtain ⟨o,ho,hrep⟩:=hD.core.row
 have hob:=hD.core.obj
 have hix:=fun s i=>hrep.idx rowsD_len s true q i
 have hno:=noneD_run hD.core hL id (n:=n) (by omega)
 unfold delD
 by_cases hf:fitE S id≠0
 ·rw [if_pos hf]
  have e1:(fitE S id==0)=false:=by simpa using hf
  refine ⟨g, ?_,hD,DFr.refl _ _ _ _ _⟩
  rw [acall_code T142,run_code rfl rfl]
  generalize fitE S id=e at hno e1 ⊢
  simp -implicitDefEqProofs (disch:=omega) only [Rx,simprocAttr,F142,hno,e1]
 rw [if_neg hf]
 obtain ⟨c,rfl,hcL,hc0⟩:=fit_live hf
 simp only [ne_eq,Decidable.not_not] at hf
 rw [hf] at hno
 obtain ⟨ic,hpc,hic⟩:=posL_in hcL
 have hat1:=at_run hD.core hL (c:Int) (n:=n+1) (by omega)
 rw [hpc] at hat1
 have lc:=(List.getElem?_eq_some_iff.1 hic).1
 have kc:(ic:Int)<((liveL S).length:Int):=by omega
 have rdc:=rd_node hrep hic (j:=6) (by omega)
 simp only [nAV] at rdc
 obtain ⟨hcN,hcl⟩:=mem_liveL.1 hcL
 have hal:=hS.attrs c hcN
 have hwi:=fun g=>without09_run (S.st c).attrs name hal g (n:=n+1) (by omega)
 simp only [Int.toNat_natCast]
 generalize hwa:withoutA (S.st c).attrs name=w at hwi
 have wl:(w.map Attr.pv).length=w.length:=by simp
 by_cases hlt:w.length<(S.st c).attrs.length
 rotate_left
 ·rw [if_neg hlt]
  have ed:decide (w.length<(S.st c).attrs.length)=false:=by simpa using hlt
  rw [ed] at hwi
  refine ⟨g, ?_,hD,DFr.refl _ _ _ _ _⟩
  rw [acall_code T142,run_code rfl rfl]
  simp -implicitDefEqProofs (disch:=omega) only [Rx,simprocAttr,F142,hno,hat1,hob,ho,hix,rdc,hwi]
 rw [if_pos hlt]
 have ed:decide (w.length<(S.st c).attrs.length)=true:=by simpa using hlt
 rw [ed] at hwi
 obtain ⟨o',hw,hr'⟩:=wr_node hrep hic (j:=6) (by omega) (.p (.list (w.map Attr.pv)))
 have e3:(rowsD (liveL S) S.st av).set ic ((nAV c (S.st c) (av c)).set 6 (.p (.list (w.map Attr.pv))))=rowsD (liveL S) (upd S.st c { S.st c with attrs:=w }) av:=by
  rw [← rows_node hD.core.nodup hic];rfl
 rw [e3] at hr'
 have hlv:liveL (setM S c w)=liveL S:=liveL_node (S:=S) (h:=c) (s:={ S.st c with attrs:=w }) rfl
 refine ⟨g.set q o', ?_,by rw [hlv];exact hD.node _ hr',by rw [hlv];exact DFr.node o'⟩
 rw [acall_code T142,run_code rfl rfl]
 simp -implicitDefEqProofs (disch:=omega) only [Rx,simprocAttr,F142,hno,hat1,hob,ho,hix,rdc,hwi,hw]
end
end Tryz
end Go.TA


end
section
/- The document's answer: a node is made; any operation. -/
namespace Go.TA
theorem DM.push {L : List Nat} {st : Nat → MNode} {kd : Nat → List Int} {nx : Int} {av : Nat → AV} {p q : Nat} {g : List AObj} (h : DM L st kd nx av p q g) {N : Nat} (hN : N ∉ L) (s : MNode) (nx' : Int) {o' : AObj} (hr : RowRep 7 (rowsD (L ++ [N]) (upd st N s) (upd av N .nils)) o') : DM (L ++ [N]) (upd st N s) (upd kd N []) nx' (upd av N .nils) p q ((g.set q o').set p (.cells 2 [[.own true q (L.length + 1), .p (.int .i64 nx')]])) := by
  have hp:=(List.getElem?_eq_some_iff.1 h.core.obj).1
  obtain ⟨o,ho,_⟩:=h.core.row
  have hq:=(List.getElem?_eq_some_iff.1 ho).1
  have hmem:∀ k,k ∈ L++[N]→k=N∨(k ∈ L∧k≠N):=fun k hk=>by
    rcases List.mem_append.1 hk with h1 | h1
    · exact .inr ⟨h1,fun e=>hN (e ▸ h1)⟩
    · simp at h1;exact .inl h1
  refine ⟨⟨?_,⟨o', ?_,hr⟩,h.core.pq, ?_⟩,fun k hk => ?_,fun k hk => ?_,fun k k' hk hk' hne => ?_⟩
  · rw [List.getElem?_set,if_pos rfl,if_pos (by rw [List.length_set];exact hp)];simp
  · rw [List.getElem?_set,if_neg h.core.pq,List.getElem?_set,if_pos rfl,if_pos hq]
  · rw [List.nodup_append]
    refine ⟨h.core.nodup,by simp,fun a ha b hb e => ?_⟩
    simp at hb;subst hb;subst e;exact hN ha
  · rcases hmem k hk with rfl | ⟨h1,h2⟩
    · rw [upd_at,upd_at];exact .none
    · rw [upd_ne h2,upd_ne h2]
      refine (h.kids k h1).keep fun r hr => ?_
      rw [List.getElem?_set,if_neg (fun e=>(h.away k h1).1 (by rw [e];exact hr)),List.getElem?_set,if_neg (fun e=>(h.away k h1).2 (by rw [e];exact hr))]
  · rcases hmem k hk with rfl | ⟨h1,h2⟩
    · rw [upd_at];simp [refOf]
    · rw [upd_ne h2];exact h.away k h1
  · rcases hmem k hk with rfl | ⟨h1,h2⟩
    · left;rw [upd_at];rfl
    · rw [upd_ne h2]
      rcases hmem k' hk' with rfl | ⟨h3,h4⟩
      · rw [upd_at]
        cases hr:refOf (av k) with
        | none=>exact .inl rfl
        | some q=>exact .inr (by simp [refOf])
      · rw [upd_ne h4];exact h.disj k k' h1 h3 hne
theorem DFr.push {L:List Nat} {av:Nat→AV} {p q:Nat} {g:List AObj} {N:Nat} (hN:N ∉ L) (o o':AObj):DFr L av p q g (L++[N]) (upd av N .nils) q ((g.set q o).set p o') where
 len:=by simp
 keep j hj hp hq hn:=by rw [List.getElem?_set,if_neg (fun e=>hp e.symm),List.getElem?_set,if_neg (fun e=>hq e.symm)]
 row:=.inl rfl
 refs k hk j hj _:=by
  rcases List.mem_append.1 hk with h1 | h1
  ·have:k≠N:=fun e=>hN (e ▸ h1)
   rw [upd_ne this] at hj;exact ⟨k,h1,hj⟩
  ·simp at h1;subst h1;rw [upd_at] at hj;cases hj
namespace Tryz
section
variable {R:Nat} {S:MS} {av:Nat→AV} {p q:Nat} {g:List AObj}
theorem createD_run (hD:DM (liveL S) S.st S.kd S.N av p q g) (hL:(liveL S).length≤4194304) (x:GOp) (hs:smallAttrs x.attrs) {n:Nat} (hn:x.attrs.length<n) (hn2:1048576<n) :
    ∃ av' g', acall T (n + 37) 76 [DP p, .p (.str x.tag), .p (.str x.key), .p (.str x.text), .p (.list (x.attrs.map Attr.pv))] g = some (if createErr S.N x = 0 then .tuple [.p (.int .i64 S.N), .p (.int .i64 0)] else .tuple [.p (.int .i64 0), .p (.int .i64 (createErr S.N x))], g')
      ∧ DM (liveL (if createErr S.N x=0 then S.create x else S)) (if createErr S.N x=0 then S.create x else S).st (if createErr S.N x=0 then S.create x else S).kd (if createErr S.N x=0 then S.create x else S).N av' p q g'∧DFr (liveL S) av p q g (liveL (if createErr S.N x=0 then S.create x else S)) av' q g':=by
  obtain ⟨o,ho,hrep⟩:=hD.core.row
  have hob:=hD.core.obj
  have hnm:=fun g=>named02_run x.tag false g (n+1)
  have hat:=fun g=>a09_run x.attrs hs g (n:=n) (by omega) hn2
  have bad:∀ e:Int,createErr S.N x=e→e≠0→acall T (n+37) 76 [DP p,.p (.str x.tag),.p (.str x.key),.p (.str x.text),.p (.list (x.attrs.map Attr.pv))] g=some (.tuple [.p (.int .i64 0),.p (.int .i64 e)],g) →
      ∃ av' g',acall T (n+37) 76 [DP p,.p (.str x.tag),.p (.str x.key),.p (.str x.text),.p (.list (x.attrs.map Attr.pv))] g=some (if createErr S.N x=0 then .tuple [.p (.int .i64 S.N),.p (.int .i64 0)] else .tuple [.p (.int .i64 0),.p (.int .i64 (createErr S.N x))],g')
      ∧ DM (liveL (if createErr S.N x=0 then S.create x else S)) (if createErr S.N x=0 then S.create x else S).st (if createErr S.N x=0 then S.create x else S).kd (if createErr S.N x=0 then S.create x else S).N av' p q g'∧DFr (liveL S) av p q g (liveL (if createErr S.N x=0 then S.create x else S)) av' q g':=fun e he hne hr=>by
    rw [he,if_neg hne,if_neg hne]
    exact ⟨av,g,hr,hD,DFr.refl _ _ _ _ _⟩
  by_cases h7:namedB false x.tag=false
  · refine bad 7 (by simp [createErr,h7]) (by decide) ?_
    rw [h7] at hnm
    rw [acall_code T76,run_code rfl rfl]
    simp -implicitDefEqProofs (disch:=omega) only [Rx,simprocAttr,F76,hnm]
  simp only [Bool.not_eq_false] at h7
  rw [h7] at hnm
  by_cases h3:65536<(x.key.length:Int)
  · refine bad 3 (by simp only [createErr,h7,Bool.true_eq_false,if_false,if_pos (Or.inl h3:65536<(x.key.length:Int)∨65536<(x.text.length:Int))]) (by decide) ?_
    have k3:(x.key.length:Int) > 65536:=h3
    rw [acall_code T76,run_code rfl rfl]
    simp -implicitDefEqProofs (disch:=omega) only [Rx,simprocAttr,F76,hnm,k3]
  have k3:¬ (x.key.length:Int) > 65536:=h3
  by_cases h4:65536<(x.text.length:Int)
  · refine bad 3 (by simp only [createErr,h7,Bool.true_eq_false,if_false,if_pos (Or.inr h4:65536<(x.key.length:Int)∨65536<(x.text.length:Int))]) (by decide) ?_
    have k4:(x.text.length:Int) > 65536:=h4
    rw [acall_code T76,run_code rfl rfl]
    simp -implicitDefEqProofs (disch:=omega) only [Rx,simprocAttr,F76,hnm,k3,k4]
  have k4:¬ (x.text.length:Int) > 65536:=h4
  have h34:¬ (65536<(x.key.length:Int)∨65536<(x.text.length:Int)):=fun h=>h.elim h3 h4
  by_cases h5:attrsErr x.attrs≠0
  · refine bad (attrsErr x.attrs) (by simp only [createErr,h7,Bool.true_eq_false,if_false,if_neg h34,if_pos h5]) h5 ?_
    have k5:(attrsErr x.attrs==0)=false:=by simpa using h5
    generalize attrsErr x.attrs=e at hat k5
    rw [acall_code T76,run_code rfl rfl]
    simp -implicitDefEqProofs (disch:=omega) only [Rx,simprocAttr,F76,hnm,k3,k4,hat,k5]
  simp only [ne_eq,Decidable.not_not] at h5
  rw [h5] at hat
  by_cases h6:4294967295<(S.N:Int)
  · refine bad 21 (by simp only [createErr,h7,Bool.true_eq_false,if_false,if_neg h34,h5,ne_eq,not_true_eq_false,if_pos h6]) (by decide) ?_
    have k6:(S.N:Int) > 4294967295:=h6
    rw [acall_code T76,run_code rfl rfl]
    simp -implicitDefEqProofs (disch:=omega) only [Rx,simprocAttr,F76,hnm,k3,k4,hat,hob,k6]
  have k6:¬ (S.N:Int) > 4294967295:=h6
  have hz:createErr S.N x=0:=by simp only [createErr,h7,Bool.true_eq_false,if_false,if_neg h34,h5,ne_eq,not_true_eq_false,if_neg h6]
  rw [hz,if_pos rfl,if_pos rfl]
  have hNL:S.N ∉ liveL S:=fun h=>by have:=(mem_liveL.1 h).1;omega
  obtain ⟨o',happ,hr'⟩:=hrep.app (bytes:=112) rowsD_len (by omega) (c:=nAV S.N ⟨true, -1,x.tag,x.key,x.text,x.attrs⟩ .nils) rfl rfl
  rw [rowsD_push hNL] at hr'
  have hDp:=hD.push hNL ⟨true, -1,x.tag,x.key,x.text,x.attrs⟩ ((S.N:Int)+1) hr'
  have hFp:=DFr.push (av:=av) (p:=p) (q:=q) (g:=g) hNL o' (.cells 2 [[.own true q ((liveL S).length+1),.p (.int .i64 ((S.N:Int)+1))]])
  refine ⟨upd av S.N .nils,_, ?_,by rw [liveL_create];exact hDp,by rw [liveL_create];exact hFp⟩
  have hpl:=(List.getElem?_eq_some_iff.1 hob).1
  have hob2:(g.set q o')[p]? = some (.cells 2 [[.own true q (liveL S).length,.p (.int .i64 S.N)]]):=by
    rw [List.getElem?_set,if_neg (fun e=>hD.core.pq e.symm)];exact hob
  have hA:∀ X:AObj,((g.set q o').set p X)[p]? = some X:=fun X=>by rw [List.getElem?_set,if_pos rfl,if_pos (by rw [List.length_set];exact hpl)]
  have hss:∀ X Y:AObj,((g.set q o').set p X).set p Y=(g.set q o').set p Y:=fun X Y=>by simp
  have e9:(S.N:Int)+1 - 1=S.N:=by omega
  generalize hG:g.set q o'=G at hob2 hA hss
  simp only [nAV,List.map_nil] at happ
  rw [acall_code T76,run_code rfl rfl]
  simp -implicitDefEqProofs (disch:=omega) only [Rx,simprocAttr,F76,hnm,k3,k4,hat,hob,ho,k6,happ,hG,hob2,hA,hss,e9]
end
end Tryz
end Go.TA


end
section
/- The document's answer, of rows. -/
namespace Go.TA
structure Behind (g0:List AObj) (L:List Nat) (av:Nat→AV) (g:List AObj):Prop where
 len:g0.length≤g.length
 keep:∀ j,j<g0.length→g[j]? = g0[j]?
 refs:∀ h,h ∈ L→∀ r,refOf (av h)=some r→g0.length≤r
theorem DM.grow {L : List Nat} {st : Nat → MNode} {kd : Nat → List Int} {nx : Int} {av : Nat → AV} {p q : Nat} {g : List AObj} (h : DM L st kd nx av p q g) {c r : Nat} (hc : c ∈ L) (ha : av c = .own true r (kd c).length) (k : Int) {o' : AObj} (hr : RowRep 7 (rowsD L st (upd av c (.own true r ((kd c).length + 1)))) o') : DM L st (upd kd c (kd c ++ [k])) nx (upd av c (.own true r ((kd c).length + 1))) p q ((g.set r (.pcells 1 (intsPV (kd c ++ [k])))).set q o') := by
  have hro:refOf (av c)=some r:=by rw [ha];rfl
  have hrp:=(h.away c hc).1
  have hrq:=(h.away c hc).2
  rw [hro] at hrp hrq
  simp only [ne_eq,Option.some.injEq] at hrp hrq
  have hrl:=(h.kids c hc).ref_lt hro
  obtain ⟨o,ho,_⟩:=h.core.row
  have hql:=(List.getElem?_eq_some_iff.1 ho).1
  have hrn:∀ n,refOf (.own true r n)=some r:=fun n=>rfl
  refine ⟨⟨?_,⟨o', ?_,hr⟩,h.core.pq,h.core.nodup⟩,fun y hy => ?_,fun y hy => ?_,fun y y' hy hy' hne => ?_⟩
  · rw [List.getElem?_set,if_neg (fun e=>h.core.pq e.symm),List.getElem?_set,if_neg hrp];exact h.core.obj
  · rw [List.getElem?_set,if_pos rfl,if_pos (by rw [List.length_set];exact hql)]
  · by_cases e:y=c
    · subst e
      rw [upd_at,upd_at]
      have:=KG.own (g:=(g.set r (.pcells 1 (intsPV (kd y++[k])))).set q o') (r:=r) (ks:=kd y++[k]) (by rw [List.getElem?_set,if_neg (fun e=>hrq e.symm),List.getElem?_set,if_pos rfl,if_pos hrl])
      simpa using this
    · rw [upd_ne e,upd_ne e]
      refine (h.kids y hy).keep fun r' hr' => ?_
      rw [List.getElem?_set,if_neg (fun e=>(h.away y hy).2 (by rw [e];exact hr')),List.getElem?_set,if_neg]
      intro e2
      rcases h.disj y c hy hc e with h1 | h1
      · rw [h1] at hr';cases hr'
      · exact h1 (by rw [hr',hro,e2])
  · by_cases e:y=c
    · subst e;rw [upd_at,hrn];simp [hrp,hrq]
    · rw [upd_ne e];exact h.away y hy
  · have e0:∀ n,refOf (.own true r n)=refOf (av c):=fun n=>by rw [hro];rfl
    by_cases e:y=c
    · subst e
      rw [upd_at,upd_ne (fun e=>hne e.symm),e0]
      exact h.disj y y' hy hy' hne
    · rw [upd_ne e]
      by_cases e':y'=c
      · subst e'
        rw [upd_at,e0]
        exact h.disj y y' hy hy' hne
      · rw [upd_ne e'];exact h.disj y y' hy hy' hne
theorem DM.first {L : List Nat} {st : Nat → MNode} {kd : Nat → List Int} {nx : Int} {av : Nat → AV} {p q : Nat} {g : List AObj} (h : DM L st kd nx av p q g) {c : Nat} (hc : c ∈ L) (k : Int) {o' : AObj} (hr : RowRep 7 (rowsD L st (upd av c (.own true g.length 1))) o') : DM L st (upd kd c [k]) nx (upd av c (.own true g.length 1)) p q ((g ++ [AObj.pcells 1 (intsPV [k])]).set q o') := by
  obtain ⟨o,ho,_⟩:=h.core.row
  have hql:=(List.getElem?_eq_some_iff.1 ho).1
  have hpl:=(List.getElem?_eq_some_iff.1 h.core.obj).1
  have hrn:refOf (.own true g.length 1)=some g.length:=rfl
  refine ⟨⟨?_,⟨o', ?_,hr⟩,h.core.pq,h.core.nodup⟩,fun y hy => ?_,fun y hy => ?_,fun y y' hy hy' hne => ?_⟩
  · rw [List.getElem?_set,if_neg (fun e=>h.core.pq e.symm),List.getElem?_append_left hpl];exact h.core.obj
  · rw [List.getElem?_set,if_pos rfl,if_pos (by rw [List.length_append];omega)]
  · by_cases e:y=c
    · subst e
      rw [upd_at,upd_at]
      exact KG.own (ks:=[k]) (by rw [List.getElem?_set,if_neg (by omega)];simp)
    · rw [upd_ne e,upd_ne e]
      refine (h.kids y hy).keep fun r' hr' => ?_
      have:=(h.kids y hy).ref_lt hr'
      rw [List.getElem?_set,if_neg (fun e=>(h.away y hy).2 (by rw [e];exact hr')),List.getElem?_append_left this]
  · by_cases e:y=c
    · subst e;rw [upd_at,hrn];simp;omega
    · rw [upd_ne e];exact h.away y hy
  · by_cases e:y=c
    · subst e
      rw [upd_at,upd_ne (fun e=>hne e.symm),hrn]
      cases hr:refOf (av y') with
      | none=>exact .inr (by simp)
      | some r =>
        right
        have:=(h.kids y' hy').ref_lt hr
        simp only [ne_eq,Option.some.injEq];omega
    · rw [upd_ne e]
      by_cases e':y'=c
      · subst e'
        rw [upd_at,hrn]
        cases hr:refOf (av y) with
        | none=>exact .inl rfl
        | some r =>
          right
          have:=(h.kids y hy).ref_lt hr
          simp only [ne_eq,Option.some.injEq];omega
      · rw [upd_ne e'];exact h.disj y y' hy hy' hne
namespace Tryz
def newD (l:List GRow) (p i:Nat) (g:List AObj):St:=⟨[(0,.p (.list (l.map GRow.pv))),(3,DP p),(8,.p (.int .i64 l.length)),(9,.p (.int .i64 i))],[],g⟩
theorem newD_loop {C : Calls'} {N : Nat} (l : List GRow) (hl : l.length ≤ 1048576) (hs : standTo l l.length) (hN : l.length < N) (g0 : List AObj) (av0 : Nat → AV) (g1 : List AObj) (p q : Nat) (hD0 : DM (List.range 1) (st0 l) (kd0 l 0) 1 av0 p q g1) (hav0 : ∀ h, h ∈ List.range 1 → ∀ ks, av0 h ≠ .p ks) (hB0 : Behind g0 (List.range 1) av0 g1) (hp : g0.length ≤ p) (hq : g0.length ≤ q) :
    ∃ r,aexec C N (.loop B89x0) (newD l p 0 g1)=some r∧∃ av g,r=(.exit 0,⟨[(0,.p (.list (l.map GRow.pv))),(3,DP p)],[],g⟩)∧DM (List.range (l.length+1)) (st0 l) (kd0 l l.length) 1 av p q g∧Behind g0 (List.range (l.length+1)) av g:=by
  refine loop_inv (σ := Nat × (Nat→AV) × List AObj) (S:=fun s=>newD l p s.1 s.2.2) (I:=fun s=>s.1≤l.length∧DM (List.range (s.1+1)) (st0 l) (kd0 l s.1) 1 s.2.1 p q s.2.2∧(∀ h,h ∈ List.range (s.1+1)→∀ ks,s.2.1 h ≠ .p ks)∧Behind g0 (List.range (s.1+1)) s.2.1 s.2.2) (μ := fun s=>l.length - s.1)
    (Q:=fun r=>∃ av g,r=(.exit 0,⟨[(0,.p (.list (l.map GRow.pv))),(3,DP p)],[],g⟩)∧DM (List.range (l.length+1)) (st0 l) (kd0 l l.length) 1 av p q g∧Behind g0 (List.range (l.length+1)) av g) ?_ (0,av0,g1) ⟨by omega,hD0,hav0,hB0⟩ (by simp only;omega)
  rintro ⟨i,av,g⟩ ⟨h1,hD,h3,hB⟩
  simp only at h1 hD h3 hB ⊢
  by_cases hi:i<l.length
  · left
    obtain ⟨x,hx⟩:=get_some hi
    have hu:=hs i x hi hx
    obtain ⟨u,hue⟩:∃ u:Nat,x.up=(u:Int):=⟨x.up.toNat,by omega⟩
    have hg:=getD_map (f:=GRow.pv) hx
    have k1:(i:Int)<(l.length:Int):=by omega
    have hst:st0 l (i+1)=nodeOf x:=by simp [st0,hx]
    obtain ⟨o,ho,hrep⟩:=hD.core.row
    have hob:=hD.core.obj
    have hrl:(List.range (i+1)).length=i+1:=by simp
    rw [hrl] at hob
    have hNL:i+1 ∉ List.range (i+1):=by simp
    obtain ⟨o1,happ,hr1⟩:=hrep.app (n:=i+1) (bytes:=112) (by rw [rowsD_len,hrl]) (by omega) (c:=nAV (i+1) (nodeOf x) .nils) rfl rfl
    rw [rowsD_push hNL] at hr1
    have hD1:=hD.push hNL (nodeOf x) 1 hr1
    rw [hrl] at hD1
    have hD2:DM (List.range (i+1+1)) (st0 l) (upd (kd0 l i) (i+1) []) 1 (upd av (i+1) .nils) p q ((g.set q o1).set p (.cells 2 [[.own true q (i+1+1),.p (.int .i64 1)]])):=by
      rw [List.range_succ]
      refine hD1.congr fun k hk=>⟨?_,rfl⟩
      by_cases e:k=i+1
      · subst e;rw [upd_at,hst]
      · rw [upd_ne e]
    have hB2:Behind g0 (List.range (i+1+1)) (upd av (i+1) .nils) ((g.set q o1).set p (.cells 2 [[.own true q (i+1+1),.p (.int .i64 1)]])):=by
      refine ⟨by simpa using hB.len,fun j hj => ?_,fun h hh r hr => ?_⟩
      · rw [List.getElem?_set,if_neg (by omega),List.getElem?_set,if_neg (by omega)];exact hB.keep j hj
      · by_cases e:h=i+1
        · subst e;rw [upd_at] at hr;cases hr
        · rw [upd_ne e] at hr
          exact hB.refs h (by have:=List.mem_range.1 hh;exact List.mem_range.2 (by omega)) r hr
    have h32:∀ h,h ∈ List.range (i+1+1)→∀ ks,upd av (i+1) .nils h ≠ .p ks:=fun h hh ks=>by
      by_cases e:h=i+1
      · subst e;rw [upd_at];simp
      · rw [upd_ne e];exact h3 h (by have:=List.mem_range.1 hh;exact List.mem_range.2 (by omega)) ks
    have hpl:=(List.getElem?_eq_some_iff.1 hob).1
    have hob1:(g.set q o1)[p]? = some (.cells 2 [[.own true q (i+1),.p (.int .i64 1)]]):=by
      rw [List.getElem?_set,if_neg (fun e=>hD.core.pq e.symm)];exact hob
    generalize hG:g.set q o1=G at hD2 hB2 hob1
    generalize hG2:G.set p (.cells 2 [[.own true q (i+1+1),.p (.int .i64 1)]])=G2 at hD2 hB2
    generalize hav2:upd av (i+1) .nils=av2 at hD2 hB2 h32
    have hrl2:(List.range (i+1+1)).length=i+1+1:=by simp
    obtain ⟨o2,ho2,hrep2⟩:=hD2.core.row
    have hob2:=hD2.core.obj
    rw [hrl2] at hob2
    have hix2:=fun s i=>hrep2.idx (by rw [rowsD_len,hrl2]) s true q i
    have hul:u<i+1+1:=by omega
    have huL:u ∈ List.range (i+1+1):=List.mem_range.2 hul
    have hiu:(List.range (i+1+1))[u]? = some u:=List.getElem?_range hul
    have ku:(u:Int)<((i+1+1:Nat):Int):=by omega
    have rdu:=rd_node hrep2 hiu (j:=2) (by omega)
    rw [hrl2] at rdu
    simp only [nAV] at rdu
    have hK:=hD2.kids u huL
    have hkd:∀ h,h ∈ List.range (i+1+1)→upd (upd (kd0 l i) (i+1) []) u (upd (kd0 l i) (i+1) [] u++[(i:Int)+1]) h=kd0 l (i+1) h:=by
      intro h hh
      have hnew:upd (kd0 l i) (i+1) [] h=kd0 l i h:=by
        by_cases e:h=i+1
        · subst e;rw [upd_at,kd0_new (hs.mono (by omega)) (by omega)]
        · rw [upd_ne e]
      rw [kd0_succ hx,hue]
      by_cases e:h=u
      · subst e
        rw [upd_at,hnew,if_pos rfl]
      · rw [upd_ne e,hnew,if_neg (by omega)]
    have hkl:(upd (kd0 l i) (i+1) [] u).length≤1048576:=by
      by_cases e:u=i+1
      · rw [e,upd_at];simp
      · rw [upd_ne e]
        simp only [kd0,List.length_map]
        have:=List.length_filter_le (fun k=>((l[k]?).map (fun x=>x.up==(u:Int))).getD false) (List.range i)
        simp only [List.length_range] at this
        omega
    generalize hkd2:upd (kd0 l i) (i+1) []=kd2 at hD2 hK hkd hkl
    have hwr:=fun a=>wr_node hrep2 hiu (j:=2) (by omega) a
    have hql:=(List.getElem?_eq_some_iff.1 ho2).1
    have hp2:=(List.getElem?_eq_some_iff.1 hob2).1
    simp only [nAV,nodeOf,hue] at happ
    have c1:((i+1:Nat):Int)=(i:Int)+1:=by omega
    rw [c1] at happ
    rcases hK.inv with ⟨hav,hk0⟩ | ⟨r,hav,hr⟩ | hav
    · rw [hav] at rdu
      obtain ⟨o3,hw,hr3⟩:=hwr (.own true G2.length 1)
      rw [rows_kids List.nodup_range hiu] at hr3
      rw [hrl2] at hw
      have hD3:=hD2.first huL ((i:Int)+1) hr3
      refine ⟨(i+1,upd av2 u (.own true G2.length 1),(G2++[AObj.pcells 1 (intsPV [(i:Int)+1])]).set q o3), ?_,⟨by simp only;omega,hD3.congr fun h hh=>⟨rfl,by rw [← hkd h hh,hk0];rfl⟩,fun h hh ks => ?_, ?_,fun j hj => ?_,fun h hh r hr => ?_⟩,by simp only;omega⟩
      · have hlast:(G2++[AObj.pcells 1 []])[G2.length]? = some (.pcells 1 []):=by simp
        have hset:∀ X,(G2++[AObj.pcells 1 []]).set G2.length X=G2++[X]:=fun X=>by simp [List.set_append]
        have hob3:∀ X,(G2++[X])[p]? = some (.cells 2 [[.own true q (i+1+1),.p (.int .i64 1)]]):=fun X=>by rw [List.getElem?_append_left hp2];exact hob2
        have ho3:∀ X,(G2++[X])[q]? = some o2:=fun X=>by rw [List.getElem?_append_left hql];exact ho2
        have ei:intsPV [(i:Int)+1]=[[.int .i64 ((i:Int)+1)]]:=rfl
        rw [ei]
        simp only [newD]
        simp -implicitDefEqProofs (disch:=omega) only [Rx,simprocAttr,B89x0,k1,hg,GRow.pv,attrsPV,hob,ho,happ,hG,hob1,hG2,hob2,ho2,hix2,hue,rdu,hset,hob3,ho3,hw]
      · by_cases e:h=u
        · subst e;simp [upd]
        · simp only;rw [upd_ne e];exact h32 h hh ks
      · have:=hB2.len;simp;omega
      · have:=hB2.len
        simp only
        rw [List.getElem?_set,if_neg (by omega),List.getElem?_append_left (by omega)];exact hB2.keep j hj
      · simp only at hr
        by_cases e:h=u
        · subst e
          rw [upd_at] at hr
          simp only [refOf,Option.some.injEq] at hr
          have:=hB2.len;omega
        · rw [upd_ne e] at hr;exact hB2.refs h hh r hr
    · rw [hav] at rdu
      obtain ⟨o3,hw,hr3⟩:=hwr (.own true r ((kd2 u).length+1))
      rw [rows_kids List.nodup_range hiu] at hr3
      rw [hrl2] at hw
      have hD3:=hD2.grow huL hav ((i:Int)+1) hr3
      have hro:refOf (av2 u)=some r:=by rw [hav];rfl
      have hrb:=hB2.refs u huL r hro
      refine ⟨(i+1,upd av2 u (.own true r ((kd2 u).length+1)),(G2.set r (.pcells 1 (intsPV (kd2 u++[(i:Int)+1])))).set q o3), ?_,⟨by simp only;omega,hD3.congr fun h hh=>⟨rfl,by rw [← hkd h hh]⟩,fun h hh ks => ?_, ?_,fun j hj => ?_,fun h hh r' hr' => ?_⟩,by simp only;omega⟩
      · have hrp:=(hD2.away u huL).1
        have hrq:=(hD2.away u huL).2
        rw [hro] at hrp hrq
        simp only [ne_eq,Option.some.injEq] at hrp hrq
        have hob3:∀ X,(G2.set r X)[p]? = some (.cells 2 [[.own true q (i+1+1),.p (.int .i64 1)]]):=fun X=>by rw [List.getElem?_set,if_neg hrp];exact hob2
        have ho3:∀ X,(G2.set r X)[q]? = some o2:=fun X=>by rw [List.getElem?_set,if_neg hrq];exact ho2
        have il:=intsPV_len (kd2 u)
        have os:=intsPV_snoc (kd2 u) ((i:Int)+1)
        have ol:(intsPV (kd2 u++[(i:Int)+1])).length=(kd2 u).length+1:=by rw [intsPV_len];simp
        generalize kd2 u++[(i:Int)+1]=ks2 at os ol
        simp only [newD]
        simp -implicitDefEqProofs (disch:=omega) only [Rx,simprocAttr,B89x0,k1,hg,GRow.pv,attrsPV,hob,ho,happ,hG,hob1,hG2,hob2,ho2,hix2,hue,rdu,hr,il,os,ol,hob3,ho3,hw]
      · by_cases e:h=u
        · subst e;simp [upd]
        · simp only;rw [upd_ne e];exact h32 h hh ks
      · have:=hB2.len;simp;omega
      · have:=hB2.len
        simp only
        rw [List.getElem?_set,if_neg (by omega),List.getElem?_set,if_neg (by omega)];exact hB2.keep j hj
      · simp only at hr'
        by_cases e:h=u
        · subst e
          rw [upd_at] at hr'
          simp only [refOf,Option.some.injEq] at hr'
          omega
        · rw [upd_ne e] at hr';exact hB2.refs h hh r' hr'
    · exact absurd hav (h32 u huL _)
  · right
    obtain rfl:i=l.length:=by omega
    have k1:¬ (l.length:Int)<(l.length:Int):=by omega
    refine ⟨_, ?_, ?_,av,g,rfl,hD,hB⟩
    · simp only [newD]
      simp -implicitDefEqProofs (disch:=omega) only [Rx,simprocAttr,B89x0,k1]
    · simp
theorem new20_run (nx:Int) (g:List AObj) (n:Nat):acall T (n+1) 27 [.p (.int .i64 nx)] g=some (DP (g.length+1),g++[.cells 7 [nAV 0 holder .nils]]++[.cells 2 [[.own true g.length 1,.p (.int .i64 nx)]]]):=by
 rw [acall_code T27,run_code rfl rfl]
 have e:(g++[AObj.cells 7 [nAV 0 holder .nils]]).length=g.length+1:=by simp
 simp only [nAV,holder,List.map_nil,Int.natCast_zero] at e ⊢
 simp -implicitDefEqProofs (disch:=omega) only [Rx,simprocAttr,F27,e]
theorem S0_live (l:List GRow):liveL (S0 l)=List.range (l.length+1):=by
  unfold liveL
  refine List.filter_eq_self.2 fun c hc => ?_
  have hc:=List.mem_range.1 hc
  simp only [S0] at hc ⊢
  cases c with
  | zero=>rfl
  | succ j =>
    obtain ⟨x,hx⟩:=get_some (show j<l.length by omega)
    simp [st0,hx,nodeOf]
theorem newR_run (l:List GRow) (hl:l.length≤1048576) (hs:standTo l l.length) (g:List AObj) {n:Nat} (hn:l.length<n) :
  ∃ av g',acall T (n+2) 89 [.p (.list (l.map GRow.pv))] g=some (DP (g.length+1),g')∧DM (liveL (S0 l)) (S0 l).st (S0 l).kd (S0 l).N av (g.length+1) g.length g'∧Behind g (liveL (S0 l)) av g':=by
 have hn20:=new20_run 1 g n
 have hr1:List.range 1=[0]:=rfl
 have hD0:DM (List.range 1) (st0 l) (kd0 l 0) 1 (fun _ => .nils) (g.length+1) g.length (g++[.cells 7 [nAV 0 holder .nils]]++[.cells 2 [[.own true g.length 1,.p (.int .i64 1)]]]):=by
  refine ⟨⟨?_,⟨.cells 7 [nAV 0 holder .nils], ?_,.inl rfl⟩,by omega,List.nodup_range⟩,fun h hh => ?_,fun h hh=>by simp [refOf],fun h h' hh hh' hne => .inl rfl⟩
  ·rw [List.getElem?_append_right (by simp)];simp
  ·rw [List.append_assoc,List.getElem?_append_right (Nat.le_refl _)];simp
  ·exact .none
 have hB0:Behind g (List.range 1) (fun _ => .nils) (g++[.cells 7 [nAV 0 holder .nils]]++[.cells 2 [[.own true g.length 1,.p (.int .i64 1)]]]):=⟨by simp <;> omega,fun j hj=>by rw [List.append_assoc,List.getElem?_append_left hj],fun h hh r hr=>by cases hr⟩
 obtain ⟨r,hr,av,g2,rfl,hD,hB⟩:=newD_loop (C:=acall T (n+1)) (N:=n+1) l hl hs (by omega) g _ _ (g.length+1) g.length hD0 (fun h hh ks=>by simp) hB0 (by omega) (by omega)
 have hpl:=(List.getElem?_eq_some_iff.1 hD.core.obj).1
 have hob:=hD.core.obj
 have hll:(List.range (l.length+1)).length=l.length+1:=by simp
 rw [hll] at hob
 refine ⟨av,g2.set (g.length+1) (.cells 2 [[.own true g.length (l.length+1),.p (.int .i64 ((l.length:Int)+1))]]), ?_, ?_, ?_⟩
 ·generalize g++[AObj.cells 7 [nAV 0 holder .nils]]++[.cells 2 [[.own true g.length 1,.p (.int .i64 1)]]]=g1 at hn20 hr
  have ll:(l.map GRow.pv).length=l.length:=by simp
  simp only [newD,Int.natCast_zero] at hr
  rw [acall_code T89,run_code rfl rfl]
  simp -implicitDefEqProofs (disch:=omega) only [Rx,simprocAttr,F89,hn20,hr,hob,ll]
 ·rw [S0_live]
  have hne:=hD.core.pq
  refine ⟨⟨?_, ?_,hne,hD.core.nodup⟩,fun h hh=>(hD.kids h hh).keep fun r hr => ?_,hD.away,hD.disj⟩
  ·rw [List.getElem?_set,if_pos rfl,if_pos hpl,hll];simp [S0]
  ·obtain ⟨o,h1,h2⟩:=hD.core.row
   exact ⟨o,by rw [List.getElem?_set,if_neg hne];exact h1,h2⟩
  ·rw [List.getElem?_set,if_neg (fun e=>(hD.away h hh).1 (by rw [e];exact hr))]
 ·rw [S0_live]
  refine ⟨by simpa using hB.len,fun j hj => ?_,hB.refs⟩
  rw [List.getElem?_set,if_neg (by omega)];exact hB.keep j hj
end Tryz
end Go.TA


end
section
/- The document's answer: any operation. -/
namespace Go.TA.Tryz
section
variable {R:Nat} {S:MS} {av:Nat→AV} {p q:Nat} {g:List AObj}
theorem insertD_N (S:MS) (id up b:Int):(insertD S id up b).2.N=S.N:=by
 unfold insertD;repeat' split
 all_goals rfl
theorem moveD_N (S:MS) (id b:Int):(moveD S id b).2.N=S.N:=by
 unfold moveD;repeat' split
 all_goals first | rfl | simp [placeM,takeM_N]
theorem removeD_N (S:MS) (id:Int):(removeD S id).2.N=S.N:=by
 unfold removeD;split
 ·rfl
 ·simp [endM,takeM_N]
theorem setD_N (S:MS) (id:Int) (name v:Bs):(setD S id name v).2.N=S.N:=by
 unfold setD;repeat' split
 all_goals rfl
theorem delD_N (S:MS) (id:Int) (name:Bs):(delD S id name).2.N=S.N:=by
 unfold delD;repeat' split
 all_goals rfl
theorem textD_N (S:MS) (id:Int) (s:Bs):(textD S id s).2.N=S.N:=by
 unfold textD;repeat' split
 all_goals rfl
theorem doD_run (hS:S.Ok R) (hD:DM (liveL S) S.st S.kd S.N av p q g) (hL:(liveL S).length≤4194304) (x:GOp) (hs:smallAttrs x.attrs) {n:Nat} (hn:(liveL S).length<n) (hR:R+3<n) (hx:x.attrs.length<n) (hn2:1048577<n) :
  ∃ av' q' g',acall T (n+38) 81 [DP p,.p (.agg x.pv)] g=some (.tuple [.p (.int .i64 (doD S x).1),.p (.int .i64 (doD S x).2.1)],g')∧DM (liveL (doD S x).2.2) (doD S x).2.2.st (doD S x).2.2.kd (doD S x).2.2.N av' p q' g'∧DFr (liveL S) av p q g (liveL (doD S x).2.2) av' q' g':=by
 unfold doD
 by_cases h1:x.kind=1
 ·rw [if_pos h1]
  have e1:(x.kind==1)=true:=by simpa using h1
  obtain ⟨av',g',hc,hD',hF⟩:=createD_run hD hL x hs (n:=n) (by omega) (by omega)
  by_cases hz:createErr S.N x=0
  ·rw [if_pos hz] at hc hD' hF ⊢
   refine ⟨av',q,g', ?_,hD',hF⟩
   rw [acall_code T81,run_code rfl rfl]
   simp -implicitDefEqProofs (disch:=omega) only [Rx,simprocAttr,F81,GOp.pv,attrsPV,e1,hc]
  ·rw [if_neg hz] at hc hD' hF ⊢
   refine ⟨av',q,g', ?_,hD',hF⟩
   generalize createErr S.N x=e at hc
   rw [acall_code T81,run_code rfl rfl]
   simp -implicitDefEqProofs (disch:=omega) only [Rx,simprocAttr,F81,GOp.pv,attrsPV,e1,hc]
 rw [if_neg h1]
 have e1:(x.kind==1)=false:=by simpa using h1
 by_cases h2:x.kind=2
 ·rw [if_pos h2]
  have e2:(x.kind==2)=true:=by simpa using h2
  obtain ⟨av',g',hc,hD',hF⟩:=insertD_run hS hD hL x.node x.up x.before (n:=n+33) (by omega) (by omega)
  refine ⟨av',q,g', ?_,by rw [insertD_N];exact hD',hF⟩
  generalize insertD S x.node x.up x.before=z at hc
  rw [acall_code T81,run_code rfl rfl]
  simp -implicitDefEqProofs (disch:=omega) only [Rx,simprocAttr,F81,GOp.pv,attrsPV,e1,e2,hc]
 rw [if_neg h2]
 have e2:(x.kind==2)=false:=by simpa using h2
 by_cases h3:x.kind=3
 ·rw [if_pos h3]
  have e3:(x.kind==3)=true:=by simpa using h3
  obtain ⟨av',g',hc,hD',hF⟩:=moveD_run hS hD hL x.node x.before (n:=n+33) (by omega)
  refine ⟨av',q,g', ?_,by rw [moveD_N];exact hD',hF⟩
  generalize moveD S x.node x.before=z at hc
  rw [acall_code T81,run_code rfl rfl]
  simp -implicitDefEqProofs (disch:=omega) only [Rx,simprocAttr,F81,GOp.pv,attrsPV,e1,e2,e3,hc]
 rw [if_neg h3]
 have e3:(x.kind==3)=false:=by simpa using h3
 by_cases h4:x.kind=4
 ·rw [if_pos h4]
  have e4:(x.kind==4)=true:=by simpa using h4
  obtain ⟨av',q',g',hc,hD',hF⟩:=removeD_run hS hD hL x.node (n:=n+33) (by omega) (by omega)
  refine ⟨av',q',g', ?_,by rw [removeD_N];exact hD',hF⟩
  generalize removeD S x.node=z at hc
  rw [acall_code T81,run_code rfl rfl]
  simp -implicitDefEqProofs (disch:=omega) only [Rx,simprocAttr,F81,GOp.pv,attrsPV,e1,e2,e3,e4,hc]
 rw [if_neg h4]
 have e4:(x.kind==4)=false:=by simpa using h4
 by_cases h5:x.kind=5
 ·rw [if_pos h5]
  have e5:(x.kind==5)=true:=by simpa using h5
  obtain ⟨g',hc,hD',hF⟩:=setD_run hS hD hL x.node x.name x.text (n:=n+1) (by omega) (by omega)
  refine ⟨av,q,g', ?_,by rw [setD_N];exact hD',hF⟩
  generalize setD S x.node x.name x.text=z at hc
  rw [acall_code T81,run_code rfl rfl]
  simp -implicitDefEqProofs (disch:=omega) only [Rx,simprocAttr,F81,GOp.pv,attrsPV,e1,e2,e3,e4,e5,hc]
 rw [if_neg h5]
 have e5:(x.kind==5)=false:=by simpa using h5
 by_cases h6:x.kind=6
 ·rw [if_pos h6]
  have e6:(x.kind==6)=true:=by simpa using h6
  obtain ⟨g',hc,hD',hF⟩:=delD_run hS hD hL x.node x.name (n:=n+34) (by omega) (by omega)
  refine ⟨av,q,g', ?_,by rw [delD_N];exact hD',hF⟩
  generalize delD S x.node x.name=z at hc
  rw [acall_code T81,run_code rfl rfl]
  simp -implicitDefEqProofs (disch:=omega) only [Rx,simprocAttr,F81,GOp.pv,attrsPV,e1,e2,e3,e4,e5,e6,hc]
 rw [if_neg h6]
 have e6:(x.kind==6)=false:=by simpa using h6
 by_cases h7:x.kind=7
 ·rw [if_pos h7]
  have e7:(x.kind==7)=true:=by simpa using h7
  obtain ⟨g',hc,hD',hF⟩:=textD_run hD hL x.node x.text (n:=n+34) (by omega)
  refine ⟨av,q,g', ?_,by rw [textD_N];exact hD',hF⟩
  generalize textD S x.node x.text=z at hc
  rw [acall_code T81,run_code rfl rfl]
  simp -implicitDefEqProofs (disch:=omega) only [Rx,simprocAttr,F81,GOp.pv,attrsPV,e1,e2,e3,e4,e5,e6,e7,hc]
 rw [if_neg h7]
 have e7:(x.kind==7)=false:=by simpa using h7
 refine ⟨av,q,g, ?_,hD,DFr.refl _ _ _ _ _⟩
 rw [acall_code T81,run_code rfl rfl]
 simp -implicitDefEqProofs (disch:=omega) only [Rx,simprocAttr,F81,GOp.pv,attrsPV,e1,e2,e3,e4,e5,e6,e7]
end
end Go.TA.Tryz


end
section
/- The document's answer does what a machine does. -/
namespace Go.TA.Tryz
structure FineOp (x:GOp):Prop where
 kind:1≤x.kind∧x.kind≤7
 tag:x.kind=1→namedB false x.tag=true
 name:x.kind=5∨x.kind=6→namedB true x.name=true
 key:(x.key.length:Int)≤65536
 text:(x.text.length:Int)≤65536
 attrs:attrsErr x.attrs=0
 hs:0≤x.node∧x.node≤4294967295∧0≤x.up∧x.up≤4294967295∧0≤x.before∧x.before≤4294967295
 none:noneB x=false
theorem fineOp_of {x:GOp} (h:opErr x=0):FineOp x:=by
 unfold opErr at h
 split at h
 ·omega
 split at h
 ·omega
 split at h
 ·omega
 split at h
 ·omega
 split at h
 ·omega
 split at h
 ·omega
 split at h
 ·omega
 split at h
 ·omega
 split at h
 ·omega
 split at h
 ·omega
 rename_i h1 h2 h3 h4 h5 h6 h7 h8 h9 h10
 simp only [Bool.not_eq_false,Bool.not_eq_true] at h3 h4 h5 h6 h7 h8
 simp only [hOk,Bool.and_eq_true,decide_eq_true_eq] at h3 h4 h5
 refine ⟨⟨by omega,by omega⟩,fun hk => ?_,fun hk => ?_,by omega,by omega,h,⟨h3.1,h3.2,h4.1,h4.2,h5.1,h5.2⟩,h6⟩
 ·simpa [tagBad,hk] using h7
 ·rcases hk with hk | hk
  ·simpa [nameBad,hk] using h8
  ·simpa [nameBad,hk] using h8
theorem fit_node {S:MS} {h:Int} (h0:h≠0):fitE S h=if liveB S h=true then 0 else 13:=by simp [fitE,h0]
theorem doD_doM {S:MS} {x:GOp} (h:opErr x=0) (hN:S.N≤4294967295):(doD S x).2=doM S x:=by
 have hf:=fineOp_of h
 unfold doD doM
 by_cases h1:x.kind=1
 ·rw [if_pos h1,if_pos h1]
  have hz:createErr S.N x=0:=by
   have:=hf.key
   have:=hf.text
   simp only [createErr,hf.tag h1,Bool.true_eq_false,if_false,hf.attrs,ne_eq,not_true_eq_false]
   rw [if_neg (by omega),if_neg (by omega)]
  rw [if_pos hz]
 rw [if_neg h1,if_neg h1]
 by_cases h0:x.node=0
 ·rw [if_pos h0]
  have f0:fitE S x.node=14:=by simp [fitE,h0]
  by_cases h2:x.kind=2
  ·simp only [if_pos h2,insertD,f0];rfl
  rw [if_neg h2]
  by_cases h3:x.kind=3
  ·simp only [if_pos h3,moveD,f0];rfl
  rw [if_neg h3]
  by_cases h4:x.kind=4
  ·simp only [if_pos h4,removeD,f0];rfl
  rw [if_neg h4]
  by_cases h5:x.kind=5
  ·simp only [if_pos h5,setD,f0];rfl
  rw [if_neg h5]
  by_cases h6:x.kind=6
  ·simp only [if_pos h6,delD,f0];rfl
  rw [if_neg h6]
  have h7:x.kind=7:=by have:=hf.kind;omega
  simp only [if_pos h7,textD,f0];rfl
 rw [if_neg h0]
 have fn:=fit_node (S:=S) h0
 by_cases h2:x.kind=2
 ·rw [if_pos h2,if_pos h2]
  unfold insertD insertM
  rw [fn]
  cases hl:liveB S x.node <;> simp
 rw [if_neg h2,if_neg h2]
 by_cases h3:x.kind=3
 ·rw [if_pos h3,if_pos h3]
  unfold moveD moveM
  rw [fn]
  cases hl:liveB S x.node <;> simp
 rw [if_neg h3,if_neg h3]
 by_cases h4:x.kind=4
 ·rw [if_pos h4,if_pos h4]
  unfold removeD
  rw [fn]
  cases hl:liveB S x.node <;> simp
 rw [if_neg h4,if_neg h4]
 unfold changeM
 by_cases h5:x.kind=5
 ·have:=hf.text
  have hn:=hf.name (.inl h5)
  rw [if_pos h5,if_pos h5]
  unfold setD
  rw [fn]
  cases hl:liveB S x.node
  ·simp
  ·simp only [if_true,ne_eq,not_true_eq_false,if_false,hn,Bool.true_eq_false]
   rw [if_neg (by omega)]
 rw [if_neg h5,if_neg h5]
 by_cases h6:x.kind=6
 ·rw [if_pos h6,if_pos h6]
  unfold delD
  rw [fn]
  cases hl:liveB S x.node <;> simp
 rw [if_neg h6,if_neg h6]
 have h7:x.kind=7:=by have:=hf.kind;omega
 rw [if_pos h7,if_pos h7]
 unfold textD
 rw [fn]
 have:=hf.text
 cases hl:liveB S x.node
 ·simp
 ·simp only [if_true,ne_eq,not_true_eq_false,if_false,Bool.true_eq_false]
  rw [if_neg (by omega)]
section
variable {R:Nat} {S:MS} {av:Nat→AV} {p q:Nat} {g:List AObj}
theorem refDo_run (hS:S.Ok R) (hD:DM (liveL S) S.st S.kd S.N av p q g) (hL:(liveL S).length≤4194304) (hN:S.N≤4294967295) (x:GOp) (hs:smallAttrs x.attrs) {n:Nat} (hn:(liveL S).length<n) (hR:R+3<n) (hx:x.attrs.length<n) (hn2:1048577<n) :
  ∃ av' q' g',acall T (n+39) 144 [DP p,.p (.agg x.pv)] g=some (.p (.int .i64 (doE S x).1),g')∧DM (liveL (doE S x).2) (doE S x).2.st (doE S x).2.kd (doE S x).2.N av' p q' g'∧DFr (liveL S) av p q g (liveL (doE S x).2) av' q' g':=by
 have hck:=fun g=>ref25_run x hs g (n:=n+1) (by omega) (by omega)
 unfold doE
 by_cases h:opErr x=0
 ·rw [if_pos h]
  rw [h] at hck
  obtain ⟨av',q',g',hc,hD',hF⟩:=doD_run hS hD hL x hs hn hR hx hn2
  have e:=doD_doM (S:=S) h hN
  rw [e] at hc hD' hF
  refine ⟨av',q',g', ?_,hD',hF⟩
  rw [acall_code T144,run_code rfl rfl]
  generalize (doD S x).1=z at hc
  generalize doM S x=y at hc
  simp only [GOp.pv,attrsPV] at hc hck
  simp -implicitDefEqProofs (disch:=omega) only [Rx,simprocAttr,F144,GOp.pv,attrsPV,hck,hc]
 ·rw [if_neg h]
  have e1:(opErr x==0)=false:=by simpa using h
  refine ⟨av,q,g, ?_,hD,DFr.refl _ _ _ _ _⟩
  rw [acall_code T144,run_code rfl rfl]
  generalize opErr x=e at hck e1 ⊢
  simp only [GOp.pv,attrsPV] at hck
  simp -implicitDefEqProofs (disch:=omega) only [Rx,simprocAttr,F144,GOp.pv,attrsPV,hck,e1]
end
end Go.TA.Tryz


end
section
/- The document's answer runs a script. -/
namespace Go.TA.Tryz
theorem refRun_run {R : Nat} {S : MS} (hS : S.Ok R) (L : List GOp) (hL : ∀ x ∈ L, x.attrs.length ≤ 1048576 ∧ smallAttrs x.attrs) (hN : S.N + L.length ≤ 4194303) (hLl : L.length ≤ 1048576) (av : Nat → AV) (p q : Nat) (g : List AObj) (hD : DM (liveL S) S.st S.kd S.N av p q g) {F : Nat} (hF : S.N + L.length + bnd R L.length + bnd R L.length + 1048700 < F) :
    ∃ av' q' g', acall T (F + 1) 90 [DP p, .p (.list (L.map GOp.pv))] g = some (.tuple [.p (.int .i64 (runM S L 0).1), .p (.int .i64 (runM S L 0).2.1)], g')
      ∧ DM (liveL (runM S L 0).2.2) (runM S L 0).2.2.st (runM S L 0).2.2.kd (runM S L 0).2.2.N av' p q' g'∧DFr (liveL S) av p q g (liveL (runM S L 0).2.2) av' q' g':=by
  have key:=loop_inv (C:=acall T F) (N:=F) (B:=B90x0) (σ := Nat × MS × (Nat→AV) × Nat × List AObj) (S:=fun s=>⟨[(0,DP p),(1,.p (.list (L.map GOp.pv))),(9,.p (.int .i64 L.length)),(10,.p (.int .i64 s.1))],[],s.2.2.2.2⟩)
    (I:=fun s=>s.1≤L.length∧s.2.1.Ok (bnd R s.1)∧DM (liveL s.2.1) s.2.1.st s.2.1.kd s.2.1.N s.2.2.1 p s.2.2.2.1 s.2.2.2.2∧s.2.1.N≤S.N+s.1∧runM S L 0=runM s.2.1 (L.drop s.1) s.1∧DFr (liveL S) av p q g (liveL s.2.1) s.2.2.1 s.2.2.2.1 s.2.2.2.2) (μ := fun s=>L.length - s.1)
    (Q:=fun z=>∃ av' q' g',(((runM S L 0).2.1=0∧(runM S L 0).1=L.length∧z=(.exit 0,⟨[(1,.p (.list (L.map GOp.pv)))],[],g'⟩))∨z=(.ret,⟨[(4,.p (.int .i64 (runM S L 0).1)),(5,.p (.int .i64 (runM S L 0).2.1))],[],g'⟩))
      ∧ DM (liveL (runM S L 0).2.2) (runM S L 0).2.2.st (runM S L 0).2.2.kd (runM S L 0).2.2.N av' p q' g'∧DFr (liveL S) av p q g (liveL (runM S L 0).2.2) av' q' g') ?_ (0,S,av,q,g) ⟨by simp,hS,hD,by simp,by simp,DFr.refl _ _ _ _ _⟩ (by simp only;omega)
  · obtain ⟨z,hz,av',q',g',hz2,h2⟩:=key
    refine ⟨av',q',g', ?_,h2⟩
    have ll:(L.map GOp.pv).length=L.length:=by simp
    rw [acall_code T90,run_code rfl rfl]
    simp only [Int.natCast_zero] at hz
    rcases hz2 with ⟨z1,z2,rfl⟩ | rfl
    · rw [z1,z2]
      simp -implicitDefEqProofs (disch:=omega) only [Rx,simprocAttr,F90,ll,hz]
    · simp -implicitDefEqProofs (disch:=omega) only [Rx,simprocAttr,F90,ll,hz]
  rintro ⟨i,S1,av1,q1,g1⟩ ⟨h1,h2,h3,h4,h5,h6⟩
  simp only at h1 h2 h3 h4 h5 h6 ⊢
  have hb:=bnd_mono R h1
  by_cases hi:i<L.length
  · obtain ⟨x,hx⟩:∃ x,L[i]? = some x:=⟨_,List.getElem?_eq_getElem hi⟩
    obtain ⟨hxm,hxs⟩:=hL x (List.mem_of_getElem? hx)
    have k1:(i:Int)<(L.length:Int):=by omega
    have hg:=getD_map (f:=GOp.pv) hx
    have hll:=liveL_len S1
    obtain ⟨av2,q2,g2,hd,hD2,hfr⟩:=refDo_run h2 h3 (by omega) (by omega) x hxs (n:=F - 39) (by omega) (by omega) (by omega) (by omega)
    rw [show F - 39+39=F by omega] at hd
    obtain ⟨hok,hn1,hn2⟩:=doE_ok h2 x (by omega)
    have hr:=runM_drop hx S1
    by_cases e:(doE S1 x).1=0
    · left
      rw [if_pos e] at hr
      rw [hr] at h5
      refine ⟨(i+1,(doE S1 x).2,av2,q2,g2), ?_,⟨by simp only;omega,hok,hD2,by simp only;omega,h5,h6.trans hfr⟩,by simp only;omega⟩
      rw [e] at hd
      simp only [GOp.pv,attrsPV] at hd
      simp -implicitDefEqProofs (disch:=omega) only [Rx,simprocAttr,B90x0,k1,hg,GOp.pv,attrsPV,hd]
    · right
      rw [if_neg e] at hr
      rw [hr] at h5
      rw [h5]
      simp only
      refine ⟨_, ?_, ?_,av2,q2,g2,.inr rfl,hD2,h6.trans hfr⟩
      · have e1:((doE S1 x).1==0)=false:=by simpa using e
        generalize (doE S1 x).1=z at hd e1
        simp only [GOp.pv,attrsPV] at hd
        simp -implicitDefEqProofs (disch:=omega) only [Rx,simprocAttr,B90x0,k1,hg,GOp.pv,attrsPV,hd,e1]
      · simp
  · right
    obtain rfl:i=L.length:=by omega
    have k1:¬ (L.length:Int)<(L.length:Int):=by omega
    have hr:runM S1 (L.drop L.length) L.length=(L.length,0,S1):=by rw [List.drop_length];rfl
    rw [hr] at h5
    rw [h5]
    simp only
    refine ⟨_, ?_, ?_,av1,q1,g1,.inl ⟨trivial,trivial,rfl⟩,h3,h6⟩
    · simp -implicitDefEqProofs (disch:=omega) only [Rx,simprocAttr,B90x0,k1]
    · simp
end Go.TA.Tryz


end
section
/- Whether a script is valid: the program, and the document's answer. -/
namespace Go.TA.Tryz
noncomputable def lastM (l:List GRow) (L:List GOp):MS:=(runM (S0 l) L 0).2.2
noncomputable def lastE (l:List GRow) (L:List GOp) (left:Int):Int:=endE (lastM l L) (bnd l.length L.length) L left
noncomputable def lastR (l:List GRow) (L:List GOp):List GRow:=rowsM (lastM l L) (bnd l.length L.length)
noncomputable def validE (l:List GRow) (L:List GOp) (left:Int):Nat × Int :=
 if check13 l≠0 then (0,check13 l) else if (firstE L 0).2≠0 then firstE L 0 else if (runM (S0 l) L 0).2.1≠0 then ((runM (S0 l) L 0).1,(runM (S0 l) L 0).2.1)
 else if lastE l L left≠0 then (L.length,lastE l L left) else (0,0)
noncomputable def validR (l:List GRow) (L:List GOp) (left:Int):List GRow:=if (validE l L left).2=0 then lastR l L else []
theorem valid_gen (l:List GRow) (hsm:Rows.mid 1048577 l) (L:List GOp) (hL:∀ x ∈ L,smallOp x) (hl:l.length≤500000) (hLl:L.length≤500000) (left:Int) (g:List AObj) {F:Nat} (hF:bnd l.length L.length+bnd l.length L.length+6000000<F) :
  acall T (F+1) 44 [.p (.list (l.map GRow.pv)),.p (.list (L.map GOp.pv)),.p (.int .i64 left)] g=some (.tuple [.p (.list ((validR l L left).map GRow.pv)),.p (.int .i64 (validE l L left).1),.p (.int .i64 (validE l L left).2)],g):=by
 have hlb:l.length≤bnd l.length L.length:=by
  have:=bnd_mono l.length (Nat.zero_le L.length)
  exact this
 rw [acall_code T44,run_pure rfl rfl rfl]
 have eV:validE l L left=if check13 l≠0 then (0,check13 l) else if (firstE L 0).2≠0 then firstE L 0 else if (runM (S0 l) L 0).2.1≠0 then ((runM (S0 l) L 0).1,(runM (S0 l) L 0).2.1)
  else if lastE l L left≠0 then (L.length,lastE l L left) else (0,0):=rfl
 unfold validR
 by_cases h1:check13 l=0
 rotate_left
 ·have hnew:=newE_run l hsm (Nat.le_refl _) h1 (n:=F - l.length - 44) (by omega)
  rw [show F - l.length - 44+l.length+44=F by omega] at hnew
  have e1:(check13 l==0)=false:=by simpa using h1
  rw [eV,if_pos h1]
  generalize check13 l=e at *
  simp -implicitDefEqProofs (disch:=omega) only [Rx,simprocAttr,F44,hnew,e1,h1,Int.natCast_zero]
 rw [if_neg (by simpa using h1)] at eV
 have hs:sound l:=formed_sound (check13_ok h1).1
 have hS0:=S0_ok hs hsm (Nat.le_refl _)
 obtain ⟨av,rest,hnew,hM,_⟩:=new_run l hsm (Nat.le_refl _) h1 (n:=F - l.length - 44) (by omega)
 rw [show F - l.length - 44+l.length+44=F by omega] at hnew
 have hf:=firstP_run L (fun x hx=>(hL x hx).1) (by omega) [] (n:=F - 39) (by omega)
 rw [show F - 39+39=F by omega] at hf
 by_cases h2:(firstE L 0).2=0
 rotate_left
 ·rw [if_pos h2] at eV
  have e1:((firstE L 0).2==0)=false:=by simpa using h2
  rw [eV]
  generalize (firstE L 0).1=k at *
  generalize (firstE L 0).2=e at *
  simp only [machG] at hnew
  simp -implicitDefEqProofs (disch:=omega) only [Rx,simprocAttr,F44,hnew,hf,e1,h2]
 rw [if_neg (by simpa using h2)] at eV
 rw [h2] at hf
 have hN0:(S0 l).N=l.length+1:=rfl
 obtain ⟨av2,rest2,R',hrm,hM2,_,_,_,_⟩:=mrun_run hS0 L (fun x hx=>(hL x hx).1) (by omega) av rest hM (F:=F - 1) (by omega)
 rw [show F - 1+1=F by omega] at hrm
 have hmg:machG (S0 l).N (S0 l).st av rest=machG (l.length+1) (st0 l) av rest:=rfl
 rw [hmg] at hrm
 generalize machG (l.length+1) (st0 l) av rest=g1 at hnew hrm
 by_cases h3:(runM (S0 l) L 0).2.1=0
 rotate_left
 ·rw [if_pos h3] at eV
  have e1:((runM (S0 l) L 0).2.1==0)=false:=by simpa using h3
  rw [eV]
  simp only
  generalize (runM (S0 l) L 0).1=k at *
  generalize (runM (S0 l) L 0).2.1=e at *
  generalize machG (runM (S0 l) L 0).2.2.N (runM (S0 l) L 0).2.2.st av2 rest2=g2 at hrm
  generalize (firstE L 0).1=k0 at hf
  simp -implicitDefEqProofs (disch:=omega) only [Rx,simprocAttr,F44,hnew,hf,hrm,e1,h3]
 rw [if_neg (by simpa using h3)] at eV
 rw [h3] at hrm
 obtain ⟨q1,q2,q3⟩:=runM_facts L hS0 (S0_small hsm (Nat.le_refl _)) hL 0
 obtain ⟨rest3,he,hq⟩:=endG_run q1 q2 (by omega) L (by omega) left av2 rest2 hM2 (F:=F - 1) (by omega)
 rw [show F - 1+1=F by omega] at he
 have hrl:((rowsM (runM (S0 l) L 0).2.2 (bnd l.length L.length)).map GRow.pv).length=(rowsM (runM (S0 l) L 0).2.2 (bnd l.length L.length)).length:=by simp
 have hE:lastE l L left=endE (runM (S0 l) L 0).2.2 (bnd l.length L.length) L left:=rfl
 have hR:lastR l L=rowsM (runM (S0 l) L 0).2.2 (bnd l.length L.length):=rfl
 rw [← hE, ← hR] at he
 rw [← hR] at hrl hq
 generalize hX:(lastR l L).map GRow.pv=X at *
 generalize (lastR l L).length=k at he hrl
 generalize (firstE L 0).1=k0 at hf
 generalize (runM (S0 l) L 0).1=k1 at hrm
 simp only [machG] at hrm he
 have ll:(L.map GOp.pv).length=L.length:=by simp
 by_cases h4:lastE l L left=0
 ·rw [if_neg (by simpa using h4)] at eV
  rw [eV]
  rw [h4,if_pos rfl] at he
  simp only [if_pos,hX]
  simp -implicitDefEqProofs (disch:=omega) only [Rx,simprocAttr,F44,hnew,hf,hrm,he,hq,hrl,Int.natCast_zero]
 ·rw [if_pos h4] at eV
  rw [eV]
  simp only
  have e1:(lastE l L left==0)=false:=by simpa using h4
  rw [if_neg h4] at he
  generalize lastE l L left=e at *
  simp -implicitDefEqProofs (disch:=omega) only [Rx,simprocAttr,F44,hnew,hf,hrm,he,ll,e1,h4]
end Go.TA.Tryz


end
section
/- What a script leaves of the first nodes, by the program. -/
namespace Go.TA
def keptL (m:Nat) (X:List GRow):List Int:=(X.filter fun x:GRow=>decide (x.id≤(m:Int))).map GRow.id
def keptI (X:List GRow) (i:Nat):List Int:=(X.filter fun x:GRow=>x.id==(i:Int)+1).map fun _=>(i:Int)+1
def keptR (m:Nat) (X:List GRow):List Int:=(List.range m).flatMap (keptI X)
theorem keptI_mem {X:List GRow} {i:Nat} {v:Int} (h:v ∈ keptI X i):v=(i:Int)+1:=by
 obtain ⟨_,_,rfl⟩:=List.mem_map.1 h
 rfl
theorem keptI_lt {X:List GRow} (hn:(X.map GRow.id).Nodup) (i:Nat):(keptI X i).Pairwise (· < ·):=by
 have e:keptI X i=(X.filter fun x=>x.id==(i:Int)+1).map GRow.id:=by
  refine List.map_congr_left fun x hx => ?_
  have:=(List.mem_filter.1 hx).2
  simp only [beq_iff_eq] at this
  exact this.symm
 have hs:(keptI X i).Nodup:=by rw [e];exact (List.filter_sublist.map GRow.id).nodup hn
 refine List.Pairwise.imp_of_mem (R:=fun a b=>a≠b) (fun {a b} ha hb hab => ?_) hs
 rw [keptI_mem ha,keptI_mem hb] at hab
 exact absurd rfl hab
theorem keptR_lt {X:List GRow} (hn:(X.map GRow.id).Nodup) (m:Nat):(keptR m X).Pairwise (· < ·):=by
 unfold keptR
 rw [List.pairwise_flatMap]
 refine ⟨fun i _=>keptI_lt hn i, ?_⟩
 refine List.Pairwise.imp (fun {a b} (hab:a<b) x hx y hy => ?_) List.pairwise_lt_range
 rw [keptI_mem hx,keptI_mem hy]
 omega
theorem kept_eq {m:Nat} {X:List GRow} (hn:(X.map GRow.id).Nodup) (hp:∀ x ∈ X,1≤x.id):sortI (keptL m X)=keptR m X:=by
 have h1:=keptR_lt hn m
 have hd:(keptL m X).Nodup:=(List.filter_sublist.map GRow.id).nodup hn
 have hd2:(keptR m X).Nodup:=h1.imp fun h e=>by omega
 have hperm:(keptL m X).Perm (keptR m X):=(List.perm_ext_iff_of_nodup hd hd2).2 fun v=>by
  simp only [keptL,keptR,keptI,List.mem_map,List.mem_filter,List.mem_flatMap,List.mem_range,decide_eq_true_eq,beq_iff_eq]
  constructor
  ·rintro ⟨x,⟨hx,hle⟩,rfl⟩
   have:=hp x hx
   exact ⟨(x.id - 1).toNat,by omega,x,⟨hx,by omega⟩,by omega⟩
  ·rintro ⟨i,hi,x,⟨hx,he⟩,rfl⟩
   exact ⟨x,⟨hx,by omega⟩,he⟩
 refine List.Perm.eq_of_pairwise (le:=fun a b=>decide (a≤b)=true) (fun a b _ _ h2 h3 => ?_) (List.pairwise_mergeSort (fun a b c h2 h3 => ?_) (fun a b => ?_) _) (h1.imp fun h => ?_) ((List.mergeSort_perm _ _).trans hperm)
 ·simp only [decide_eq_true_eq] at h2 h3;omega
 ·simp only [decide_eq_true_eq] at h2 h3 ⊢;omega
 ·simp only [Bool.or_eq_true,decide_eq_true_eq];omega
 ·simp only [decide_eq_true_eq];omega
theorem keptL_step {m:Nat} {X:List GRow} {i:Nat} {x:GRow} (h:X[i]? = some x):keptL m (X.take (i+1))=keptL m (X.take i)++if x.id≤m then [x.id] else []:=by
 unfold keptL
 rw [List.take_add_one,h,List.filter_append,List.map_append]
 congr 1
 simp only [Option.toList_some,List.filter_cons,List.filter_nil,decide_eq_true_eq]
 split <;> rfl
theorem keptL_len (m:Nat) (X:List GRow):(keptL m X).length≤X.length:=by
 simp only [keptL,List.length_map];exact List.length_filter_le _ _
theorem allM_ints (l:List Int):allM intOf (intsPV l)=some l:=by
  induction l with
  | nil=>rfl
  | cons a l ih =>
    show bk (intOf [PV.int .i64 a]) _=_
    simp only [intOf,intsPV] at ih ⊢
    simp [bk,ih]
namespace Tryz
theorem sort_run (l:List Int) (hl:l.length≤8388608) {g:List AObj} {k:Nat} (hg:g[k]? = some (.pcells 1 (intsPV l))) (n:Nat):acall T (n+1) 94 [.own true k l.length] g=some (.tuple [],g.set k (.pcells 1 (intsPV (sortI l)))):=by
 rw [acall_prim T94]
 unfold pSort
 simp only [hg]
 rw [if_pos ⟨trivial,intsPV_len l,by omega⟩,allM_ints]
 rfl
theorem kept_run (l:List GRow) (hsm:Rows.mid 1048577 l) (L:List GOp) (hL:∀ x ∈ L,smallOp x) (hl:l.length≤500000) (hLl:L.length≤500000) (hX:(validR l L 1048576).length≤4194304) (g:List AObj) {F:Nat} (hF:bnd l.length L.length+bnd l.length L.length+7000000<F) :
  acall T (F+1) 42 [.p (.list (l.map GRow.pv)),.p (.list (L.map GOp.pv))] g=some (.p (.list (intsPV (if (validE l L 1048576).2=0 then sortI (keptL l.length (validR l L 1048576)) else []))),g):=by
 have hv:=valid_gen l hsm L hL hl hLl 1048576 [] (F:=F - 1) (by omega)
 rw [show F - 1+1=F by omega] at hv
 rw [acall_code T42,run_pure rfl rfl rfl]
 generalize validR l L 1048576=X at *
 generalize (validE l L 1048576).1=a at *
 generalize (validE l L 1048576).2=e at *
 have xl:(X.map GRow.pv).length=X.length:=by simp
 have ll:(l.map GRow.pv).length=l.length:=by simp
 by_cases h1:e=0
 rotate_left
 ·have e1:(e==0)=false:=by simpa using h1
  simp -implicitDefEqProofs (disch:=omega) only [Rx,simprocAttr,F42,hv,e1,h1,intsPV]
 subst h1
 have key:=loop_inv (C:=acall T F) (N:=F) (B:=B42x0) (σ := Nat) (S:=fun i=>⟨[(0,.p (.list (l.map GRow.pv))),(5,.own true 0 (keptL l.length (X.take i)).length),(21,.p (.list (X.map GRow.pv))),(22,.p (.int .i64 X.length)),(23,.p (.int .i64 i))],[],[.pcells 1 (intsPV (keptL l.length (X.take i)))]⟩)
  (I:=fun i=>i≤X.length) (μ := fun i=>X.length - i) (Q:=fun r=>r=(.exit 0,⟨[(5,.own true 0 (keptL l.length X).length)],[],[.pcells 1 (intsPV (keptL l.length X))]⟩)) ?_ 0 (by omega) (by omega)
 ·obtain ⟨r,hr,rfl⟩:=key
  have hkl:=keptL_len l.length X
  have hso:=sort_run (keptL l.length X) (by omega) (g:=[.pcells 1 (intsPV (keptL l.length X))]) (k:=0) rfl (F - 1)
  rw [show F - 1+1=F by omega] at hso
  have hsl:=sortI_len (keptL l.length X)
  have il:=intsPV_len (sortI (keptL l.length X))
  rw [if_pos rfl]
  have e0:keptL l.length (X.take 0)=[]:=rfl
  rw [e0] at hr
  simp only [List.length_nil,Int.natCast_zero,show intsPV []=[] from rfl] at hr
  generalize sortI (keptL l.length X)=q at *
  generalize keptL l.length X=q0 at *
  simp -implicitDefEqProofs (disch:=omega) only [Rx,simprocAttr,F42,hv,xl,hr,hso,il,hsl]
 intro i hi
 by_cases h1:i<X.length
 ·left
  obtain ⟨x,hx⟩:=get_some h1
  have hg:=getD_map (f:=GRow.pv) hx
  have k1:(i:Int)<(X.length:Int):=by omega
  have hkl:=keptL_len l.length (X.take i)
  rw [List.length_take] at hkl
  have il:=intsPV_len (keptL l.length (X.take i))
  refine ⟨i+1, ?_,by omega,by omega⟩
  rw [keptL_step hx]
  by_cases e:x.id≤l.length
  ·rw [if_pos e]
   have os1:=intsPV_snoc (keptL l.length (X.take i)) x.id
   have ol1:(intsPV (keptL l.length (X.take i)++[x.id])).length=(keptL l.length (X.take i)).length+1:=by rw [intsPV_len,List.length_append];rfl
   have ol3:(keptL l.length (X.take i)++[x.id]).length=(keptL l.length (X.take i)).length+1:=by rw [List.length_append];rfl
   rw [ol3]
   generalize keptL l.length (X.take i)++[x.id]=acc1 at os1 ol1
   generalize keptL l.length (X.take i)=acc at *
   simp -implicitDefEqProofs (disch:=omega) only [Rx,simprocAttr,B42x0,k1,xl,ll,hg,GRow.pv,e,il,os1,ol1]
  ·rw [if_neg e,List.append_nil]
   generalize keptL l.length (X.take i)=acc at *
   simp -implicitDefEqProofs (disch:=omega) only [Rx,simprocAttr,B42x0,k1,xl,ll,hg,GRow.pv,e]
 ·right
  obtain rfl:i=X.length:=by omega
  have k1:¬ (X.length:Int)<(X.length:Int):=by omega
  refine ⟨_, ?_, ?_,rfl⟩
  ·rw [List.take_length]
   simp -implicitDefEqProofs (disch:=omega) only [Rx,simprocAttr,B42x0,k1]
  ·simp
end Tryz
end Go.TA


end
section
/- A machine and the document's answer beside each other in memory. Plain. -/
namespace Go.TA
structure Both (S:MS) (g:List AObj) (av:Nat→AV) (rest:List AObj) (avD:Nat→AV) (p q:Nat):Prop where
 is:g=machG S.N S.st av rest
 mok:MOk S.N av S.kd rest
 dm:DM (liveL S) S.st S.kd S.N avD p q g
 p2:2≤p
 q2:2≤q
 refs2:∀ h,h ∈ liveL S→∀ r,refOf (avD h)=some r→2≤r
 apart:∀ h,h<S.N→∀ r,refOf (av h)=some r→r≠p∧r≠q∧∀ h',h' ∈ liveL S→refOf (avD h')≠some r
theorem DM.onto {L:List Nat} {st:Nat→MNode} {kd:Nat→List Int} {nx:Int} {av:Nat→AV} {p q:Nat} {g g':List AObj} (h:DM L st kd nx av p q g) (hp:g'[p]? = g[p]?) (hq:g'[q]? = g[q]?) (hr:∀ k,k ∈ L→∀ r,refOf (av k)=some r→g'[r]? = g[r]?):DM L st kd nx av p q g' where
 core:=⟨by rw [hp];exact h.core.obj,by rw [hq];exact h.core.row,h.core.pq,h.core.nodup⟩
 kids k hk:=(h.kids k hk).keep fun r e=>hr k hk r e
 away:=h.away
 disj:=h.disj
theorem DM.p_lt {L:List Nat} {st:Nat→MNode} {kd:Nat→List Int} {nx:Int} {av:Nat→AV} {p q:Nat} {g:List AObj} (h:DM L st kd nx av p q g):p<g.length:=(List.getElem?_eq_some_iff.1 h.core.obj).1
theorem DM.q_lt {L:List Nat} {st:Nat→MNode} {kd:Nat→List Int} {nx:Int} {av:Nat→AV} {p q:Nat} {g:List AObj} (h:DM L st kd nx av p q g):q<g.length:=by
 obtain ⟨o,ho,_⟩:=h.core.row
 exact (List.getElem?_eq_some_iff.1 ho).1
theorem mach_of {A B:AObj} {g:List AObj} (h0:g[0]? = some A) (h1:g[1]? = some B):g=A::B::g.drop 2:=by
  match g,h0,h1 with
  | a :: b :: r, h0, h1 =>
    simp only [List.getElem?_cons_zero,List.getElem?_cons_succ,Option.some.injEq] at h0 h1
    simp [h0,h1]
theorem Both.step {S S' : MS} {g : List AObj} {av : Nat → AV} {rest : List AObj} {avD : Nat → AV} {p q : Nat} (h : Both S g av rest avD p q) {av' : Nat → AV} {rest' : List AObj} (hf : Fr S.N av rest S'.N av' rest') (hm : MOk S'.N av' S'.kd rest') {avD' : Nat → AV} {q' : Nat} {g' : List AObj} (hd : DM (liveL S') S'.st S'.kd S'.N avD' p q' g') (hfd : DFr (liveL S) avD p q (machG S'.N S'.st av' rest') (liveL S') avD' q' g') :
    ∃ rest2,Both S' g' av' rest2 avD' p q':=by
  have hg:g.length=rest.length+2:=by rw [h.is];simp [machG]
  have hlen:(machG S'.N S'.st av' rest').length=rest'.length+2:=by simp [machG]
  have hlr:=hf.len
  have hap:∀ k,k<S'.N→∀ r,refOf (av' k)=some r→r≠p∧r≠q∧(∀ h',h' ∈ liveL S→refOf (avD h')≠some r)∧r<rest'.length+2:=fun k hk r hr=>by
    have hlt:=(hm.kids k hk).ref_lt hr
    have h2:2≤r:=by
      rcases (hm.kids k hk).inv with ⟨e,_⟩ | ⟨i,e,_⟩ | e
      · rw [e] at hr;cases hr
      · rw [e] at hr;simp only [refOf,Option.some.injEq] at hr;omega
      · rw [e] at hr;cases hr
    obtain ⟨i,rfl⟩:∃ i,r=i+1+1:=⟨r - 2,by omega⟩
    by_cases hi:i<rest.length
    · obtain ⟨k0,hk0,e0⟩:=hf.refs k hk i hr hi
      obtain ⟨a1,a2,a3⟩:=h.apart k0 hk0 _ e0
      exact ⟨a1,a2,a3,by omega⟩
    · have hp:=h.dm.p_lt
      have hq:=h.dm.q_lt
      refine ⟨by omega,by omega,fun h' hh' e => ?_,by omega⟩
      have:=(h.dm.kids h' hh').ref_lt e
      omega
  have keep:∀ j,j<rest'.length+2→j≠p→j≠q→(∀ h',h' ∈ liveL S→refOf (avD h')≠some j)→g'[j]? = (machG S'.N S'.st av' rest')[j]? := fun j hj=>hfd.keep j (by omega)
  have hp2:=h.p2
  have hq2:=h.q2
  have e0:g'[0]? = some (.cells 7 (rowsAV S'.N S'.st av')):=by
    rw [keep 0 (by omega) (by omega) (by omega) fun h' hh' e=>by have:=h.refs2 h' hh' 0 e;omega];rfl
  have e1:g'[1]? = some (.cells 1 [[.own true 0 S'.N]]):=by
    rw [keep 1 (by omega) (by omega) (by omega) fun h' hh' e=>by have:=h.refs2 h' hh' 1 e;omega];rfl
  have his:=mach_of e0 e1
  refine ⟨g'.drop 2,his,⟨fun k hk => ?_,hm.disj⟩,hd,h.p2, ?_,fun k hk r hr => ?_,fun k hk r hr => ?_⟩
  · rcases (hm.kids k hk).inv with ⟨e,e2⟩ | ⟨i,e,hi⟩ | e
    · rw [e,e2];exact .none
    · have hr:refOf (av' k)=some (i+1+1):=by rw [e];rfl
      obtain ⟨a1,a2,a3,a4⟩:=hap k hk _ hr
      rw [e]
      refine .own ?_
      rw [List.getElem?_drop,show 2+i=i+1+1 by omega,keep _ a4 a1 a2 a3]
      simpa [machG] using hi
    · rw [e];exact .list
  · rcases hfd.row with e | e
    · omega
    · omega
  · by_cases hlt:r<(machG S'.N S'.st av' rest').length
    · obtain ⟨k0,hk0,e⟩:=hfd.refs k hk r hr hlt
      exact h.refs2 k0 hk0 r e
    · omega
  · obtain ⟨a1,a2,a3,a4⟩:=hap k hk r hr
    refine ⟨a1, ?_,fun h' hh' e => ?_⟩
    · rcases hfd.row with e | e <;> omega
    · by_cases hlt:r<(machG S'.N S'.st av' rest').length
      · obtain ⟨k0,hk0,e2⟩:=hfd.refs h' hh' r e hlt
        exact a3 k0 hk0 e2
      · omega
theorem Both.more {S:MS} {g:List AObj} {av:Nat→AV} {rest:List AObj} {avD:Nat→AV} {p q:Nat} (h:Both S g av rest avD p q) (X:List AObj):Both S (g++X) av (rest++X) avD p q where
 is:=by rw [h.is];simp [machG]
 mok:=⟨fun k hk=>(h.mok.kids k hk).more _,h.mok.disj⟩
 dm:=h.dm.onto (List.getElem?_append_left h.dm.p_lt) (List.getElem?_append_left h.dm.q_lt) fun k hk r hr=>List.getElem?_append_left ((h.dm.kids k hk).ref_lt hr)
 p2:=h.p2
 q2:=h.q2
 refs2:=h.refs2
 apart:=h.apart
end Go.TA


end
section
/- Whether a script is valid: the document's answer. -/
namespace Go.TA.Tryz
theorem DM.more {L:List Nat} {st:Nat→MNode} {kd:Nat→List Int} {nx:Int} {av:Nat→AV} {p q:Nat} {g:List AObj} (h:DM L st kd nx av p q g) (X:List AObj):DM L st kd nx av p q (g++X) :=
 h.onto (List.getElem?_append_left h.p_lt) (List.getElem?_append_left h.q_lt) fun k hk r hr=>List.getElem?_append_left ((h.kids k hk).ref_lt hr)
theorem liveL_zero {R:Nat} {S:MS} (hS:S.Ok R):(liveL S)[0]? = some 0:=by
 obtain ⟨k,hk⟩:∃ k,S.N=k+1:=⟨S.N - 1,by have:=hS.pos;omega⟩
 unfold liveL
 rw [hk,List.range_succ_eq_map,List.filter_cons,if_pos hS.top.1]
 rfl
theorem valid_ref (l:List GRow) (hsm:Rows.mid 1048577 l) (L:List GOp) (hL:∀ x ∈ L,smallOp x) (hl:l.length≤500000) (hLl:L.length≤500000) (left:Int) (g:List AObj) {F:Nat} (hF:bnd l.length L.length+bnd l.length L.length+6000000<F) :
  acall T (F+1) 39 [.p (.list (l.map GRow.pv)),.p (.list (L.map GOp.pv)),.p (.int .i64 left)] g=some (.tuple [.p (.list ((validR l L left).map GRow.pv)),.p (.int .i64 (validE l L left).1),.p (.int .i64 (validE l L left).2)],g):=by
 have hlb:l.length≤bnd l.length L.length:=bnd_mono l.length (Nat.zero_le L.length)
 rw [acall_code T39,run_pure rfl rfl rfl]
 have eV:validE l L left=if check13 l≠0 then (0,check13 l) else if (firstE L 0).2≠0 then firstE L 0 else if (runM (S0 l) L 0).2.1≠0 then ((runM (S0 l) L 0).1,(runM (S0 l) L 0).2.1)
  else if lastE l L left≠0 then (L.length,lastE l L left) else (0,0):=rfl
 unfold validR
 have hck:=check13_mid l hsm (Nat.le_refl _) (n:=F - 38) (by omega) []
 rw [show F - 38+38=F by omega] at hck
 by_cases h1:check13 l=0
 rotate_left
 ·have e1:(check13 l==0)=false:=by simpa using h1
  rw [eV,if_pos h1]
  generalize check13 l=e at *
  simp -implicitDefEqProofs (disch:=omega) only [Rx,simprocAttr,F39,hck,e1,h1,Int.natCast_zero]
 rw [if_neg (by simpa using h1)] at eV
 rw [h1] at hck
 have hs:sound l:=formed_sound (check13_ok h1).1
 have hS0:=S0_ok hs hsm (Nat.le_refl _)
 have hf:=firstR_run L (fun x hx=>⟨(hL x hx).1,(hL x hx).2.1⟩) (by omega) [] (n:=F - 38) (by omega)
 rw [show F - 38+38=F by omega] at hf
 by_cases h2:(firstE L 0).2=0
 rotate_left
 ·rw [if_pos h2] at eV
  have e1:((firstE L 0).2==0)=false:=by simpa using h2
  rw [eV]
  generalize (firstE L 0).1=k at *
  generalize (firstE L 0).2=e at *
  simp -implicitDefEqProofs (disch:=omega) only [Rx,simprocAttr,F39,hck,hf,e1,h2]
 rw [if_neg (by simpa using h2)] at eV
 rw [h2] at hf
 have hN0:(S0 l).N=l.length+1:=rfl
 obtain ⟨avD,g2,hnd,hDM,_⟩:=newR_run l (by omega) hs.1 [] (n:=F - 2) (by omega)
 rw [show F - 2+2=F by omega] at hnd
 simp only [List.length_nil,Nat.zero_add] at hnd hDM
 obtain ⟨avD2,q2,g3,hrd,hD2,_⟩:=refRun_run hS0 L (fun x hx=>⟨(hL x hx).1,(hL x hx).2.1⟩) (by omega) (by omega) avD _ _ _ hDM (F:=F - 1) (by omega)
 rw [show F - 1+1=F by omega] at hrd
 by_cases h3:(runM (S0 l) L 0).2.1=0
 rotate_left
 ·rw [if_pos h3] at eV
  have e1:((runM (S0 l) L 0).2.1==0)=false:=by simpa using h3
  rw [eV]
  simp only
  generalize (runM (S0 l) L 0).1=k at *
  generalize (runM (S0 l) L 0).2.1=e at *
  generalize (firstE L 0).1=k0 at hf
  simp -implicitDefEqProofs (disch:=omega) only [Rx,simprocAttr,F39,hck,hf,hnd,hrd,e1,h3]
 rw [if_neg (by simpa using h3)] at eV
 rw [h3] at hrd
 obtain ⟨hok,hsmS,hNS⟩:=runM_facts L hS0 (S0_small hsm (Nat.le_refl _)) hL 0
 have eL:lastM l L=(runM (S0 l) L 0).2.2:=rfl
 rw [← eL] at hok hsmS hNS hD2
 generalize (firstE L 0).1=k0 at hf
 generalize (runM (S0 l) L 0).1=k1 at hrd
 have eE:lastE l L left=if 0<(looseM (lastM l L)).length then 19 else if 1<tops (lastR l L) then 20 else if check13 (lastR l L)≠0 then check13 (lastR l L) else if (times L 1:Int)≤left then 0 else 21:=rfl
 have hlive:=liveL_len (lastM l L)
 have hlo:=looseD_run hD2 (by omega) (n:=F - 1) (by omega)
 rw [show F - 1+1=F by omega] at hlo
 have hll:=looseM_len (lastM l L)
 have hD3:=DM.more hD2 [.pcells 1 (intsPV (looseM (lastM l L)))]
 obtain ⟨o,ho,hrep⟩:=hD3.core.row
 have hob:=hD3.core.obj
 have h0:=liveL_zero hok
 have rd2:=rd_node hrep h0 (j:=2) (by omega)
 have hix:=fun s i=>hrep.idx rowsD_len s true q2 i
 have hK:=hD3.kids 0 (List.mem_of_getElem? h0)
 have htop:tops (lastR l L)=((lastM l L).kd 0).length:=tops_rows _ _
 have htl:=tops_le (lastR l L)
 have hpos:0<(liveL (lastM l L)).length:=(List.getElem?_eq_some_iff.1 h0).1
 have hrd2:=Read_run hok (by omega) hD3 (by omega) (n:=F - bnd l.length L.length - 2) (by omega)
 rw [show F - bnd l.length L.length - 2+bnd l.length L.length+2=F by omega] at hrd2
 have hRR:lastR l L=rowsM (lastM l L) (bnd l.length L.length):=rfl
 have hlen:=rowsM_len hok (bnd l.length L.length)
 have hsm2:=rowsM_small hok hsmS (by omega) (bnd l.length L.length)
 rw [← hRR] at hrd2 hlen hsm2
 have hck2:=check13_mid (lastR l L) hsm2 (Nat.le_refl _) (n:=F - 38) (by omega) []
 rw [show F - 38+38=F by omega] at hck2
 have htm:=times_run L (by omega) 1 [] (n:=F - 1) (by omega)
 rw [show F - 1+1=F by omega] at htm
 have ll:(L.map GOp.pv).length=L.length:=by simp
 have hrl:((lastR l L).map GRow.pv).length=(lastR l L).length:=by simp
 simp only [nAV] at rd2
 generalize looseM (lastM l L)=lo at *
 generalize hX:(lastR l L).map GRow.pv=X at *
 generalize hg4:g3++[AObj.pcells 1 (intsPV lo)]=g4 at *
 have q5:(g4++[AObj.pcells 6 X])[g4.length]? = some (.pcells 6 X):=by simp
 rw [htop] at eE htl
 generalize htp:((lastM l L).kd 0).length=tp at eE htl
 have fin:∀ K:AV,o.rd 1 (liveL (lastM l L)).length 0 2 7 false=some K→((K = .nils∧tp=0)∨(∃ r,K = .own true r tp)∨∃ Y:List (List PV),K = .p (.list Y)∧Y.length=tp) →
   rg (br (acall T F) F39 (aexec (acall T F) F F39.body (enterSt [.p (.list (l.map GRow.pv)),.p (.list (L.map GOp.pv)),.p (.int .i64 left)] []))) g=some (.tuple [.p (.list ((if (validE l L left).2=0 then lastR l L else []).map GRow.pv)),.p (.int .i64 (validE l L left).1),.p (.int .i64 (validE l L left).2)],g):=by
  intro K hK2 hcase
  generalize (liveL (lastM l L)).length=nl at *
  generalize rowsD (liveL (lastM l L)) (lastM l L).st avD2=rd at *
  by_cases c1:0<lo.length
  ·have e:lastE l L left=19:=by rw [eE,if_pos c1]
   rw [e,if_pos (by decide)] at eV
   rw [eV]
   simp -implicitDefEqProofs (disch:=omega) only [Rx,simprocAttr,F39,hck,hf,hnd,hrd,hlo,ll]
  by_cases c2:1<tp
  ·have e:lastE l L left=20:=by rw [eE,if_neg c1,if_pos c2]
   rw [e,if_pos (by decide)] at eV
   rw [eV]
   rcases hcase with ⟨rfl,k0⟩ | ⟨r,rfl⟩ | ⟨Y,rfl,k0⟩
   ·omega
   ·simp -implicitDefEqProofs (disch:=omega) only [Rx,simprocAttr,F39,hck,hf,hnd,hrd,hlo,hob,ho,hix,hK2,ll]
   ·simp -implicitDefEqProofs (disch:=omega) only [Rx,simprocAttr,F39,hck,hf,hnd,hrd,hlo,hob,ho,hix,hK2,ll,k0]
  by_cases c3:check13 (lastR l L)=0
  rotate_left
  ·have e:lastE l L left=check13 (lastR l L):=by rw [eE,if_neg c1,if_neg c2,if_pos c3]
   rw [if_pos (by rw [e];exact c3),e] at eV
   rw [eV]
   have c3':(check13 (lastR l L)==0)=false:=by simpa using c3
   generalize check13 (lastR l L)=e at hck2 c3 c3'
   rcases hcase with ⟨rfl,k0⟩ | ⟨r,rfl⟩ | ⟨Y,rfl,k0⟩
   ·simp -implicitDefEqProofs (disch:=omega) only [Rx,simprocAttr,F39,hck,hf,hnd,hrd,hlo,hob,ho,hix,hK2,hrd2,hck2,q5,hrl,ll,c3,c3']
   ·simp -implicitDefEqProofs (disch:=omega) only [Rx,simprocAttr,F39,hck,hf,hnd,hrd,hlo,hob,ho,hix,hK2,hrd2,hck2,q5,hrl,ll,c3,c3']
   ·simp -implicitDefEqProofs (disch:=omega) only [Rx,simprocAttr,F39,hck,hf,hnd,hrd,hlo,hob,ho,hix,hK2,hrd2,hck2,q5,hrl,ll,k0,c3,c3']
  rw [c3] at hck2
  generalize times L 1=t1 at *
  by_cases c4:(t1:Int)≤left
  ·have e:lastE l L left=0:=by rw [eE,if_neg c1,if_neg c2,if_neg (by simpa using c3),if_pos c4]
   rw [e,if_neg (by decide)] at eV
   rw [eV]
   simp only [if_pos,hX]
   have c4':¬ left<(t1:Int):=by omega
   rcases hcase with ⟨rfl,k0⟩ | ⟨r,rfl⟩ | ⟨Y,rfl,k0⟩
   ·simp -implicitDefEqProofs (disch:=omega) only [Rx,simprocAttr,F39,hck,hf,hnd,hrd,hlo,hob,ho,hix,hK2,hrd2,hck2,htm,q5,hrl,ll,c4',Int.natCast_zero]
   ·simp -implicitDefEqProofs (disch:=omega) only [Rx,simprocAttr,F39,hck,hf,hnd,hrd,hlo,hob,ho,hix,hK2,hrd2,hck2,htm,q5,hrl,ll,c4',Int.natCast_zero]
   ·simp -implicitDefEqProofs (disch:=omega) only [Rx,simprocAttr,F39,hck,hf,hnd,hrd,hlo,hob,ho,hix,hK2,hrd2,hck2,htm,q5,hrl,ll,k0,c4',Int.natCast_zero]
  ·have e:lastE l L left=21:=by rw [eE,if_neg c1,if_neg c2,if_neg (by simpa using c3),if_neg c4]
   rw [e,if_pos (by decide)] at eV
   rw [eV]
   have c4':left<(t1:Int):=by omega
   rcases hcase with ⟨rfl,k0⟩ | ⟨r,rfl⟩ | ⟨Y,rfl,k0⟩
   ·simp -implicitDefEqProofs (disch:=omega) only [Rx,simprocAttr,F39,hck,hf,hnd,hrd,hlo,hob,ho,hix,hK2,hrd2,hck2,htm,q5,hrl,ll,c4']
   ·simp -implicitDefEqProofs (disch:=omega) only [Rx,simprocAttr,F39,hck,hf,hnd,hrd,hlo,hob,ho,hix,hK2,hrd2,hck2,htm,q5,hrl,ll,c4']
   ·simp -implicitDefEqProofs (disch:=omega) only [Rx,simprocAttr,F39,hck,hf,hnd,hrd,hlo,hob,ho,hix,hK2,hrd2,hck2,htm,q5,hrl,ll,k0,c4']
 refine fin _ rd2 ?_
 rcases hK.inv with ⟨hav,hk0⟩ | ⟨r,hav,_⟩ | hav
 ·exact .inl ⟨hav,by rw [← htp,hk0];rfl⟩
 ·exact .inr (.inl ⟨r,by rw [← htp];exact hav⟩)
 ·exact .inr (.inr ⟨_,hav,by rw [intsPV_len,htp]⟩)
end Go.TA.Tryz


end
