/- Part 12 of 15 of a proof; joined from PrsRSet, PrsRMake, MS0, PrsRNew, MBelow, MRowsP, PrsBoth, PrsPlainEq, PrsRRead, PrsRLoose, PrsIntsEq, PrsRef13, PrsFormed, PrsAttrsP, PrsAlone. What is wrong with a node alone. -/
import Derived.Test.YtnjblmbobmbgkaaGreatDoorPr1
import Derived.Test.YtnjblmbobmbgkaaGreatDoorPr11
import Derived.Test.YtnjblmbobmbgkaaGreatDoorPr7
import Derived.Test.YtnjblmbobmbgkaaGreatDoorPr6
set_option linter.unusedSimpArgs false
set_option linter.unusedVariables false
section
/- The document's answer: a node's attributes and text; a node is made. -/
set_option maxRecDepth 100000
set_option maxHeartbeats 8000000
namespace Go.TA
def nodeM (S:MS) (h:Nat) (s:MNode):MS:=⟨S.N,upd S.st h s,S.kd⟩
theorem liveL_node {S:MS} {h:Nat} {s:MNode} (hs:s.live=(S.st h).live):liveL (nodeM S h s)=liveL S:=liveL_congr rfl (fun k=>by
 simp only [nodeM]
 by_cases e:k=h
 ·subst e;rw [upd_at,hs]
 ·rw [upd_ne e])
namespace Tryz
def setD (S:MS) (id:Int) (name v:Bs):Int × MS :=
 if fitE S id≠0 then (fitE S id,S) else if namedB true name=false then (8,S) else if 65536<(v.length:Int) then (3,S)
 else if 64<((withA (S.st id.toNat).attrs name v).length:Int) then (12,S) else (0,setM S id.toNat (withA (S.st id.toNat).attrs name v))
def delD (S:MS) (id:Int) (name:Bs):Int × MS :=
 if fitE S id≠0 then (fitE S id,S)
 else if (withoutA (S.st id.toNat).attrs name).length<(S.st id.toNat).attrs.length then (0,setM S id.toNat (withoutA (S.st id.toNat).attrs name)) else (8,S)
def textD (S:MS) (id:Int) (s:Bs):Int × MS :=
 if fitE S id≠0 then (fitE S id,S) else if 65536<(s.length:Int) then (3,S) else (0,textM S id.toNat s)
def createErr (N:Nat) (x:GOp):Int:=if namedB false x.tag=false then 7 else if 65536<(x.key.length:Int)∨65536<(x.text.length:Int) then 3 else if attrsErr x.attrs≠0 then attrsErr x.attrs else if 4294967295<(N:Int) then 21 else 0
theorem named_len {more:Bool} {s:Bs} (h:namedB more s=true):s.length≤32:=by
 unfold namedB at h
 split at h
 ·cases h
 ·simp only [Bool.and_eq_true,decide_eq_true_eq] at h
  simp_all
section
variable {R:Nat} {S:MS} {av:Nat→AV} {p q:Nat} {g:List AObj} {nx:Int}
theorem textD_run (hD:DM (liveL S) S.st S.kd nx av p q g) (hL:(liveL S).length≤4194304) (id:Int) (s:Bs) {n:Nat} (hn:(liveL S).length<n) :
  ∃ g',acall T (n+3) 89 [DP p,.p (.int .i64 id),.p (.str s)] g=some (.p (.int .i64 (textD S id s).1),g')∧DM (liveL (textD S id s).2) (textD S id s).2.st (textD S id s).2.kd nx av p q g'∧DFr (liveL S) av p q g (liveL (textD S id s).2) av q g':=by
 obtain ⟨o,ho,hrep⟩:=hD.core.row
 have hob:=hD.core.obj
 have hix:=fun s i=>hrep.idx rowsD_len s true q i
 have hno:=noneD_run hD.core hL id (n:=n) (by omega)
 unfold textD
 by_cases hf:fitE S id≠0
 ·rw [if_pos hf]
  have e1:(fitE S id==0)=false:=by simpa using hf
  refine ⟨g, ?_,hD,DFr.refl _ _ _ _ _⟩
  rw [acall_code T89,run_code rfl rfl]
  generalize fitE S id=e at hno e1 ⊢
  simp -implicitDefEqProofs (disch:=omega) only [Rx,simprocAttr,F89,hno,e1]
 rw [if_neg hf]
 obtain ⟨c,rfl,hcL,hc0⟩:=fit_live hf
 simp only [ne_eq,Decidable.not_not] at hf
 rw [hf] at hno
 by_cases hl:65536<(s.length:Int)
 ·rw [if_pos hl]
  have e1:(s.length:Int) > 65536:=hl
  refine ⟨g, ?_,hD,DFr.refl _ _ _ _ _⟩
  rw [acall_code T89,run_code rfl rfl]
  simp -implicitDefEqProofs (disch:=omega) only [Rx,simprocAttr,F89,hno,e1]
 rw [if_neg hl]
 have e1:¬ (s.length:Int) > 65536:=hl
 obtain ⟨ic,hpc,hic⟩:=posL_in hcL
 have hat1:=at_run hD.core hL (c:Int) (n:=n+1) (by omega)
 rw [hpc] at hat1
 have lc:=(List.getElem?_eq_some_iff.1 hic).1
 have kc:(ic:Int)<((liveL S).length:Int):=by omega
 obtain ⟨o',hw,hr'⟩:=wr_node hrep hic (j:=5) (by omega) (.p (.str s))
 have e3:(rowsD (liveL S) S.st av).set ic ((nAV c (S.st c) (av c)).set 5 (.p (.str s)))=rowsD (liveL S) (upd S.st c { S.st c with text:=s }) av:=by
  rw [← rows_node hD.core.nodup hic];rfl
 rw [e3] at hr'
 have hlv:liveL (textM S c s)=liveL S:=liveL_node (S:=S) (h:=c) (s:={ S.st c with text:=s }) rfl
 simp only [Int.toNat_natCast]
 refine ⟨g.set q o', ?_,by rw [hlv];exact hD.node _ hr',by rw [hlv];exact DFr.node o'⟩
 rw [acall_code T89,run_code rfl rfl]
 simp -implicitDefEqProofs (disch:=omega) only [Rx,simprocAttr,F89,hno,e1,hat1,hob,ho,hix,hw]
theorem setD_run (hS:S.Ok R) (hD:DM (liveL S) S.st S.kd nx av p q g) (hL:(liveL S).length≤4194304) (id:Int) (name v:Bs) {n:Nat} (hn:(liveL S).length<n) (hn2:1048577<n) :
  ∃ g',acall T (n+36) 87 [DP p,.p (.int .i64 id),.p (.str name),.p (.str v)] g=some (.p (.int .i64 (setD S id name v).1),g')∧DM (liveL (setD S id name v).2) (setD S id name v).2.st (setD S id name v).2.kd nx av p q g'∧DFr (liveL S) av p q g (liveL (setD S id name v).2) av q g':=by
 obtain ⟨o,ho,hrep⟩:=hD.core.row
 have hob:=hD.core.obj
 have hix:=fun s i=>hrep.idx rowsD_len s true q i
 have hno:=noneD_run hD.core hL id (n:=n+33) (by omega)
 unfold setD
 by_cases hf:fitE S id≠0
 ·rw [if_pos hf]
  have e1:(fitE S id==0)=false:=by simpa using hf
  refine ⟨g, ?_,hD,DFr.refl _ _ _ _ _⟩
  rw [acall_code T87,run_code rfl rfl]
  generalize fitE S id=e at hno e1 ⊢
  simp -implicitDefEqProofs (disch:=omega) only [Rx,simprocAttr,F87,hno,e1]
 rw [if_neg hf]
 obtain ⟨c,rfl,hcL,hc0⟩:=fit_live hf
 simp only [ne_eq,Decidable.not_not] at hf
 rw [hf] at hno
 have hnm:=fun g=>named02_run name true g n
 by_cases hm:namedB true name=false
 ·rw [if_pos hm]
  rw [hm] at hnm
  refine ⟨g, ?_,hD,DFr.refl _ _ _ _ _⟩
  rw [acall_code T87,run_code rfl rfl]
  simp -implicitDefEqProofs (disch:=omega) only [Rx,simprocAttr,F87,hno,hnm]
 rw [if_neg hm]
 simp only [Bool.not_eq_false] at hm
 have hnl:=named_len hm
 rw [hm] at hnm
 by_cases hl:65536<(v.length:Int)
 ·rw [if_pos hl]
  have e1:(v.length:Int) > 65536:=hl
  refine ⟨g, ?_,hD,DFr.refl _ _ _ _ _⟩
  rw [acall_code T87,run_code rfl rfl]
  simp -implicitDefEqProofs (disch:=omega) only [Rx,simprocAttr,F87,hno,hnm,e1]
 rw [if_neg hl]
 have e1:¬ (v.length:Int) > 65536:=hl
 obtain ⟨ic,hpc,hic⟩:=posL_in hcL
 have hat1:=at_run hD.core hL (c:Int) (n:=n+34) (by omega)
 rw [hpc] at hat1
 have lc:=(List.getElem?_eq_some_iff.1 hic).1
 have kc:(ic:Int)<((liveL S).length:Int):=by omega
 have rdc:=rd_node hrep hic (j:=6) (by omega)
 simp only [nAV] at rdc
 obtain ⟨hcN,hcl⟩:=mem_liveL.1 hcL
 have hal:=hS.attrs c hcN
 have hwi:=fun g=>with09_run (S.st c).attrs name v hal (by omega) g (n:=n+33) (by omega) (by omega)
 simp only [Int.toNat_natCast]
 generalize hwa:withA (S.st c).attrs name v=w at hwi
 have wl:(w.map Attr.pv).length=w.length:=by simp
 by_cases h64:64<(w.length:Int)
 ·rw [if_pos h64]
  have k64:(w.length:Int) > 64:=h64
  refine ⟨g, ?_,hD,DFr.refl _ _ _ _ _⟩
  rw [acall_code T87,run_code rfl rfl]
  simp -implicitDefEqProofs (disch:=omega) only [Rx,simprocAttr,F87,hno,hnm,e1,hat1,hob,ho,hix,rdc,hwi,wl,k64]
 rw [if_neg h64]
 have k64:¬ (w.length:Int) > 64:=h64
 obtain ⟨o',hw,hr'⟩:=wr_node hrep hic (j:=6) (by omega) (.p (.list (w.map Attr.pv)))
 have e3:(rowsD (liveL S) S.st av).set ic ((nAV c (S.st c) (av c)).set 6 (.p (.list (w.map Attr.pv))))=rowsD (liveL S) (upd S.st c { S.st c with attrs:=w }) av:=by
  rw [← rows_node hD.core.nodup hic];rfl
 rw [e3] at hr'
 have hlv:liveL (setM S c w)=liveL S:=liveL_node (S:=S) (h:=c) (s:={ S.st c with attrs:=w }) rfl
 refine ⟨g.set q o', ?_,by rw [hlv];exact hD.node _ hr',by rw [hlv];exact DFr.node o'⟩
 rw [acall_code T87,run_code rfl rfl]
 simp -implicitDefEqProofs (disch:=omega) only [Rx,simprocAttr,F87,hno,hnm,e1,hat1,hob,ho,hix,rdc,hwi,wl,k64,hw]
theorem delD_run (hS:S.Ok R) (hD:DM (liveL S) S.st S.kd nx av p q g) (hL:(liveL S).length≤4194304) (id:Int) (name:Bs) {n:Nat} (hn:(liveL S).length<n) (hn2:1048577<n) :
  ∃ g',acall T (n+3) 88 [DP p,.p (.int .i64 id),.p (.str name)] g=some (.p (.int .i64 (delD S id name).1),g')∧DM (liveL (delD S id name).2) (delD S id name).2.st (delD S id name).2.kd nx av p q g'∧DFr (liveL S) av p q g (liveL (delD S id name).2) av q g':=by
 obtain ⟨o,ho,hrep⟩:=hD.core.row
 have hob:=hD.core.obj
 have hix:=fun s i=>hrep.idx rowsD_len s true q i
 have hno:=noneD_run hD.core hL id (n:=n) (by omega)
 unfold delD
 by_cases hf:fitE S id≠0
 ·rw [if_pos hf]
  have e1:(fitE S id==0)=false:=by simpa using hf
  refine ⟨g, ?_,hD,DFr.refl _ _ _ _ _⟩
  rw [acall_code T88,run_code rfl rfl]
  generalize fitE S id=e at hno e1 ⊢
  simp -implicitDefEqProofs (disch:=omega) only [Rx,simprocAttr,F88,hno,e1]
 rw [if_neg hf]
 obtain ⟨c,rfl,hcL,hc0⟩:=fit_live hf
 simp only [ne_eq,Decidable.not_not] at hf
 rw [hf] at hno
 obtain ⟨ic,hpc,hic⟩:=posL_in hcL
 have hat1:=at_run hD.core hL (c:Int) (n:=n+1) (by omega)
 rw [hpc] at hat1
 have lc:=(List.getElem?_eq_some_iff.1 hic).1
 have kc:(ic:Int)<((liveL S).length:Int):=by omega
 have rdc:=rd_node hrep hic (j:=6) (by omega)
 simp only [nAV] at rdc
 obtain ⟨hcN,hcl⟩:=mem_liveL.1 hcL
 have hal:=hS.attrs c hcN
 have hwi:=fun g=>without09_run (S.st c).attrs name hal g (n:=n+1) (by omega)
 simp only [Int.toNat_natCast]
 generalize hwa:withoutA (S.st c).attrs name=w at hwi
 have wl:(w.map Attr.pv).length=w.length:=by simp
 by_cases hlt:w.length<(S.st c).attrs.length
 rotate_left
 ·rw [if_neg hlt]
  have ed:decide (w.length<(S.st c).attrs.length)=false:=by simpa using hlt
  rw [ed] at hwi
  refine ⟨g, ?_,hD,DFr.refl _ _ _ _ _⟩
  rw [acall_code T88,run_code rfl rfl]
  simp -implicitDefEqProofs (disch:=omega) only [Rx,simprocAttr,F88,hno,hat1,hob,ho,hix,rdc,hwi]
 rw [if_pos hlt]
 have ed:decide (w.length<(S.st c).attrs.length)=true:=by simpa using hlt
 rw [ed] at hwi
 obtain ⟨o',hw,hr'⟩:=wr_node hrep hic (j:=6) (by omega) (.p (.list (w.map Attr.pv)))
 have e3:(rowsD (liveL S) S.st av).set ic ((nAV c (S.st c) (av c)).set 6 (.p (.list (w.map Attr.pv))))=rowsD (liveL S) (upd S.st c { S.st c with attrs:=w }) av:=by
  rw [← rows_node hD.core.nodup hic];rfl
 rw [e3] at hr'
 have hlv:liveL (setM S c w)=liveL S:=liveL_node (S:=S) (h:=c) (s:={ S.st c with attrs:=w }) rfl
 refine ⟨g.set q o', ?_,by rw [hlv];exact hD.node _ hr',by rw [hlv];exact DFr.node o'⟩
 rw [acall_code T88,run_code rfl rfl]
 simp -implicitDefEqProofs (disch:=omega) only [Rx,simprocAttr,F88,hno,hat1,hob,ho,hix,rdc,hwi,hw]
end
end Tryz
end Go.TA


end
section
/- The document's answer: a node is made; any operation. -/
set_option maxRecDepth 100000
set_option maxHeartbeats 8000000
namespace Go.TA
theorem liveL_create (S:MS) (x:GOp):liveL (S.create x)=liveL S++[S.N]:=by
 unfold liveL
 simp only [MS.create,List.range_succ,List.filter_append,List.filter_cons,List.filter_nil,upd_at,if_true]
 congr 1
 refine List.filter_congr fun k hk => ?_
 have:=List.mem_range.1 hk
 rw [upd_ne (by omega)]
theorem DM.push {L : List Nat} {st : Nat → MNode} {kd : Nat → List Int} {nx : Int} {av : Nat → AV} {p q : Nat} {g : List AObj} (h : DM L st kd nx av p q g) {N : Nat} (hN : N ∉ L) (s : MNode) (nx' : Int) {o' : AObj} (hr : RowRep 7 (rowsD (L ++ [N]) (upd st N s) (upd av N .nils)) o') : DM (L ++ [N]) (upd st N s) (upd kd N []) nx' (upd av N .nils) p q ((g.set q o').set p (.cells 2 [[.own true q (L.length + 1), .p (.int .i64 nx')]])) := by
  have hp:=(List.getElem?_eq_some_iff.1 h.core.obj).1
  obtain ⟨o,ho,_⟩:=h.core.row
  have hq:=(List.getElem?_eq_some_iff.1 ho).1
  have hmem:∀ k,k ∈ L++[N]→k=N∨(k ∈ L∧k≠N):=fun k hk=>by
    rcases List.mem_append.1 hk with h1 | h1
    · exact .inr ⟨h1,fun e=>hN (e ▸ h1)⟩
    · simp at h1;exact .inl h1
  refine ⟨⟨?_,⟨o', ?_,hr⟩,h.core.pq, ?_⟩,fun k hk => ?_,fun k hk => ?_,fun k k' hk hk' hne => ?_⟩
  · rw [List.getElem?_set,if_pos rfl,if_pos (by rw [List.length_set];exact hp)];simp
  · rw [List.getElem?_set,if_neg h.core.pq,List.getElem?_set,if_pos rfl,if_pos hq]
  · rw [List.nodup_append]
    refine ⟨h.core.nodup,by simp,fun a ha b hb e => ?_⟩
    simp at hb;subst hb;subst e;exact hN ha
  · rcases hmem k hk with rfl | ⟨h1,h2⟩
    · rw [upd_at,upd_at];exact .none
    · rw [upd_ne h2,upd_ne h2]
      refine (h.kids k h1).keep fun r hr => ?_
      rw [List.getElem?_set,if_neg (fun e=>(h.away k h1).1 (by rw [e];exact hr)),List.getElem?_set,if_neg (fun e=>(h.away k h1).2 (by rw [e];exact hr))]
  · rcases hmem k hk with rfl | ⟨h1,h2⟩
    · rw [upd_at];simp [refOf]
    · rw [upd_ne h2];exact h.away k h1
  · rcases hmem k hk with rfl | ⟨h1,h2⟩
    · left;rw [upd_at];rfl
    · rw [upd_ne h2]
      rcases hmem k' hk' with rfl | ⟨h3,h4⟩
      · rw [upd_at]
        cases hr:refOf (av k) with
        | none=>exact .inl rfl
        | some q=>exact .inr (by simp [refOf])
      · rw [upd_ne h4];exact h.disj k k' h1 h3 hne
theorem DFr.push {L:List Nat} {av:Nat→AV} {p q:Nat} {g:List AObj} {N:Nat} (hN:N ∉ L) (o o':AObj):DFr L av p q g (L++[N]) (upd av N .nils) q ((g.set q o).set p o') where
 len:=by simp
 keep j hj hp hq hn:=by rw [List.getElem?_set,if_neg (fun e=>hp e.symm),List.getElem?_set,if_neg (fun e=>hq e.symm)]
 row:=.inl rfl
 refs k hk j hj _:=by
  rcases List.mem_append.1 hk with h1 | h1
  ·have:k≠N:=fun e=>hN (e ▸ h1)
   rw [upd_ne this] at hj;exact ⟨k,h1,hj⟩
  ·simp at h1;subst h1;rw [upd_at] at hj;cases hj
namespace Tryz
noncomputable def doD (S:MS) (x:GOp):Int × Int × MS :=
 if x.kind=1 then (if createErr S.N x=0 then ((S.N:Int),0,S.create x) else (0,createErr S.N x,S))
 else if x.kind=2 then (0,insertD S x.node x.up x.before)
 else if x.kind=3 then (0,moveD S x.node x.before)
 else if x.kind=4 then (0,removeD S x.node)
 else if x.kind=5 then (0,setD S x.node x.name x.text)
 else if x.kind=6 then (0,delD S x.node x.name)
 else if x.kind=7 then (0,textD S x.node x.text)
 else (0,0,S)
section
variable {R:Nat} {S:MS} {av:Nat→AV} {p q:Nat} {g:List AObj}
theorem createD_run (hD:DM (liveL S) S.st S.kd S.N av p q g) (hL:(liveL S).length≤4194304) (x:GOp) (hs:smallAttrs x.attrs) {n:Nat} (hn:x.attrs.length<n) (hn2:1048576<n) :
    ∃ av' g', acall T (n + 37) 83 [DP p, .p (.str x.tag), .p (.str x.key), .p (.str x.text), .p (.list (x.attrs.map Attr.pv))] g = some (if createErr S.N x = 0 then .tuple [.p (.int .i64 S.N), .p (.int .i64 0)] else .tuple [.p (.int .i64 0), .p (.int .i64 (createErr S.N x))], g')
      ∧ DM (liveL (if createErr S.N x=0 then S.create x else S)) (if createErr S.N x=0 then S.create x else S).st (if createErr S.N x=0 then S.create x else S).kd (if createErr S.N x=0 then S.create x else S).N av' p q g'∧DFr (liveL S) av p q g (liveL (if createErr S.N x=0 then S.create x else S)) av' q g':=by
  obtain ⟨o,ho,hrep⟩:=hD.core.row
  have hob:=hD.core.obj
  have hnm:=fun g=>named02_run x.tag false g (n+1)
  have hat:=fun g=>a09_run x.attrs hs g (n:=n) (by omega) hn2
  have bad:∀ e:Int,createErr S.N x=e→e≠0→acall T (n+37) 83 [DP p,.p (.str x.tag),.p (.str x.key),.p (.str x.text),.p (.list (x.attrs.map Attr.pv))] g=some (.tuple [.p (.int .i64 0),.p (.int .i64 e)],g) →
      ∃ av' g',acall T (n+37) 83 [DP p,.p (.str x.tag),.p (.str x.key),.p (.str x.text),.p (.list (x.attrs.map Attr.pv))] g=some (if createErr S.N x=0 then .tuple [.p (.int .i64 S.N),.p (.int .i64 0)] else .tuple [.p (.int .i64 0),.p (.int .i64 (createErr S.N x))],g')
      ∧ DM (liveL (if createErr S.N x=0 then S.create x else S)) (if createErr S.N x=0 then S.create x else S).st (if createErr S.N x=0 then S.create x else S).kd (if createErr S.N x=0 then S.create x else S).N av' p q g'∧DFr (liveL S) av p q g (liveL (if createErr S.N x=0 then S.create x else S)) av' q g':=fun e he hne hr=>by
    rw [he,if_neg hne,if_neg hne]
    exact ⟨av,g,hr,hD,DFr.refl _ _ _ _ _⟩
  by_cases h7:namedB false x.tag=false
  · refine bad 7 (by simp [createErr,h7]) (by decide) ?_
    rw [h7] at hnm
    rw [acall_code T83,run_code rfl rfl]
    simp -implicitDefEqProofs (disch:=omega) only [Rx,simprocAttr,F83,hnm]
  simp only [Bool.not_eq_false] at h7
  rw [h7] at hnm
  by_cases h3:65536<(x.key.length:Int)
  · refine bad 3 (by simp only [createErr,h7,Bool.true_eq_false,if_false,if_pos (Or.inl h3:65536<(x.key.length:Int)∨65536<(x.text.length:Int))]) (by decide) ?_
    have k3:(x.key.length:Int) > 65536:=h3
    rw [acall_code T83,run_code rfl rfl]
    simp -implicitDefEqProofs (disch:=omega) only [Rx,simprocAttr,F83,hnm,k3]
  have k3:¬ (x.key.length:Int) > 65536:=h3
  by_cases h4:65536<(x.text.length:Int)
  · refine bad 3 (by simp only [createErr,h7,Bool.true_eq_false,if_false,if_pos (Or.inr h4:65536<(x.key.length:Int)∨65536<(x.text.length:Int))]) (by decide) ?_
    have k4:(x.text.length:Int) > 65536:=h4
    rw [acall_code T83,run_code rfl rfl]
    simp -implicitDefEqProofs (disch:=omega) only [Rx,simprocAttr,F83,hnm,k3,k4]
  have k4:¬ (x.text.length:Int) > 65536:=h4
  have h34:¬ (65536<(x.key.length:Int)∨65536<(x.text.length:Int)):=fun h=>h.elim h3 h4
  by_cases h5:attrsErr x.attrs≠0
  · refine bad (attrsErr x.attrs) (by simp only [createErr,h7,Bool.true_eq_false,if_false,if_neg h34,if_pos h5]) h5 ?_
    have k5:(attrsErr x.attrs==0)=false:=by simpa using h5
    generalize attrsErr x.attrs=e at hat k5
    rw [acall_code T83,run_code rfl rfl]
    simp -implicitDefEqProofs (disch:=omega) only [Rx,simprocAttr,F83,hnm,k3,k4,hat,k5]
  simp only [ne_eq,Decidable.not_not] at h5
  rw [h5] at hat
  by_cases h6:4294967295<(S.N:Int)
  · refine bad 21 (by simp only [createErr,h7,Bool.true_eq_false,if_false,if_neg h34,h5,ne_eq,not_true_eq_false,if_pos h6]) (by decide) ?_
    have k6:(S.N:Int) > 4294967295:=h6
    rw [acall_code T83,run_code rfl rfl]
    simp -implicitDefEqProofs (disch:=omega) only [Rx,simprocAttr,F83,hnm,k3,k4,hat,hob,k6]
  have k6:¬ (S.N:Int) > 4294967295:=h6
  have hz:createErr S.N x=0:=by simp only [createErr,h7,Bool.true_eq_false,if_false,if_neg h34,h5,ne_eq,not_true_eq_false,if_neg h6]
  rw [hz,if_pos rfl,if_pos rfl]
  have hNL:S.N ∉ liveL S:=fun h=>by have:=(mem_liveL.1 h).1;omega
  obtain ⟨o',happ,hr'⟩:=hrep.app (bytes:=112) rowsD_len (by omega) (c:=nAV S.N ⟨true, -1,x.tag,x.key,x.text,x.attrs⟩ .nils) rfl rfl
  rw [rowsD_push hNL] at hr'
  have hDp:=hD.push hNL ⟨true, -1,x.tag,x.key,x.text,x.attrs⟩ ((S.N:Int)+1) hr'
  have hFp:=DFr.push (av:=av) (p:=p) (q:=q) (g:=g) hNL o' (.cells 2 [[.own true q ((liveL S).length+1),.p (.int .i64 ((S.N:Int)+1))]])
  refine ⟨upd av S.N .nils,_, ?_,by rw [liveL_create];exact hDp,by rw [liveL_create];exact hFp⟩
  have hpl:=(List.getElem?_eq_some_iff.1 hob).1
  have hob2:(g.set q o')[p]? = some (.cells 2 [[.own true q (liveL S).length,.p (.int .i64 S.N)]]):=by
    rw [List.getElem?_set,if_neg (fun e=>hD.core.pq e.symm)];exact hob
  have hA:∀ X:AObj,((g.set q o').set p X)[p]? = some X:=fun X=>by rw [List.getElem?_set,if_pos rfl,if_pos (by rw [List.length_set];exact hpl)]
  have hss:∀ X Y:AObj,((g.set q o').set p X).set p Y=(g.set q o').set p Y:=fun X Y=>by simp
  have e9:(S.N:Int)+1 - 1=S.N:=by omega
  generalize hG:g.set q o'=G at hob2 hA hss
  simp only [nAV,List.map_nil] at happ
  rw [acall_code T83,run_code rfl rfl]
  simp -implicitDefEqProofs (disch:=omega) only [Rx,simprocAttr,F83,hnm,k3,k4,hat,hob,ho,k6,happ,hG,hob2,hA,hss,e9]
end
end Tryz
end Go.TA


end
section
/- The machine of rows. Plain. -/
namespace Go.TA
def S0 (l:List GRow):MS:=⟨l.length+1,st0 l,kd0 l l.length⟩
theorem mem_kd0 {l:List GRow} {i h:Nat} {k:Int}:k ∈ kd0 l i h↔∃ j x,j<i∧l[j]? = some x∧x.up=(h:Int)∧k=(j:Int)+1:=by
  simp only [kd0,List.mem_map,List.mem_filter,List.mem_range]
  constructor
  · rintro ⟨j,⟨h1,h2⟩,rfl⟩
    cases hx:l[j]? with
    | none=>rw [hx] at h2;simp at h2
    | some x =>
      rw [hx] at h2
      exact ⟨j,x,h1,hx,by simpa using h2,rfl⟩
  · rintro ⟨j,x,h1,h2,h3,rfl⟩
    exact ⟨j,⟨h1,by simp [h2,h3]⟩,rfl⟩
theorem kd0_nodup (l:List GRow) (i h:Nat):(kd0 l i h).Nodup:=by
 unfold kd0
 rw [List.nodup_iff_pairwise_ne,List.pairwise_map]
 refine List.Pairwise.imp ?_ ((List.nodup_iff_pairwise_ne.1 List.nodup_range).filter _)
 intro a b hab
 omega
theorem S0_ok {l:List GRow} {m:Nat} (hs:sound l) (hsm:Rows.small m l) (hm:m≤1048577):(S0 l).Ok l.length:=by
  have hlive:∀ c,c<l.length+1→(st0 l c).live=true:=fun c hc=>by
    cases c with
    | zero=>rfl
    | succ j =>
      obtain ⟨x,hx⟩:=get_some (show j<l.length by omega)
      simp [st0,hx,nodeOf]
  have hup:∀ j x,l[j]? = some x→(st0 l (j+1)).up=x.up:=fun j x hx=>by simp [st0,hx,nodeOf]
  refine ⟨by simp [S0],⟨rfl,rfl⟩,fun p hp k hk => ?_,fun c hc => ?_,fun c hc hd => ?_,fun p hp=>kd0_nodup l l.length p,⟨fun c=>c,fun c hc=>by simp only [S0] at hc;show c≤l.length;omega,fun c p hc hu => ?_⟩,fun c hc => ?_⟩
  · obtain ⟨j,x,h1,h2,h3,rfl⟩:=mem_kd0.1 hk
    exact ⟨j+1,by omega,by simp only [S0];omega,hlive _ (by omega),by simp only [S0];rw [hup j x h2];exact h3⟩
  · simp only [S0] at hc ⊢
    cases c with
    | zero=>exact .inl rfl
    | succ j =>
      obtain ⟨x,hx⟩:=get_some (show j<l.length by omega)
      have hst:=hs.1 j x (by omega) hx
      refine .inr ⟨x.up.toNat,by omega, ?_,hlive _ (by omega),mem_kd0.2 ⟨j,x,by omega,hx,by omega,by omega⟩⟩
      rw [hup j x hx];omega
  · simp only [S0] at hc hd
    rw [hlive c hc] at hd;cases hd
  · simp only [S0] at hc hu
    cases c with
    | zero=>simp [st0,holder] at hu <;> omega
    | succ j =>
      obtain ⟨x,hx⟩:=get_some (show j<l.length by omega)
      have hst:=hs.1 j x (by omega) hx
      rw [hup j x hx] at hu
      show p<j+1
      omega
  · simp only [S0] at hc ⊢
    cases c with
    | zero=>simp [st0,holder]
    | succ j =>
      obtain ⟨x,hx⟩:=get_some (show j<l.length by omega)
      have:=(hsm.row x (List.mem_of_getElem? hx)).attrs
      simp only [st0,hx,Option.map_some,Option.getD_some,nodeOf]
      omega
end Go.TA


end
section
/- The document's answer, of rows. -/
set_option maxRecDepth 100000
set_option maxHeartbeats 8000000
namespace Go.TA
structure Behind (g0:List AObj) (L:List Nat) (av:Nat→AV) (g:List AObj):Prop where
 len:g0.length≤g.length
 keep:∀ j,j<g0.length→g[j]? = g0[j]?
 refs:∀ h,h ∈ L→∀ r,refOf (av h)=some r→g0.length≤r
theorem DM.grow {L : List Nat} {st : Nat → MNode} {kd : Nat → List Int} {nx : Int} {av : Nat → AV} {p q : Nat} {g : List AObj} (h : DM L st kd nx av p q g) {c r : Nat} (hc : c ∈ L) (ha : av c = .own true r (kd c).length) (k : Int) {o' : AObj} (hr : RowRep 7 (rowsD L st (upd av c (.own true r ((kd c).length + 1)))) o') : DM L st (upd kd c (kd c ++ [k])) nx (upd av c (.own true r ((kd c).length + 1))) p q ((g.set r (.pcells 1 (intsPV (kd c ++ [k])))).set q o') := by
  have hro:refOf (av c)=some r:=by rw [ha];rfl
  have hrp:=(h.away c hc).1
  have hrq:=(h.away c hc).2
  rw [hro] at hrp hrq
  simp only [ne_eq,Option.some.injEq] at hrp hrq
  have hrl:=(h.kids c hc).ref_lt hro
  obtain ⟨o,ho,_⟩:=h.core.row
  have hql:=(List.getElem?_eq_some_iff.1 ho).1
  have hrn:∀ n,refOf (.own true r n)=some r:=fun n=>rfl
  refine ⟨⟨?_,⟨o', ?_,hr⟩,h.core.pq,h.core.nodup⟩,fun y hy => ?_,fun y hy => ?_,fun y y' hy hy' hne => ?_⟩
  · rw [List.getElem?_set,if_neg (fun e=>h.core.pq e.symm),List.getElem?_set,if_neg hrp];exact h.core.obj
  · rw [List.getElem?_set,if_pos rfl,if_pos (by rw [List.length_set];exact hql)]
  · by_cases e:y=c
    · subst e
      rw [upd_at,upd_at]
      have:=KG.own (g:=(g.set r (.pcells 1 (intsPV (kd y++[k])))).set q o') (r:=r) (ks:=kd y++[k]) (by rw [List.getElem?_set,if_neg (fun e=>hrq e.symm),List.getElem?_set,if_pos rfl,if_pos hrl])
      simpa using this
    · rw [upd_ne e,upd_ne e]
      refine (h.kids y hy).keep fun r' hr' => ?_
      rw [List.getElem?_set,if_neg (fun e=>(h.away y hy).2 (by rw [e];exact hr')),List.getElem?_set,if_neg]
      intro e2
      rcases h.disj y c hy hc e with h1 | h1
      · rw [h1] at hr';cases hr'
      · exact h1 (by rw [hr',hro,e2])
  · by_cases e:y=c
    · subst e;rw [upd_at,hrn];simp [hrp,hrq]
    · rw [upd_ne e];exact h.away y hy
  · have e0:∀ n,refOf (.own true r n)=refOf (av c):=fun n=>by rw [hro];rfl
    by_cases e:y=c
    · subst e
      rw [upd_at,upd_ne (fun e=>hne e.symm),e0]
      exact h.disj y y' hy hy' hne
    · rw [upd_ne e]
      by_cases e':y'=c
      · subst e'
        rw [upd_at,e0]
        exact h.disj y y' hy hy' hne
      · rw [upd_ne e'];exact h.disj y y' hy hy' hne
theorem DM.first {L : List Nat} {st : Nat → MNode} {kd : Nat → List Int} {nx : Int} {av : Nat → AV} {p q : Nat} {g : List AObj} (h : DM L st kd nx av p q g) {c : Nat} (hc : c ∈ L) (k : Int) {o' : AObj} (hr : RowRep 7 (rowsD L st (upd av c (.own true g.length 1))) o') : DM L st (upd kd c [k]) nx (upd av c (.own true g.length 1)) p q ((g ++ [AObj.pcells 1 (intsPV [k])]).set q o') := by
  obtain ⟨o,ho,_⟩:=h.core.row
  have hql:=(List.getElem?_eq_some_iff.1 ho).1
  have hpl:=(List.getElem?_eq_some_iff.1 h.core.obj).1
  have hrn:refOf (.own true g.length 1)=some g.length:=rfl
  refine ⟨⟨?_,⟨o', ?_,hr⟩,h.core.pq,h.core.nodup⟩,fun y hy => ?_,fun y hy => ?_,fun y y' hy hy' hne => ?_⟩
  · rw [List.getElem?_set,if_neg (fun e=>h.core.pq e.symm),List.getElem?_append_left hpl];exact h.core.obj
  · rw [List.getElem?_set,if_pos rfl,if_pos (by rw [List.length_append];omega)]
  · by_cases e:y=c
    · subst e
      rw [upd_at,upd_at]
      exact KG.own (ks:=[k]) (by rw [List.getElem?_set,if_neg (by omega)];simp)
    · rw [upd_ne e,upd_ne e]
      refine (h.kids y hy).keep fun r' hr' => ?_
      have:=(h.kids y hy).ref_lt hr'
      rw [List.getElem?_set,if_neg (fun e=>(h.away y hy).2 (by rw [e];exact hr')),List.getElem?_append_left this]
  · by_cases e:y=c
    · subst e;rw [upd_at,hrn];simp;omega
    · rw [upd_ne e];exact h.away y hy
  · by_cases e:y=c
    · subst e
      rw [upd_at,upd_ne (fun e=>hne e.symm),hrn]
      cases hr:refOf (av y') with
      | none=>exact .inr (by simp)
      | some r =>
        right
        have:=(h.kids y' hy').ref_lt hr
        simp only [ne_eq,Option.some.injEq];omega
    · rw [upd_ne e]
      by_cases e':y'=c
      · subst e'
        rw [upd_at,hrn]
        cases hr:refOf (av y) with
        | none=>exact .inl rfl
        | some r =>
          right
          have:=(h.kids y hy).ref_lt hr
          simp only [ne_eq,Option.some.injEq];omega
      · rw [upd_ne e'];exact h.disj y y' hy hy' hne
namespace Tryz
def newD (l:List GRow) (p i:Nat) (g:List AObj):St:=⟨[(0,.p (.list (l.map GRow.pv))),(3,DP p),(8,.p (.int .i64 l.length)),(9,.p (.int .i64 i))],[],g⟩
theorem newD_loop {C : Calls'} {N : Nat} (l : List GRow) (hl : l.length ≤ 1048576) (hs : standTo l l.length) (hN : l.length < N) (g0 : List AObj) (av0 : Nat → AV) (g1 : List AObj) (p q : Nat) (hD0 : DM (List.range 1) (st0 l) (kd0 l 0) 1 av0 p q g1) (hav0 : ∀ h, h ∈ List.range 1 → ∀ ks, av0 h ≠ .p ks) (hB0 : Behind g0 (List.range 1) av0 g1) (hp : g0.length ≤ p) (hq : g0.length ≤ q) :
    ∃ r,aexec C N (.loop B19x0) (newD l p 0 g1)=some r∧∃ av g,r=(.exit 0,⟨[(0,.p (.list (l.map GRow.pv))),(3,DP p)],[],g⟩)∧DM (List.range (l.length+1)) (st0 l) (kd0 l l.length) 1 av p q g∧Behind g0 (List.range (l.length+1)) av g:=by
  refine loop_inv (σ := Nat × (Nat→AV) × List AObj) (S:=fun s=>newD l p s.1 s.2.2) (I:=fun s=>s.1≤l.length∧DM (List.range (s.1+1)) (st0 l) (kd0 l s.1) 1 s.2.1 p q s.2.2∧(∀ h,h ∈ List.range (s.1+1)→∀ ks,s.2.1 h ≠ .p ks)∧Behind g0 (List.range (s.1+1)) s.2.1 s.2.2) (μ := fun s=>l.length - s.1)
    (Q:=fun r=>∃ av g,r=(.exit 0,⟨[(0,.p (.list (l.map GRow.pv))),(3,DP p)],[],g⟩)∧DM (List.range (l.length+1)) (st0 l) (kd0 l l.length) 1 av p q g∧Behind g0 (List.range (l.length+1)) av g) ?_ (0,av0,g1) ⟨by omega,hD0,hav0,hB0⟩ (by simp only;omega)
  rintro ⟨i,av,g⟩ ⟨h1,hD,h3,hB⟩
  simp only at h1 hD h3 hB ⊢
  by_cases hi:i<l.length
  · left
    obtain ⟨x,hx⟩:=get_some hi
    have hu:=hs i x hi hx
    obtain ⟨u,hue⟩:∃ u:Nat,x.up=(u:Int):=⟨x.up.toNat,by omega⟩
    have hg:=getD_map (f:=GRow.pv) hx
    have k1:(i:Int)<(l.length:Int):=by omega
    have hst:st0 l (i+1)=nodeOf x:=by simp [st0,hx]
    obtain ⟨o,ho,hrep⟩:=hD.core.row
    have hob:=hD.core.obj
    have hrl:(List.range (i+1)).length=i+1:=by simp
    rw [hrl] at hob
    have hNL:i+1 ∉ List.range (i+1):=by simp
    obtain ⟨o1,happ,hr1⟩:=hrep.app (n:=i+1) (bytes:=112) (by rw [rowsD_len,hrl]) (by omega) (c:=nAV (i+1) (nodeOf x) .nils) rfl rfl
    rw [rowsD_push hNL] at hr1
    have hD1:=hD.push hNL (nodeOf x) 1 hr1
    rw [hrl] at hD1
    have hD2:DM (List.range (i+1+1)) (st0 l) (upd (kd0 l i) (i+1) []) 1 (upd av (i+1) .nils) p q ((g.set q o1).set p (.cells 2 [[.own true q (i+1+1),.p (.int .i64 1)]])):=by
      rw [List.range_succ]
      refine hD1.congr fun k hk=>⟨?_,rfl⟩
      by_cases e:k=i+1
      · subst e;rw [upd_at,hst]
      · rw [upd_ne e]
    have hB2:Behind g0 (List.range (i+1+1)) (upd av (i+1) .nils) ((g.set q o1).set p (.cells 2 [[.own true q (i+1+1),.p (.int .i64 1)]])):=by
      refine ⟨by simpa using hB.len,fun j hj => ?_,fun h hh r hr => ?_⟩
      · rw [List.getElem?_set,if_neg (by omega),List.getElem?_set,if_neg (by omega)];exact hB.keep j hj
      · by_cases e:h=i+1
        · subst e;rw [upd_at] at hr;cases hr
        · rw [upd_ne e] at hr
          exact hB.refs h (by have:=List.mem_range.1 hh;exact List.mem_range.2 (by omega)) r hr
    have h32:∀ h,h ∈ List.range (i+1+1)→∀ ks,upd av (i+1) .nils h ≠ .p ks:=fun h hh ks=>by
      by_cases e:h=i+1
      · subst e;rw [upd_at];simp
      · rw [upd_ne e];exact h3 h (by have:=List.mem_range.1 hh;exact List.mem_range.2 (by omega)) ks
    have hpl:=(List.getElem?_eq_some_iff.1 hob).1
    have hob1:(g.set q o1)[p]? = some (.cells 2 [[.own true q (i+1),.p (.int .i64 1)]]):=by
      rw [List.getElem?_set,if_neg (fun e=>hD.core.pq e.symm)];exact hob
    generalize hG:g.set q o1=G at hD2 hB2 hob1
    generalize hG2:G.set p (.cells 2 [[.own true q (i+1+1),.p (.int .i64 1)]])=G2 at hD2 hB2
    generalize hav2:upd av (i+1) .nils=av2 at hD2 hB2 h32
    have hrl2:(List.range (i+1+1)).length=i+1+1:=by simp
    obtain ⟨o2,ho2,hrep2⟩:=hD2.core.row
    have hob2:=hD2.core.obj
    rw [hrl2] at hob2
    have hix2:=fun s i=>hrep2.idx (by rw [rowsD_len,hrl2]) s true q i
    have hul:u<i+1+1:=by omega
    have huL:u ∈ List.range (i+1+1):=List.mem_range.2 hul
    have hiu:(List.range (i+1+1))[u]? = some u:=List.getElem?_range hul
    have ku:(u:Int)<((i+1+1:Nat):Int):=by omega
    have rdu:=rd_node hrep2 hiu (j:=2) (by omega)
    rw [hrl2] at rdu
    simp only [nAV] at rdu
    have hK:=hD2.kids u huL
    have hkd:∀ h,h ∈ List.range (i+1+1)→upd (upd (kd0 l i) (i+1) []) u (upd (kd0 l i) (i+1) [] u++[(i:Int)+1]) h=kd0 l (i+1) h:=by
      intro h hh
      have hnew:upd (kd0 l i) (i+1) [] h=kd0 l i h:=by
        by_cases e:h=i+1
        · subst e;rw [upd_at,kd0_new (hs.mono (by omega)) (by omega)]
        · rw [upd_ne e]
      rw [kd0_succ hx,hue]
      by_cases e:h=u
      · subst e
        rw [upd_at,hnew,if_pos rfl]
      · rw [upd_ne e,hnew,if_neg (by omega)]
    have hkl:(upd (kd0 l i) (i+1) [] u).length≤1048576:=by
      by_cases e:u=i+1
      · rw [e,upd_at];simp
      · rw [upd_ne e]
        simp only [kd0,List.length_map]
        have:=List.length_filter_le (fun k=>((l[k]?).map (fun x=>x.up==(u:Int))).getD false) (List.range i)
        simp only [List.length_range] at this
        omega
    generalize hkd2:upd (kd0 l i) (i+1) []=kd2 at hD2 hK hkd hkl
    have hwr:=fun a=>wr_node hrep2 hiu (j:=2) (by omega) a
    have hql:=(List.getElem?_eq_some_iff.1 ho2).1
    have hp2:=(List.getElem?_eq_some_iff.1 hob2).1
    simp only [nAV,nodeOf,hue] at happ
    have c1:((i+1:Nat):Int)=(i:Int)+1:=by omega
    rw [c1] at happ
    rcases hK.inv with ⟨hav,hk0⟩ | ⟨r,hav,hr⟩ | hav
    · rw [hav] at rdu
      obtain ⟨o3,hw,hr3⟩:=hwr (.own true G2.length 1)
      rw [rows_kids List.nodup_range hiu] at hr3
      rw [hrl2] at hw
      have hD3:=hD2.first huL ((i:Int)+1) hr3
      refine ⟨(i+1,upd av2 u (.own true G2.length 1),(G2++[AObj.pcells 1 (intsPV [(i:Int)+1])]).set q o3), ?_,⟨by simp only;omega,hD3.congr fun h hh=>⟨rfl,by rw [← hkd h hh,hk0];rfl⟩,fun h hh ks => ?_, ?_,fun j hj => ?_,fun h hh r hr => ?_⟩,by simp only;omega⟩
      · have hlast:(G2++[AObj.pcells 1 []])[G2.length]? = some (.pcells 1 []):=by simp
        have hset:∀ X,(G2++[AObj.pcells 1 []]).set G2.length X=G2++[X]:=fun X=>by simp [List.set_append]
        have hob3:∀ X,(G2++[X])[p]? = some (.cells 2 [[.own true q (i+1+1),.p (.int .i64 1)]]):=fun X=>by rw [List.getElem?_append_left hp2];exact hob2
        have ho3:∀ X,(G2++[X])[q]? = some o2:=fun X=>by rw [List.getElem?_append_left hql];exact ho2
        have ei:intsPV [(i:Int)+1]=[[.int .i64 ((i:Int)+1)]]:=rfl
        rw [ei]
        simp only [newD]
        simp -implicitDefEqProofs (disch:=omega) only [Rx,simprocAttr,B19x0,k1,hg,GRow.pv,attrsPV,hob,ho,happ,hG,hob1,hG2,hob2,ho2,hix2,hue,rdu,hset,hob3,ho3,hw]
      · by_cases e:h=u
        · subst e;simp [upd]
        · simp only;rw [upd_ne e];exact h32 h hh ks
      · have:=hB2.len;simp;omega
      · have:=hB2.len
        simp only
        rw [List.getElem?_set,if_neg (by omega),List.getElem?_append_left (by omega)];exact hB2.keep j hj
      · simp only at hr
        by_cases e:h=u
        · subst e
          rw [upd_at] at hr
          simp only [refOf,Option.some.injEq] at hr
          have:=hB2.len;omega
        · rw [upd_ne e] at hr;exact hB2.refs h hh r hr
    · rw [hav] at rdu
      obtain ⟨o3,hw,hr3⟩:=hwr (.own true r ((kd2 u).length+1))
      rw [rows_kids List.nodup_range hiu] at hr3
      rw [hrl2] at hw
      have hD3:=hD2.grow huL hav ((i:Int)+1) hr3
      have hro:refOf (av2 u)=some r:=by rw [hav];rfl
      have hrb:=hB2.refs u huL r hro
      refine ⟨(i+1,upd av2 u (.own true r ((kd2 u).length+1)),(G2.set r (.pcells 1 (intsPV (kd2 u++[(i:Int)+1])))).set q o3), ?_,⟨by simp only;omega,hD3.congr fun h hh=>⟨rfl,by rw [← hkd h hh]⟩,fun h hh ks => ?_, ?_,fun j hj => ?_,fun h hh r' hr' => ?_⟩,by simp only;omega⟩
      · have hrp:=(hD2.away u huL).1
        have hrq:=(hD2.away u huL).2
        rw [hro] at hrp hrq
        simp only [ne_eq,Option.some.injEq] at hrp hrq
        have hob3:∀ X,(G2.set r X)[p]? = some (.cells 2 [[.own true q (i+1+1),.p (.int .i64 1)]]):=fun X=>by rw [List.getElem?_set,if_neg hrp];exact hob2
        have ho3:∀ X,(G2.set r X)[q]? = some o2:=fun X=>by rw [List.getElem?_set,if_neg hrq];exact ho2
        have il:=intsPV_len (kd2 u)
        have os:=intsPV_snoc (kd2 u) ((i:Int)+1)
        have ol:(intsPV (kd2 u++[(i:Int)+1])).length=(kd2 u).length+1:=by rw [intsPV_len];simp
        generalize kd2 u++[(i:Int)+1]=ks2 at os ol
        simp only [newD]
        simp -implicitDefEqProofs (disch:=omega) only [Rx,simprocAttr,B19x0,k1,hg,GRow.pv,attrsPV,hob,ho,happ,hG,hob1,hG2,hob2,ho2,hix2,hue,rdu,hr,il,os,ol,hob3,ho3,hw]
      · by_cases e:h=u
        · subst e;simp [upd]
        · simp only;rw [upd_ne e];exact h32 h hh ks
      · have:=hB2.len;simp;omega
      · have:=hB2.len
        simp only
        rw [List.getElem?_set,if_neg (by omega),List.getElem?_set,if_neg (by omega)];exact hB2.keep j hj
      · simp only at hr'
        by_cases e:h=u
        · subst e
          rw [upd_at] at hr'
          simp only [refOf,Option.some.injEq] at hr'
          omega
        · rw [upd_ne e] at hr';exact hB2.refs h hh r' hr'
    · exact absurd hav (h32 u huL _)
  · right
    obtain rfl:i=l.length:=by omega
    have k1:¬ (l.length:Int)<(l.length:Int):=by omega
    refine ⟨_, ?_, ?_,av,g,rfl,hD,hB⟩
    · simp only [newD]
      simp -implicitDefEqProofs (disch:=omega) only [Rx,simprocAttr,B19x0,k1]
    · simp
theorem new20_run (nx:Int) (g:List AObj) (n:Nat):acall T (n+1) 49 [.p (.int .i64 nx)] g=some (DP (g.length+1),g++[.cells 7 [nAV 0 holder .nils]]++[.cells 2 [[.own true g.length 1,.p (.int .i64 nx)]]]):=by
 rw [acall_code T49,run_code rfl rfl]
 have e:(g++[AObj.cells 7 [nAV 0 holder .nils]]).length=g.length+1:=by simp
 simp only [nAV,holder,List.map_nil,Int.natCast_zero] at e ⊢
 simp -implicitDefEqProofs (disch:=omega) only [Rx,simprocAttr,F49,e]
theorem S0_live (l:List GRow):liveL (S0 l)=List.range (l.length+1):=by
  unfold liveL
  refine List.filter_eq_self.2 fun c hc => ?_
  have hc:=List.mem_range.1 hc
  simp only [S0] at hc ⊢
  cases c with
  | zero=>rfl
  | succ j =>
    obtain ⟨x,hx⟩:=get_some (show j<l.length by omega)
    simp [st0,hx,nodeOf]
theorem newR_run (l:List GRow) (hl:l.length≤1048576) (hs:standTo l l.length) (g:List AObj) {n:Nat} (hn:l.length<n) :
  ∃ av g',acall T (n+2) 19 [.p (.list (l.map GRow.pv))] g=some (DP (g.length+1),g')∧DM (liveL (S0 l)) (S0 l).st (S0 l).kd (S0 l).N av (g.length+1) g.length g'∧Behind g (liveL (S0 l)) av g':=by
 have hn20:=new20_run 1 g n
 have hr1:List.range 1=[0]:=rfl
 have hD0:DM (List.range 1) (st0 l) (kd0 l 0) 1 (fun _ => .nils) (g.length+1) g.length (g++[.cells 7 [nAV 0 holder .nils]]++[.cells 2 [[.own true g.length 1,.p (.int .i64 1)]]]):=by
  refine ⟨⟨?_,⟨.cells 7 [nAV 0 holder .nils], ?_,.inl rfl⟩,by omega,List.nodup_range⟩,fun h hh => ?_,fun h hh=>by simp [refOf],fun h h' hh hh' hne => .inl rfl⟩
  ·rw [List.getElem?_append_right (by simp)];simp
  ·rw [List.append_assoc,List.getElem?_append_right (Nat.le_refl _)];simp
  ·exact .none
 have hB0:Behind g (List.range 1) (fun _ => .nils) (g++[.cells 7 [nAV 0 holder .nils]]++[.cells 2 [[.own true g.length 1,.p (.int .i64 1)]]]):=⟨by simp <;> omega,fun j hj=>by rw [List.append_assoc,List.getElem?_append_left hj],fun h hh r hr=>by cases hr⟩
 obtain ⟨r,hr,av,g2,rfl,hD,hB⟩:=newD_loop (C:=acall T (n+1)) (N:=n+1) l hl hs (by omega) g _ _ (g.length+1) g.length hD0 (fun h hh ks=>by simp) hB0 (by omega) (by omega)
 have hpl:=(List.getElem?_eq_some_iff.1 hD.core.obj).1
 have hob:=hD.core.obj
 have hll:(List.range (l.length+1)).length=l.length+1:=by simp
 rw [hll] at hob
 refine ⟨av,g2.set (g.length+1) (.cells 2 [[.own true g.length (l.length+1),.p (.int .i64 ((l.length:Int)+1))]]), ?_, ?_, ?_⟩
 ·generalize g++[AObj.cells 7 [nAV 0 holder .nils]]++[.cells 2 [[.own true g.length 1,.p (.int .i64 1)]]]=g1 at hn20 hr
  have ll:(l.map GRow.pv).length=l.length:=by simp
  simp only [newD,Int.natCast_zero] at hr
  rw [acall_code T19,run_code rfl rfl]
  simp -implicitDefEqProofs (disch:=omega) only [Rx,simprocAttr,F19,hn20,hr,hob,ll]
 ·rw [S0_live]
  have hne:=hD.core.pq
  refine ⟨⟨?_, ?_,hne,hD.core.nodup⟩,fun h hh=>(hD.kids h hh).keep fun r hr => ?_,hD.away,hD.disj⟩
  ·rw [List.getElem?_set,if_pos rfl,if_pos hpl,hll];simp [S0]
  ·obtain ⟨o,h1,h2⟩:=hD.core.row
   exact ⟨o,by rw [List.getElem?_set,if_neg hne];exact h1,h2⟩
  ·rw [List.getElem?_set,if_neg (fun e=>(hD.away h hh).1 (by rw [e];exact hr))]
 ·rw [S0_live]
  refine ⟨by simpa using hB.len,fun j hj => ?_,hB.refs⟩
  rw [List.getElem?_set,if_neg (by omega)];exact hB.keep j hj
end Tryz
end Go.TA


end
section
/- The rows of all below a node. Plain. -/
namespace Go.TA
def rowM (S:MS) (k up:Int):GRow:=⟨k,up,(S.st k.toNat).tag,(S.st k.toNat).key,(S.st k.toNat).text,(S.st k.toNat).attrs⟩
def belowM (S:MS):Nat→List GRow→Int→Int→List GRow
 | 0,out,_,_=>out
 | d+1,out,h,up=>(S.kd h.toNat).foldl (fun out k=>belowM S d (out++[rowM S k up]) k ((out.length:Int)+1)) out
def stepM (S:MS) (d:Nat) (up:Int) (out:List GRow) (k:Int):List GRow:=belowM S d (out++[rowM S k up]) k ((out.length:Int)+1)
def outI (S:MS) (d:Nat) (out:List GRow) (h:Nat) (up:Int) (i:Nat):List GRow:=((S.kd h).take i).foldl (stepM S d up) out
theorem outI_zero (S:MS) (d:Nat) (out:List GRow) (h:Nat) (up:Int):outI S d out h up 0=out:=rfl
theorem outI_succ {S:MS} {d:Nat} {out:List GRow} {h:Nat} {up:Int} {i:Nat} {k:Int} (hk:(S.kd h)[i]? = some k):outI S d out h up (i+1)=belowM S d (outI S d out h up i++[rowM S k up]) k (((outI S d out h up i).length:Int)+1):=by
 unfold outI
 rw [List.take_add_one,hk,List.foldl_append]
 rfl
theorem outI_all (S:MS) (d:Nat) (out:List GRow) (h:Nat) (up:Int):outI S d out h up (S.kd h).length=belowM S (d+1) out (h:Int) up:=by
 unfold outI
 rw [List.take_length,belowM,Int.toNat_natCast]
 rfl
structure PreO (S:MS) (out:List GRow) (h:Nat):Prop where
 nodup:(out.map GRow.id).Nodup
 rng:∀ x ∈ out,∃ c:Nat,x.id=(c:Int)∧c<S.N
 away:∀ x ∈ out,∀ c:Nat,x.id=(c:Int)→c≠h→¬ Below S (h:Int) (c:Int)
structure PostO (S:MS) (out:List GRow) (h:Nat) (out':List GRow):Prop where
 nodup:(out'.map GRow.id).Nodup
 rng:∀ x ∈ out',∃ c:Nat,x.id=(c:Int)∧c<S.N
 more:∃ more,out'=out++more∧∀ x ∈ more,∃ c:Nat,x.id=(c:Int)∧c<S.N∧c≠h∧Below S (h:Int) (c:Int)
theorem PostO.len {S:MS} {out out':List GRow} {h:Nat} (p:PostO S out h out'):out'.length≤S.N:=by
 have:=nodup_len S.N (out'.map GRow.id) p.nodup (fun k hk=>by
  obtain ⟨x,hx,rfl⟩:=List.mem_map.1 hk
  exact p.rng x hx)
 rwa [List.length_map] at this
section
variable {R:Nat} {S:MS} (hS:S.Ok R)
include hS
theorem kid_strict {h c:Nat} (hc:c<S.N) (hu:(S.st c).up=(h:Int)):c≠h:=by
 obtain ⟨r,_,hr⟩:=hS.rank
 have:=hr c h hc hu
 intro e;subst e;omega
theorem kid_pre {out : List GRow} {h i : Nat} {out1 : List GRow} {c : Nat} (up : Int) (hh : h < S.N) (hp : PreO S out h) (h1 : PostO S out h out1) (hm : ∀ more, out1 = out ++ more → ∀ x ∈ more, ∃ j, j < i ∧ ∃ k, (S.kd h)[j]? = some k ∧ Below S k x.id) (hk : (S.kd h)[i]? = some (c : Int)) (hc : c < S.N) (hu : (S.st c).up = (h : Int)) : PreO S (out1 ++ [rowM S (c : Int) up]) c := by
  have hkm:=List.mem_of_getElem? hk
  obtain ⟨more,hmore,hmo⟩:=h1.more
  have hst:=kid_strict hS hc hu
  have hmm:=hm more hmore
  have hkb:∀ y:Int,Below S (c:Int) y→Below S (h:Int) y:=fun y hb=>kid_below hS hh hkm hb
  have hap:∀ x ∈ more,¬ Below S (c:Int) x.id:=fun x hx hb=>by
    obtain ⟨j,hj,k,hk',hb'⟩:=hmm x hx
    have:=kids_apart hS hh hkm (List.mem_of_getElem? hk') hb hb'
    subst this
    have hjl:=(List.getElem?_eq_some_iff.1 hk').1
    have:=(List.getElem?_inj hjl (hS.nodup h hh)).1 (hk'.trans hk.symm)
    omega
  refine ⟨?_, ?_, ?_⟩
  · rw [List.map_append,List.nodup_append]
    refine ⟨h1.nodup,by simp,fun a ha b hb => ?_⟩
    simp only [List.map_cons,List.map_nil,List.mem_singleton,rowM] at hb
    subst hb
    obtain ⟨x,hx,rfl⟩:=List.mem_map.1 ha
    intro e
    rw [hmore] at hx
    rcases List.mem_append.1 hx with hx | hx
    · exact hp.away x hx c e hst (hkb _ .here)
    · exact hap x hx (by rw [e];exact .here)
  · intro x hx
    rcases List.mem_append.1 hx with hx | hx
    · exact h1.rng x hx
    · simp at hx;subst hx;exact ⟨c,rfl,hc⟩
  · intro x hx y hy hne hb
    rcases List.mem_append.1 hx with hx | hx
    · rw [hmore] at hx
      rcases List.mem_append.1 hx with hx | hx
      · refine hp.away x hx y hy (fun e => ?_) (hkb _ hb)
        subst e
        obtain ⟨r,_,hr⟩:=hS.rank
        have:=below_rank hS hr hb y rfl hh
        have:=hr c y hc hu
        omega
      · exact hap x hx (by rw [hy];exact hb)
    · simp at hx
      subst hx
      simp only [rowM] at hy
      omega
theorem post_of {out : List GRow} {d h i : Nat} {up : Int} (hh : h < S.N) (hp : PreO S out h) (hi : i < (S.kd h).length)
    (ih:PostO S out h (outI S d out h up i)∧∀ more,outI S d out h up i=out++more→∀ x ∈ more,∃ j,j<i∧∃ k,(S.kd h)[j]? = some k∧Below S k x.id)
    (hb:∀ (out:List GRow) (c:Nat) (up:Int),c<S.N→PreO S out c→PostO S out c (belowM S d out (c:Int) up)) :
    PostO S out h (outI S d out h up (i+1))∧∀ more,outI S d out h up (i+1)=out++more→∀ x ∈ more,∃ j,j<i+1∧∃ k,(S.kd h)[j]? = some k∧Below S k x.id:=by
  obtain ⟨h1,h2⟩:=ih
  obtain ⟨k,hk⟩:∃ k,(S.kd h)[i]? = some k:=⟨_,List.getElem?_eq_getElem (by omega)⟩
  have hkm:=List.mem_of_getElem? hk
  obtain ⟨c,rfl,hc,_,hu⟩:=hS.kids h hh k hkm
  have hpre:=kid_pre hS up hh hp h1 h2 hk hc hu
  have hpost:=hb _ c (((outI S d out h up i).length:Int)+1) hc hpre
  rw [← outI_succ hk] at hpost
  obtain ⟨more1,e1,m1⟩:=h1.more
  obtain ⟨more2,e2,m2⟩:=hpost.more
  have e3:outI S d out h up (i+1)=out++(more1++[rowM S (c:Int) up]++more2):=by rw [e2,e1];simp
  have hstr:=kid_strict hS hc hu
  refine ⟨⟨hpost.nodup,hpost.rng,_,e3,fun x hx => ?_⟩,fun more hm x hx => ?_⟩
  · rcases List.mem_append.1 hx with hx | hx
    · rcases List.mem_append.1 hx with hx | hx
      · exact m1 x hx
      · simp at hx;subst hx
        exact ⟨c,rfl,hc,hstr,kid_below hS hh hkm .here⟩
    · obtain ⟨y,hy,hyN,_,hyb⟩:=m2 x hx
      refine ⟨y,hy,hyN,fun e => ?_,kid_below hS hh hkm hyb⟩
      subst e
      obtain ⟨r,_,hr⟩:=hS.rank
      have:=below_rank hS hr hyb y rfl hh
      have:=hr c y hc hu
      omega
  · have:more=more1++[rowM S (c:Int) up]++more2:=by
      rw [e3] at hm
      exact (List.append_cancel_left hm).symm
    subst this
    rcases List.mem_append.1 hx with hx | hx
    · rcases List.mem_append.1 hx with hx | hx
      · obtain ⟨j,hj,r⟩:=h2 more1 e1 x hx
        exact ⟨j,by omega,r⟩
      · simp at hx;subst hx
        exact ⟨i,by omega,_,hk,.here⟩
    · obtain ⟨y,hy,_,_,hyb⟩:=m2 x hx
      exact ⟨i,by omega,_,hk,by rw [hy];exact hyb⟩
theorem post_zero {out:List GRow} {d h:Nat} {up:Int} (hp:PreO S out h):PostO S out h (outI S d out h up 0)∧∀ more,outI S d out h up 0=out++more→∀ x ∈ more,∃ j,j<0∧∃ k,(S.kd h)[j]? = some k∧Below S k x.id:=by
 have _:=hS
 refine ⟨⟨hp.nodup,hp.rng,[],by simp [outI_zero],by simp⟩,fun more hm x hx => ?_⟩
 rw [outI_zero] at hm
 have:more=[]:=by simpa using hm
 subst this;simp at hx
theorem below_post:∀ (d:Nat) (out:List GRow) (h:Nat) (up:Int),h<S.N→PreO S out h→PostO S out h (belowM S d out (h:Int) up)
  | 0,out,h,up,hh,hp=>⟨hp.nodup,hp.rng,[],by simp [belowM],by simp⟩
  | d + 1, out, h, up, hh, hp => by
    rw [← outI_all]
    have key:∀ i,i≤(S.kd h).length→PostO S out h (outI S d out h up i)∧∀ more,outI S d out h up i=out++more→∀ x ∈ more,∃ j,j<i∧∃ k,(S.kd h)[j]? = some k∧Below S k x.id:=by
      intro i
      induction i with
      | zero=>exact fun _=>post_zero hS hp
      | succ i ih=>exact fun hi=>post_of hS hh hp (by omega) (ih (by omega)) (fun out c up hc hp=>below_post d out c up hc hp)
    exact (key _ (Nat.le_refl _)).1
theorem post_all {out:List GRow} {d h:Nat} {up:Int} (hh:h<S.N) (hp:PreO S out h):∀ i,i≤(S.kd h).length→PostO S out h (outI S d out h up i)∧∀ more,outI S d out h up i=out++more→∀ x ∈ more,∃ j,j<i∧∃ k,(S.kd h)[j]? = some k∧Below S k x.id:=by
 intro i
 induction i with
 | zero=>exact fun _=>post_zero hS hp
 | succ i ih=>exact fun hi=>post_of hS hh hp (by omega) (ih (by omega)) (fun out c up hc hp=>below_post hS d out c up hc hp)
end
end Go.TA


end
section
/- A machine's rows, and its loose nodes. Plain. -/
namespace Go.TA
def rowsM (S:MS) (R:Nat):List GRow:=belowM S (R+1) [] 0 0
theorem pre_nil {S:MS}:PreO S [] 0:=⟨by simp,by simp,by simp⟩
theorem rowsM_len {R:Nat} {S:MS} (hS:S.Ok R) (R':Nat):(rowsM S R').length≤S.N:=(below_post hS (R'+1) [] 0 0 hS.pos pre_nil).len
def looseM (S:MS):List Int:=((liveL S).filter fun h:Nat => !(h==0) && decide ((S.st h).up<0)).map fun h:Nat=>(h:Int)
end Go.TA


end
section
/- A machine and the document's answer beside each other in memory. Plain. -/
namespace Go.TA
structure Both (S:MS) (g:List AObj) (av:Nat→AV) (rest:List AObj) (avD:Nat→AV) (p q:Nat):Prop where
 is:g=machG S.N S.st av rest
 mok:MOk S.N av S.kd rest
 dm:DM (liveL S) S.st S.kd S.N avD p q g
 p2:2≤p
 q2:2≤q
 refs2:∀ h,h ∈ liveL S→∀ r,refOf (avD h)=some r→2≤r
 apart:∀ h,h<S.N→∀ r,refOf (av h)=some r→r≠p∧r≠q∧∀ h',h' ∈ liveL S→refOf (avD h')≠some r
theorem DM.onto {L:List Nat} {st:Nat→MNode} {kd:Nat→List Int} {nx:Int} {av:Nat→AV} {p q:Nat} {g g':List AObj} (h:DM L st kd nx av p q g) (hp:g'[p]? = g[p]?) (hq:g'[q]? = g[q]?) (hr:∀ k,k ∈ L→∀ r,refOf (av k)=some r→g'[r]? = g[r]?):DM L st kd nx av p q g' where
 core:=⟨by rw [hp];exact h.core.obj,by rw [hq];exact h.core.row,h.core.pq,h.core.nodup⟩
 kids k hk:=(h.kids k hk).keep fun r e=>hr k hk r e
 away:=h.away
 disj:=h.disj
theorem DM.p_lt {L:List Nat} {st:Nat→MNode} {kd:Nat→List Int} {nx:Int} {av:Nat→AV} {p q:Nat} {g:List AObj} (h:DM L st kd nx av p q g):p<g.length:=(List.getElem?_eq_some_iff.1 h.core.obj).1
theorem DM.q_lt {L:List Nat} {st:Nat→MNode} {kd:Nat→List Int} {nx:Int} {av:Nat→AV} {p q:Nat} {g:List AObj} (h:DM L st kd nx av p q g):q<g.length:=by
 obtain ⟨o,ho,_⟩:=h.core.row
 exact (List.getElem?_eq_some_iff.1 ho).1
theorem Both.mach {S:MS} {g:List AObj} {av:Nat→AV} {rest:List AObj} {avD:Nat→AV} {p q:Nat} (h:Both S g av rest avD p q) {N':Nat} {st':Nat→MNode} {av':Nat→AV} {rest':List AObj} (hf:Fr S.N av rest N' av' rest'):DM (liveL S) S.st S.kd S.N avD p q (machG N' st' av' rest'):=by
 have hg:g.length=rest.length+2:=by rw [h.is];simp [machG]
 have key:∀ j,2≤j→j<g.length→(∀ k,k<S.N→refOf (av k)≠some j)→(machG N' st' av' rest')[j]? = g[j]? := fun j h2 hj hn=>by
  obtain ⟨i,rfl⟩:∃ i,j=i+1+1:=⟨j - 2,by omega⟩
  rw [h.is]
  simp only [machG,List.getElem?_cons_succ]
  exact hf.keep i (by omega) hn
 refine h.dm.onto (key p h.p2 h.dm.p_lt fun k hk e=>(h.apart k hk p e).1 rfl) (key q h.q2 h.dm.q_lt fun k hk e=>(h.apart k hk q e).2.1 rfl) fun k hk r hr=>key r (h.refs2 k hk r hr) ((h.dm.kids k hk).ref_lt hr) fun c hc e=>(h.apart c hc r e).2.2 k hk hr
theorem mach_of {A B:AObj} {g:List AObj} (h0:g[0]? = some A) (h1:g[1]? = some B):g=A::B::g.drop 2:=by
  match g,h0,h1 with
  | a :: b :: r, h0, h1 =>
    simp only [List.getElem?_cons_zero,List.getElem?_cons_succ,Option.some.injEq] at h0 h1
    simp [h0,h1]
theorem Both.step {S S' : MS} {g : List AObj} {av : Nat → AV} {rest : List AObj} {avD : Nat → AV} {p q : Nat} (h : Both S g av rest avD p q) {av' : Nat → AV} {rest' : List AObj} (hf : Fr S.N av rest S'.N av' rest') (hm : MOk S'.N av' S'.kd rest') {avD' : Nat → AV} {q' : Nat} {g' : List AObj} (hd : DM (liveL S') S'.st S'.kd S'.N avD' p q' g') (hfd : DFr (liveL S) avD p q (machG S'.N S'.st av' rest') (liveL S') avD' q' g') :
    ∃ rest2,Both S' g' av' rest2 avD' p q':=by
  have hg:g.length=rest.length+2:=by rw [h.is];simp [machG]
  have hlen:(machG S'.N S'.st av' rest').length=rest'.length+2:=by simp [machG]
  have hlr:=hf.len
  have hap:∀ k,k<S'.N→∀ r,refOf (av' k)=some r→r≠p∧r≠q∧(∀ h',h' ∈ liveL S→refOf (avD h')≠some r)∧r<rest'.length+2:=fun k hk r hr=>by
    have hlt:=(hm.kids k hk).ref_lt hr
    have h2:2≤r:=by
      rcases (hm.kids k hk).inv with ⟨e,_⟩ | ⟨i,e,_⟩ | e
      · rw [e] at hr;cases hr
      · rw [e] at hr;simp only [refOf,Option.some.injEq] at hr;omega
      · rw [e] at hr;cases hr
    obtain ⟨i,rfl⟩:∃ i,r=i+1+1:=⟨r - 2,by omega⟩
    by_cases hi:i<rest.length
    · obtain ⟨k0,hk0,e0⟩:=hf.refs k hk i hr hi
      obtain ⟨a1,a2,a3⟩:=h.apart k0 hk0 _ e0
      exact ⟨a1,a2,a3,by omega⟩
    · have hp:=h.dm.p_lt
      have hq:=h.dm.q_lt
      refine ⟨by omega,by omega,fun h' hh' e => ?_,by omega⟩
      have:=(h.dm.kids h' hh').ref_lt e
      omega
  have keep:∀ j,j<rest'.length+2→j≠p→j≠q→(∀ h',h' ∈ liveL S→refOf (avD h')≠some j)→g'[j]? = (machG S'.N S'.st av' rest')[j]? := fun j hj=>hfd.keep j (by omega)
  have hp2:=h.p2
  have hq2:=h.q2
  have e0:g'[0]? = some (.cells 7 (rowsAV S'.N S'.st av')):=by
    rw [keep 0 (by omega) (by omega) (by omega) fun h' hh' e=>by have:=h.refs2 h' hh' 0 e;omega];rfl
  have e1:g'[1]? = some (.cells 1 [[.own true 0 S'.N]]):=by
    rw [keep 1 (by omega) (by omega) (by omega) fun h' hh' e=>by have:=h.refs2 h' hh' 1 e;omega];rfl
  have his:=mach_of e0 e1
  refine ⟨g'.drop 2,his,⟨fun k hk => ?_,hm.disj⟩,hd,h.p2, ?_,fun k hk r hr => ?_,fun k hk r hr => ?_⟩
  · rcases (hm.kids k hk).inv with ⟨e,e2⟩ | ⟨i,e,hi⟩ | e
    · rw [e,e2];exact .none
    · have hr:refOf (av' k)=some (i+1+1):=by rw [e];rfl
      obtain ⟨a1,a2,a3,a4⟩:=hap k hk _ hr
      rw [e]
      refine .own ?_
      rw [List.getElem?_drop,show 2+i=i+1+1 by omega,keep _ a4 a1 a2 a3]
      simpa [machG] using hi
    · rw [e];exact .list
  · rcases hfd.row with e | e
    · omega
    · omega
  · by_cases hlt:r<(machG S'.N S'.st av' rest').length
    · obtain ⟨k0,hk0,e⟩:=hfd.refs k hk r hr hlt
      exact h.refs2 k0 hk0 r e
    · omega
  · obtain ⟨a1,a2,a3,a4⟩:=hap k hk r hr
    refine ⟨a1, ?_,fun h' hh' e => ?_⟩
    · rcases hfd.row with e | e <;> omega
    · by_cases hlt:r<(machG S'.N S'.st av' rest').length
      · obtain ⟨k0,hk0,e2⟩:=hfd.refs h' hh' r e hlt
        exact a3 k0 hk0 e2
      · omega
theorem Both.more {S:MS} {g:List AObj} {av:Nat→AV} {rest:List AObj} {avD:Nat→AV} {p q:Nat} (h:Both S g av rest avD p q) (X:List AObj):Both S (g++X) av (rest++X) avD p q where
 is:=by rw [h.is];simp [machG]
 mok:=⟨fun k hk=>(h.mok.kids k hk).more _,h.mok.disj⟩
 dm:=h.dm.onto (List.getElem?_append_left h.dm.p_lt) (List.getElem?_append_left h.dm.q_lt) fun k hk r hr=>List.getElem?_append_left ((h.dm.kids k hk).ref_lt hr)
 p2:=h.p2
 q2:=h.q2
 refs2:=h.refs2
 apart:=h.apart
theorem Both.start {S:MS} {av:Nat→AV} {rest:List AObj} (hm:MOk S.N av S.kd rest) {avD:Nat→AV} {g':List AObj} (hd:DM (liveL S) S.st S.kd S.N avD ((machG S.N S.st av rest).length+1) (machG S.N S.st av rest).length g') (hb:Behind (machG S.N S.st av rest) (liveL S) avD g'):∃ rest2,Both S g' av rest2 avD ((machG S.N S.st av rest).length+1) (machG S.N S.st av rest).length:=by
 have hlen:(machG S.N S.st av rest).length=rest.length+2:=by simp [machG]
 have e0:g'[0]? = some (.cells 7 (rowsAV S.N S.st av)):=by rw [hb.keep 0 (by omega)];rfl
 have e1:g'[1]? = some (.cells 1 [[.own true 0 S.N]]):=by rw [hb.keep 1 (by omega)];rfl
 refine ⟨g'.drop 2,mach_of e0 e1,⟨fun k hk => ?_,hm.disj⟩,hd,by omega,by omega,fun k hk r hr => ?_,fun k hk r hr => ?_⟩
 ·rcases (hm.kids k hk).inv with ⟨e,e2⟩ | ⟨i,e,hi⟩ | e
  ·rw [e,e2];exact .none
  ·have hil:=(List.getElem?_eq_some_iff.1 hi).1
   rw [e]
   refine .own ?_
   rw [List.getElem?_drop,show 2+i=i+1+1 by omega,hb.keep _ (by omega)]
   simpa [machG] using hi
  ·rw [e];exact .list
 ·have:=hb.refs k hk r hr;omega
 ·have:=(hm.kids k hk).ref_lt hr
  refine ⟨by omega,by omega,fun h' hh' e => ?_⟩
  have:=hb.refs h' hh' r e
  omega
end Go.TA


end
section
/- Rows, and numbers, held against themselves. -/
set_option maxRecDepth 100000
set_option maxHeartbeats 8000000
namespace Go.TA.Tryz
theorem attrsEq_run (l:List Attr) (hl:l.length≤4194304) (g:List AObj) {n:Nat} (hn:l.length<n):acall T (n+1) 60 [.p (.list (l.map Attr.pv)),.p (.list (l.map Attr.pv))] g=some (.p (.bool true),g):=by
 have ll:(l.map Attr.pv).length=l.length:=by simp
 have hl:=loop_rule' (C:=acall T n) (N:=n) (B:=B60x0) (σ := Nat) (S:=fun i=>⟨[(0,.p (.list (l.map Attr.pv))),(1,.p (.list (l.map Attr.pv))),(12,.p (.int .i64 l.length)),(13,.p (.int .i64 i))],[],[]⟩) (I:=fun i=>i≤l.length) (μ := fun i=>l.length - i) (Φ := fun i=>(.exit 0,⟨[],[],[]⟩)) ?_ 0 (by omega) (by omega)
 ·rw [acall_code T60,run_pure rfl rfl rfl]
  simp only [Int.natCast_zero] at hl
  simp -implicitDefEqProofs (disch:=omega) only [Rx,simprocAttr,F60,hl,ll]
 intro i hi
 by_cases h:i<l.length
 ·left
  obtain ⟨x,hx⟩:=get_some h
  have hg:=getD_map (f:=Attr.pv) hx
  have k1:(i:Int)<(l.length:Int):=by omega
  refine ⟨i+1, ?_,by omega,by omega,rfl⟩
  simp -implicitDefEqProofs (disch:=omega) only [Rx,simprocAttr,B60x0,k1,ll,hg,Attr.pv,Bool.and_self]
 ·right
  obtain rfl:i=l.length:=by omega
  have k1:¬ (l.length:Int)<(l.length:Int):=by omega
  refine ⟨?_,by simp⟩
  simp -implicitDefEqProofs (disch:=omega) only [Rx,simprocAttr,B60x0,k1]
theorem shapesEq_run (l:List GRow) (hl:l.length≤8589934592) (ha:∀ x ∈ l,x.attrs.length≤4194304) (g:List AObj) {n:Nat} (hn:l.length<n) (hn2:4194304<n):acall T (n+2) 34 [.p (.list (l.map GRow.pv)),.p (.list (l.map GRow.pv))] g=some (.p (.bool true),g):=by
 have ll:(l.map GRow.pv).length=l.length:=by simp
 have hl:=loop_rule' (C:=acall T (n+1)) (N:=n+1) (B:=B34x0) (σ := Nat) (S:=fun i=>⟨[(0,.p (.list (l.map GRow.pv))),(1,.p (.list (l.map GRow.pv))),(14,.p (.int .i64 l.length)),(15,.p (.int .i64 i))],[],[]⟩) (I:=fun i=>i≤l.length) (μ := fun i=>l.length - i) (Φ := fun i=>(.exit 0,⟨[],[],[]⟩)) ?_ 0 (by omega) (by omega)
 ·rw [acall_code T34,run_pure rfl rfl rfl]
  simp only [Int.natCast_zero] at hl
  simp -implicitDefEqProofs (disch:=omega) only [Rx,simprocAttr,F34,hl,ll]
 intro i hi
 by_cases h:i<l.length
 ·left
  obtain ⟨x,hx⟩:=get_some h
  have hg:=getD_map (f:=GRow.pv) hx
  have k1:(i:Int)<(l.length:Int):=by omega
  have hat:=fun g=>attrsEq_run x.attrs (ha x (List.mem_of_getElem? hx)) g (n:=n) (by have:=ha x (List.mem_of_getElem? hx);omega)
  refine ⟨i+1, ?_,by omega,by omega,rfl⟩
  simp -implicitDefEqProofs (disch:=omega) only [Rx,simprocAttr,B34x0,k1,ll,hg,GRow.pv,attrsPV,hat]
 ·right
  obtain rfl:i=l.length:=by omega
  have k1:¬ (l.length:Int)<(l.length:Int):=by omega
  refine ⟨?_,by simp⟩
  simp -implicitDefEqProofs (disch:=omega) only [Rx,simprocAttr,B34x0,k1]
theorem rowsEq_run (l:List GRow) (hl:l.length≤8589934592) (ha:∀ x ∈ l,x.attrs.length≤4194304) (g:List AObj) {n:Nat} (hn:l.length<n) (hn2:4194304<n):acall T (n+3) 21 [.p (.list (l.map GRow.pv)),.p (.list (l.map GRow.pv))] g=some (.p (.bool true),g):=by
 have ll:(l.map GRow.pv).length=l.length:=by simp
 have hsh:=fun g=>shapesEq_run l hl ha g (n:=n) hn hn2
 have hl:=loop_rule' (C:=acall T (n+2)) (N:=n+2) (B:=B21x0) (σ := Nat) (S:=fun i=>⟨[(0,.p (.list (l.map GRow.pv))),(1,.p (.list (l.map GRow.pv))),(12,.p (.int .i64 l.length)),(13,.p (.int .i64 i))],[],[]⟩) (I:=fun i=>i≤l.length) (μ := fun i=>l.length - i) (Φ := fun i=>(.exit 0,⟨[(0,.p (.list (l.map GRow.pv))),(1,.p (.list (l.map GRow.pv)))],[],[]⟩)) ?_ 0 (by omega) (by omega)
 ·rw [acall_code T21,run_pure rfl rfl rfl]
  simp only [Int.natCast_zero] at hl
  simp -implicitDefEqProofs (disch:=omega) only [Rx,simprocAttr,F21,hl,ll,hsh]
 intro i hi
 by_cases h:i<l.length
 ·left
  obtain ⟨x,hx⟩:=get_some h
  have hg:=getD_map (f:=GRow.pv) hx
  have k1:(i:Int)<(l.length:Int):=by omega
  refine ⟨i+1, ?_,by omega,by omega,rfl⟩
  simp -implicitDefEqProofs (disch:=omega) only [Rx,simprocAttr,B21x0,k1,ll,hg,GRow.pv]
 ·right
  obtain rfl:i=l.length:=by omega
  have k1:¬ (l.length:Int)<(l.length:Int):=by omega
  refine ⟨?_,by simp⟩
  simp -implicitDefEqProofs (disch:=omega) only [Rx,simprocAttr,B21x0,k1]
end Go.TA.Tryz


end
section
/- The document's answer: its rows, its loose nodes. -/
set_option maxRecDepth 100000
set_option maxHeartbeats 8000000
namespace Go.TA
namespace Tryz
section
variable {R:Nat} {S:MS} {nx:Int} {av:Nat→AV} {p q:Nat} {g:List AObj}
theorem bel_body (hS : S.Ok R) (hN : S.N ≤ 8589934592) (hD : DM (liveL S) S.st S.kd nx av p q g) (hL : (liveL S).length ≤ 4194304) (m : Nat) (hm : (liveL S).length + 1 < m) (d h : Nat) (up : Int) (out : List GRow) (hh : h ∈ liveL S) (hp : PreO S out h) (hol : out.length ≤ S.N)
    (ih:∀ c:Nat,c ∈ liveL S→(S.st c).up=(h:Int)→∀ (out:List GRow) (up:Int),out.length≤S.N→PreO S out c→acall T m 50 [DP p,.own true g.length out.length,.p (.int .i64 c),.p (.int .i64 up)] (g++[.pcells 6 (out.map GRow.pv)])=some (.own true g.length (belowM S d out (c:Int) up).length,g++[.pcells 6 ((belowM S d out (c:Int) up).map GRow.pv)])) :
    acall T (m+1) 50 [DP p,.own true g.length out.length,.p (.int .i64 h),.p (.int .i64 up)] (g++[.pcells 6 (out.map GRow.pv)])=some (.own true g.length (belowM S (d+1) out (h:Int) up).length,g++[.pcells 6 ((belowM S (d+1) out (h:Int) up).map GRow.pv)]):=by
  have hhN:=(mem_liveL.1 hh).1
  have hK:=hD.kids h hh
  have hkl:=kd_len hS hhN
  have hDX:=fun X=>hD.core.more [X]
  obtain ⟨o,ho,hrep⟩:=hD.core.row
  have hpl:=(List.getElem?_eq_some_iff.1 hD.core.obj).1
  have hql:=(List.getElem?_eq_some_iff.1 ho).1
  have hob:∀ X,(g++[X])[p]? = some (.cells 2 [[.own true q (liveL S).length,.p (.int .i64 nx)]]):=fun X=>by rw [List.getElem?_append_left hpl];exact hD.core.obj
  have hoX:∀ X,(g++[X])[q]? = some o:=fun X=>by rw [List.getElem?_append_left hql];exact ho
  have hlast:∀ X,(g++[X])[g.length]? = some X:=fun X=>by simp
  have hsetX:∀ X Y,(g++[X]).set g.length Y=g++[Y]:=fun X Y=>by simp [List.set_append]
  have hix:=fun s i=>hrep.idx rowsD_len s true q i
  have hatX:=fun X id=>at_run (hDX X) hL id (n:=m - 1) (by omega)
  rw [show m - 1+1=m by omega] at hatX
  have il:=intsPV_len (S.kd h)
  obtain ⟨ih0,hph,hih⟩:=posL_in hh
  have lh:=(List.getElem?_eq_some_iff.1 hih).1
  have kh:(ih0:Int)<((liveL S).length:Int):=by omega
  have rdh:=rd_node hrep hih (j:=2) (by omega)
  simp only [nAV] at rdh
  have hath:=fun X=>hatX X (h:Int)
  simp only [hph] at hath
  have hinv:=post_all hS (d:=d) (up:=up) hhN hp
  have hloop:aexec (acall T m) m (.loop B50x0) ⟨[(0,DP p),(1,.own true g.length out.length),(3,.p (.int .i64 up)),(9,av h),(23,.p (.int .i64 (S.kd h).length)),(24,.p (.int .i64 0))],[],g++[.pcells 6 (out.map GRow.pv)]⟩=some (.exit 0,⟨[(1,.own true g.length (belowM S (d+1) out (h:Int) up).length)],[],g++[.pcells 6 ((belowM S (d+1) out (h:Int) up).map GRow.pv)]⟩):=by
    have key:=loop_inv (C:=acall T m) (N:=m) (B:=B50x0) (σ := Nat) (S:=fun i=>⟨[(0,DP p),(1,.own true g.length (outI S d out h up i).length),(3,.p (.int .i64 up)),(9,av h),(23,.p (.int .i64 (S.kd h).length)),(24,.p (.int .i64 i))],[],g++[.pcells 6 ((outI S d out h up i).map GRow.pv)]⟩)
      (I:=fun i=>i≤(S.kd h).length) (μ := fun i=>(S.kd h).length - i) (Q:=fun z=>z=(.exit 0,⟨[(1,.own true g.length (belowM S (d+1) out (h:Int) up).length)],[],g++[.pcells 6 ((belowM S (d+1) out (h:Int) up).map GRow.pv)]⟩)) ?_ 0 (by omega) (by omega)
    · obtain ⟨z,hz,rfl⟩:=key
      rw [outI_zero] at hz
      exact hz
    intro i hi
    by_cases hil:i<(S.kd h).length
    · left
      obtain ⟨k,hk⟩:∃ k,(S.kd h)[i]? = some k:=⟨_,List.getElem?_eq_getElem hil⟩
      have hkm:=List.mem_of_getElem? hk
      obtain ⟨c,rfl,hc,hcl,hcu⟩:=hS.kids h hhN k hkm
      have hcL:c ∈ liveL S:=mem_liveL.2 ⟨hc,hcl⟩
      obtain ⟨hpo,hpm⟩:=hinv i hi
      have hpre:=kid_pre hS up hhN hp hpo hpm hk hc hcu
      have hol1:=hpo.len
      have ho1:=outI_succ (S:=S) (d:=d) (out:=out) (up:=up) hk
      have hol2:(outI S d out h up i++[rowM S (c:Int) up]).length≤S.N:=by
        have:=nodup_len S.N _ hpre.nodup (fun k hk=>by
          obtain ⟨x,hx,rfl⟩:=List.mem_map.1 hk
          exact hpre.rng x hx)
        rwa [List.length_map] at this
      have ihc:=ih c hcL hcu _ (((outI S d out h up i).length:Int)+1) hol2 hpre
      rw [← ho1] at ihc
      refine ⟨i+1, ?_,by omega,by omega⟩
      generalize outI S d out h up i=o1 at hol1 hol2 ihc ⊢
      generalize outI S d out h up (i+1)=o2 at ihc ⊢
      have k2:(i:Int)<((S.kd h).length:Int):=by omega
      have hg:=intsPV_get hk
      obtain ⟨ic,hpc,hic⟩:=posL_in hcL
      have lc:=(List.getElem?_eq_some_iff.1 hic).1
      have kc:(ic:Int)<((liveL S).length:Int):=by omega
      have hatc:=fun X=>hatX X (c:Int)
      simp only [hpc] at hatc
      have rdA:=hrep.rdA rowsD_len lc (rowsD_get hic) rfl
      have os:o1.map GRow.pv++[[.int .i64 (c:Int),.int .i64 up,.str (S.st c).tag,.str (S.st c).key,.str (S.st c).text,.list ((S.st c).attrs.map Attr.pv)]]=(o1++[rowM S (c:Int) up]).map GRow.pv:=by
        rw [List.map_append];rfl
      have ol1:(o1.map GRow.pv).length=o1.length:=by simp
      have ol2:(o1++[rowM S (c:Int) up]).length=o1.length+1:=by simp
      rw [ol2] at ihc
      have ol3:((o1++[rowM S (c:Int) up]).map GRow.pv).length=o1.length+1:=by simp
      generalize o1++[rowM S (c:Int) up]=o3 at os ihc ol3
      have hKc:=hD.kids c hcL
      rcases hK.inv with ⟨_,hk0⟩ | ⟨r,hav,hr⟩ | hav
      · rw [hk0] at hil;simp at hil
      · have hrl:=(List.getElem?_eq_some_iff.1 hr).1
        have hrX:∀ X,(g++[X])[r]? = some (.pcells 1 (intsPV (S.kd h))):=fun X=>by rw [List.getElem?_append_left hrl];exact hr
        rcases hKc.inv with ⟨hav2,_⟩ | ⟨r2,hav2,_⟩ | hav2
        all_goals
          simp only [nAV,hav2] at rdA
          simp only [hav]
          simp -implicitDefEqProofs (disch:=omega) only [Rx,simprocAttr,sameG_self,B50x0,k2,hg,il,hob,hoX,hrX,hlast,hsetX,hix,hatc,rdA,ofCells,PV.sameLL_self,os,ol1,ol3,ihc]
      · rcases hKc.inv with ⟨hav2,_⟩ | ⟨r2,hav2,_⟩ | hav2
        all_goals
          simp only [nAV,hav2] at rdA
          simp only [hav]
          simp -implicitDefEqProofs (disch:=omega) only [Rx,simprocAttr,sameG_self,B50x0,k2,hg,il,hob,hoX,hlast,hsetX,hix,hatc,rdA,ofCells,PV.sameLL_self,os,ol1,ol3,ihc]
    · right
      obtain rfl:i=(S.kd h).length:=by omega
      have k2:¬ ((S.kd h).length:Int)<((S.kd h).length:Int):=by omega
      refine ⟨_, ?_, ?_,rfl⟩
      · rw [outI_all]
        generalize belowM S (d+1) out (h:Int) up=o1
        rcases hK.inv with ⟨hav,_⟩ | ⟨r,hav,_⟩ | hav
        all_goals
          simp only [hav]
          simp -implicitDefEqProofs (disch:=omega) only [Rx,simprocAttr,B50x0,k2]
      · simp
  rw [acall_code T50,run_code rfl rfl]
  generalize belowM S (d+1) out (h:Int) up=o2 at hloop ⊢
  rcases hK.inv with ⟨hav,hk0⟩ | ⟨r,hav,hr⟩ | hav
  · simp only [hk0,hav,List.length_nil,Int.natCast_zero] at hloop rdh
    simp -implicitDefEqProofs (disch:=omega) only [Rx,simprocAttr,F50,hob,hoX,hix,hath,rdh,hloop]
  · have hrl:=(List.getElem?_eq_some_iff.1 hr).1
    have hrX:∀ X,(g++[X])[r]? = some (.pcells 1 (intsPV (S.kd h))):=fun X=>by rw [List.getElem?_append_left hrl];exact hr
    simp only [hav] at hloop rdh
    simp -implicitDefEqProofs (disch:=omega) only [Rx,simprocAttr,F50,hob,hoX,hix,hath,rdh,hloop]
  · simp only [hav] at hloop rdh
    simp -implicitDefEqProofs (disch:=omega) only [Rx,simprocAttr,F50,hob,hoX,hix,hath,rdh,hloop,il]
theorem bel_gen (hS:S.Ok R) (hN:S.N≤8589934592) (hD:DM (liveL S) S.st S.kd nx av p q g) (hL:(liveL S).length≤4194304) {r:Nat→Nat} (hr1:∀ c,c<S.N→r c≤R) (hr2:∀ c p:Nat,c<S.N→(S.st c).up=(p:Int)→r p<r c) (n:Nat) (hn:(liveL S).length+1<n) :
    ∀ (d h : Nat) (up : Int) (out : List GRow), h ∈ liveL S → R ≤ r h + d → out.length ≤ S.N → PreO S out h →
      acall T (n+d+1) 50 [DP p,.own true g.length out.length,.p (.int .i64 h),.p (.int .i64 up)] (g++[.pcells 6 (out.map GRow.pv)])=some (.own true g.length (belowM S (d+1) out (h:Int) up).length,g++[.pcells 6 ((belowM S (d+1) out (h:Int) up).map GRow.pv)]):=by
  intro d
  induction d with
  | zero =>
    intro h up out hh hR hol hp
    exact bel_body hS hN hD hL n hn 0 h up out hh hp hol (fun c hc hcu=>by
      have:=hr1 c (mem_liveL.1 hc).1
      have:=hr2 c h (mem_liveL.1 hc).1 hcu
      omega)
  | succ d ih =>
    intro h up out hh hR hol hp
    exact bel_body hS hN hD hL (n+d+1) (by omega) (d+1) h up out hh hp hol (fun c hc hcu out up hol hp=>by
      have:=hr2 c h (mem_liveL.1 hc).1 hcu
      exact ih c up out hc (by omega) hol hp)
theorem Read_run (hS:S.Ok R) (hN:S.N≤8589934592) (hD:DM (liveL S) S.st S.kd nx av p q g) (hL:(liveL S).length≤4194304) {n:Nat} (hn:(liveL S).length+1<n) :
  acall T (n+R+2) 22 [DP p] g=some (.own true g.length (rowsM S R).length,g++[.pcells 6 ((rowsM S R).map GRow.pv)]):=by
 obtain ⟨r,hr1,hr2⟩:=hS.rank
 have h0:(0:Nat) ∈ liveL S:=mem_liveL.2 ⟨hS.pos,hS.top.1⟩
 have hr:=bel_gen hS hN hD hL hr1 hr2 n hn R 0 0 [] h0 (by omega) (by simp) pre_nil
 simp only [Int.natCast_zero,List.map_nil,List.length_nil] at hr
 rw [acall_code T22,run_code rfl rfl]
 unfold rowsM
 generalize belowM S (R+1) [] 0 0=o at hr ⊢
 simp -implicitDefEqProofs (disch:=omega) only [Rx,simprocAttr,F22,hr]
end
end Tryz
end Go.TA


end
section
/- The row of loose tops, read. -/
set_option maxRecDepth 100000
set_option maxHeartbeats 8000000
namespace Go.TA
namespace Tryz
section
variable {R:Nat} {S:MS} {nx:Int} {av:Nat→AV} {p q:Nat} {g:List AObj}
def looP (S:MS) (h:Nat):Bool := !(h==0) && decide ((S.st h).up<0)
theorem looseD_run (hD : DM (liveL S) S.st S.kd nx av p q g) (hL : (liveL S).length ≤ 4194304) {n : Nat} (hn : (liveL S).length < n) :
    acall T (n+1) 24 [DP p] g=some (.own true g.length (looseM S).length,g++[.pcells 1 (intsPV (looseM S))]):=by
  obtain ⟨o,ho,hrep⟩:=hD.core.row
  have hpl:=(List.getElem?_eq_some_iff.1 hD.core.obj).1
  have hql:=(List.getElem?_eq_some_iff.1 ho).1
  have hob:∀ X,(g++[X])[p]? = some (.cells 2 [[.own true q (liveL S).length,.p (.int .i64 nx)]]):=fun X=>by rw [List.getElem?_append_left hpl];exact hD.core.obj
  have hoX:∀ X,(g++[X])[q]? = some o:=fun X=>by rw [List.getElem?_append_left hql];exact ho
  have hlast:∀ X,(g++[X])[g.length]? = some X:=fun X=>by simp
  have hsetX:∀ X Y,(g++[X]).set g.length Y=g++[Y]:=fun X Y=>by simp [List.set_append]
  have hix:=fun s i=>hrep.idx rowsD_len s true q i
  have hlm:looseM S=((liveL S).filter (looP S)).map fun h:Nat=>(h:Int):=rfl
  rw [hlm]
  have hlen:∀ i,(((liveL S).take i).filter (looP S)).length≤4194304:=fun i=>by
    have h3:=List.length_filter_le (looP S) ((liveL S).take i)
    rw [List.length_take] at h3
    omega
  generalize hacc:(fun i:Nat=>(((liveL S).take i).filter (looP S)).map fun h:Nat=>(h:Int))=acc
  have hal:∀ i,(acc i).length≤4194304:=fun i=>by rw [← hacc];simp only [List.length_map];exact hlen i
  have key:=loop_inv (C:=acall T n) (N:=n) (B:=B24x0) (σ := Nat) (S:=fun i=>⟨[(0,DP p),(3,.own true g.length (acc i).length),(9,.p (.int .i64 (liveL S).length)),(10,.p (.int .i64 i))],[],g++[.pcells 1 (intsPV (acc i))]⟩)
    (I:=fun i=>i≤(liveL S).length) (μ := fun i=>(liveL S).length - i) (Q:=fun r=>r=(.exit 0,⟨[(3,.own true g.length (acc (liveL S).length).length)],[],g++[.pcells 1 (intsPV (acc (liveL S).length))]⟩)) ?_ 0 (by omega) (by omega)
  · obtain ⟨r,hr,rfl⟩:=key
    have e0:acc 0=[]:=by rw [← hacc];simp
    have e1:acc (liveL S).length=((liveL S).filter (looP S)).map fun h:Nat=>(h:Int):=by rw [← hacc];simp
    rw [e0,e1] at hr
    generalize ((liveL S).filter (looP S)).map (fun h:Nat=>(h:Int))=l1 at hr ⊢
    simp only [List.length_nil,Int.natCast_zero,show intsPV []=[] from rfl] at hr
    rw [acall_code T24,run_code rfl rfl]
    simp -implicitDefEqProofs (disch:=omega) only [Rx,simprocAttr,F24,hob,hr]
  intro i hi
  by_cases h1:i<(liveL S).length
  · left
    obtain ⟨h,hh⟩:=get_some h1
    have k1:(i:Int)<((liveL S).length:Int):=by omega
    have rd0:=rd_node hrep hh (j:=0) (by omega)
    have rd1:=rd_node hrep hh (j:=1) (by omega)
    simp only [nAV] at rd0 rd1
    have hs:acc (i+1)=acc i++if looP S h=true then [(h:Int)] else []:=by
      rw [← hacc]
      simp only
      rw [List.take_add_one,hh,List.filter_append,List.map_append]
      congr 1
      simp only [Option.toList_some,List.filter_cons,List.filter_nil]
      split <;> rfl
    have hll:=hal i
    have il:=intsPV_len (acc i)
    refine ⟨i+1, ?_,by omega,by omega⟩
    rw [hs]
    by_cases e0:h=0
    · subst e0
      have ep:looP S 0=false:=rfl
      rw [ep]
      simp only [Bool.false_eq_true,if_false,List.append_nil]
      have e1:((((0:Nat):Int))==0)=true:=rfl
      simp -implicitDefEqProofs (disch:=omega) only [Rx,simprocAttr,B24x0,k1,hob,hoX,hix,rd0]
    · have e1:((h:Int)==0)=false:=by simp;omega
      by_cases eu:(S.st h).up<0
      · have ep:looP S h=true:=by simp [looP,e0,eu]
        rw [ep,if_pos rfl]
        have os1:=intsPV_snoc (acc i) (h:Int)
        have ol1:(intsPV (acc i++[(h:Int)])).length=(acc i).length+1:=by rw [intsPV_len,List.length_append];rfl
        have ol3:(acc i++[(h:Int)]).length=(acc i).length+1:=by rw [List.length_append];rfl
        rw [ol3]
        generalize acc i++[(h:Int)]=acc1 at os1 ol1
        generalize acc i=a0 at hll il os1 ol1
        simp -implicitDefEqProofs (disch:=omega) only [Rx,simprocAttr,B24x0,k1,hob,hoX,hix,rd0,rd1,e1,eu,hlast,hsetX,il,os1,ol1]
      · have ep:looP S h=false:=by simp [looP,eu]
        rw [ep]
        simp only [Bool.false_eq_true,if_false,List.append_nil]
        simp -implicitDefEqProofs (disch:=omega) only [Rx,simprocAttr,B24x0,k1,hob,hoX,hix,rd0,rd1,e1,eu]
  · right
    obtain rfl:i=(liveL S).length:=by omega
    have k1:¬ ((liveL S).length:Int)<((liveL S).length:Int):=by omega
    refine ⟨_, ?_, ?_,rfl⟩
    · simp -implicitDefEqProofs (disch:=omega) only [Rx,simprocAttr,B24x0,k1]
    · simp
end
end Tryz
end Go.TA


end
section
/- Rows, and numbers, held against themselves. -/
set_option maxRecDepth 100000
set_option maxHeartbeats 8000000
namespace Go.TA.Tryz
theorem intsEq_run (l:List Int) (hl:l.length≤8589934592) (g:List AObj) {n:Nat} (hn:l.length<n):acall T (n+1) 23 [.p (.list (intsPV l)),.p (.list (intsPV l))] g=some (.p (.bool true),g):=by
 have ll:=intsPV_len l
 have hl:=loop_rule' (C:=acall T n) (N:=n) (B:=B23x0) (σ := Nat) (S:=fun i=>⟨[(0,.p (.list (intsPV l))),(1,.p (.list (intsPV l))),(12,.p (.int .i64 l.length)),(13,.p (.int .i64 i))],[],[]⟩) (I:=fun i=>i≤l.length) (μ := fun i=>l.length - i) (Φ := fun i=>(.exit 0,⟨[],[],[]⟩)) ?_ 0 (by omega) (by omega)
 ·rw [acall_code T23,run_pure rfl rfl rfl]
  simp only [Int.natCast_zero] at hl
  simp -implicitDefEqProofs (disch:=omega) only [Rx,simprocAttr,F23,hl,ll]
 intro i hi
 by_cases h:i<l.length
 ·left
  have hg:=intsPV_get (List.getElem?_eq_getElem h)
  have k1:(i:Int)<(l.length:Int):=by omega
  refine ⟨i+1, ?_,by omega,by omega,rfl⟩
  simp -implicitDefEqProofs (disch:=omega) only [Rx,simprocAttr,B23x0,k1,ll,hg]
 ·right
  obtain rfl:i=l.length:=by omega
  have k1:¬ (l.length:Int)<(l.length:Int):=by omega
  refine ⟨?_,by simp⟩
  simp -implicitDefEqProofs (disch:=omega) only [Rx,simprocAttr,B23x0,k1]
end Go.TA.Tryz


end
section
/- Rows that stand as a tree's do: the document's answer. -/
set_option maxRecDepth 100000
set_option maxHeartbeats 8000000
namespace Go.TA.Tryz
def rowsPV (l:List GRow):AV:=.p (.list (l.map GRow.pv))
def aboveOut (r:Bool):Ex × St:=if r=true then (.ret,⟨[(6,.p (.bool true))],[],[]⟩) else (.exit 0,⟨[],[],[]⟩)
theorem up_val {l:List GRow} {i x:Nat} (h:standTo l i) (hi:i≤l.length) (hx:x<i):∃ r,l[x]? = some r∧r.up=(upAt l (x+1):Int):=by
 obtain ⟨r,hr⟩:=get_some (show x<l.length by omega)
 refine ⟨r,hr, ?_⟩
 have:=h x r hx hr
 simp [upAt,hr]
 omega
theorem above_loop {n N : Nat} (l : List GRow) (h : Int) (i : Nat) (hs : standTo l i) (hi : i ≤ l.length) (hl : l.length ≤ 1048576) (hN : i < N) :
    aexec (acall T n) N (.loop B62x0) ⟨[(0,.p (.list (l.map GRow.pv))),(2,.p (.int .i64 h)),(7,.p (.int .i64 (i:Int)))],[],[]⟩=some (aboveOut (aboveB l i h)):=by
  refine loop_rule' (C:=acall T n) (N:=N) (B:=B62x0) (σ := Nat) (S:=fun x=>⟨[(0,.p (.list (l.map GRow.pv))),(2,.p (.int .i64 h)),(7,.p (.int .i64 x))],[],[]⟩) (I:=fun x=>x≤i) (μ := fun x=>x)
    (Φ := fun x=>aboveOut (aboveB l x h)) ?_ i (Nat.le_refl _) hN
  intro x hx
  cases x with
  | zero =>
    refine .inr ⟨?_,by simp [aboveB,chain_zero,aboveOut]⟩
    have e:aboveOut (aboveB l 0 h)=(.exit 0,⟨[],[],[]⟩):=by simp [aboveB,chain_zero,aboveOut]
    rw [e]
    simp -implicitDefEqProofs (disch:=omega) only [Rx,simprocAttr,B62x0,Int.natCast_zero]
  | succ x =>
    obtain ⟨r,hr,hu⟩:=up_val hs hi (show x<i by omega)
    have hg:=getD_map (f:=GRow.pv) hr
    have k1:(0:Int)<(x:Int)+1:=by omega
    have k2:(x:Int)<(l.length:Int):=by omega
    have hc:=chain_succ hs hi (show x<i by omega)
    by_cases he:((x:Int)+1)=h
    · have e:aboveB l (x+1) h=true:=by
        simp only [aboveB,hc,List.any_cons,Bool.or_eq_true,beq_iff_eq]
        left;push_cast;exact he
      have he':((x:Int)+1==h)=true:=by simpa using he
      refine .inr ⟨?_,by rw [e];simp [aboveOut]⟩
      rw [e]
      simp -implicitDefEqProofs (disch:=omega) only [Rx,simprocAttr,B62x0,k1,he',aboveOut]
    · have e:aboveB l (x+1) h=aboveB l (upAt l (x+1)) h:=by
        simp only [aboveB,hc,List.any_cons]
        have:(((x+1:Nat):Int)==h)=false:=by simp;omega
        rw [this,Bool.false_or]
      have he':((x:Int)+1==h)=false:=by simpa using he
      have hle:=upAt_le hs (show x<i by omega) (by omega)
      refine .inl ⟨upAt l (x+1), ?_,by omega,by omega,by rw [e]⟩
      simp -implicitDefEqProofs (disch:=omega) only [Rx,simprocAttr,B62x0,k1,k2,he',hg,GRow.pv,hu]
theorem above_run (l:List GRow) (h:Int) (i:Nat) (hs:standTo l i) (hi:i≤l.length) (hl:l.length≤1048576) (g:List AObj) {n:Nat} (hn:i<n) :
    acall T (n+1) 62 [.p (.list (l.map GRow.pv)),.p (.int .i64 i),.p (.int .i64 h)] g=some (.p (.bool (aboveB l i h)),g):=by
  rw [acall_code T62,run_pure rfl rfl rfl]
  have hloop:=above_loop (n:=n) (N:=n) l h i hs hi hl hn
  cases hb:aboveB l i h with
  | true =>
    rw [hb] at hloop
    simp only [aboveOut,if_true] at hloop
    simp -implicitDefEqProofs (disch:=omega) only [Rx,simprocAttr,F62,hloop]
  | false =>
    rw [hb] at hloop
    simp only [aboveOut,Bool.false_eq_true,if_false] at hloop
    simp -implicitDefEqProofs (disch:=omega) only [Rx,simprocAttr,F62,hloop]
theorem depth_loop {n N:Nat} (l:List GRow) (i:Nat) (hs:standTo l i) (hi:i≤l.length) (hl:l.length≤1048576) (hN:i<N) :
    aexec (acall T n) N (.loop B39x0) ⟨[(0,.p (.list (l.map GRow.pv))),(1,.p (.int .i64 (i:Int))),(5,.p (.int .i64 ((0:Nat):Int)))],[],[]⟩=some (.exit 0,⟨[(5,.p (.int .i64 ((chain l i).length:Int)))],[],[]⟩):=by
  have:=loop_rule' (C:=acall T n) (N:=N) (B:=B39x0) (σ := Nat × Nat) (S:=fun s=>⟨[(0,.p (.list (l.map GRow.pv))),(1,.p (.int .i64 s.1)),(5,.p (.int .i64 s.2))],[],[]⟩) (I:=fun s=>s.1≤i∧s.2+s.1≤i) (μ := fun s=>s.1)
    (Φ := fun s=>(.exit 0,⟨[(5,.p (.int .i64 ((s.2+(chain l s.1).length:Nat):Int)))],[],[]⟩)) ?_ (i,0) ⟨Nat.le_refl _,by simp⟩ hN
  · simpa using this
  rintro ⟨x,d⟩ ⟨hx,hd⟩
  simp only at hx hd ⊢
  cases x with
  | zero =>
    refine .inr ⟨?_,by simp⟩
    simp only [chain_zero,List.length_nil,Nat.add_zero]
    simp -implicitDefEqProofs (disch:=omega) only [Rx,simprocAttr,B39x0,Int.natCast_zero]
  | succ x =>
    obtain ⟨r,hr,hu⟩:=up_val hs hi (show x<i by omega)
    have hg:=getD_map (f:=GRow.pv) hr
    have k1:(0:Int)<(x:Int)+1:=by omega
    have k2:(x:Int)<(l.length:Int):=by omega
    have hc:=chain_succ hs hi (show x<i by omega)
    have hle:=upAt_le hs (show x<i by omega) (by omega)
    refine .inl ⟨(upAt l (x+1),d+1), ?_,⟨by omega,by simp only;omega⟩,by simp only;omega, ?_⟩
    · simp -implicitDefEqProofs (disch:=omega) only [Rx,simprocAttr,B39x0,k1,k2,hg,GRow.pv,hu]
    · rw [hc,List.length_cons];congr 6;simp only;omega
theorem depth_run (l:List GRow) (i:Nat) (hs:standTo l i) (hi:i≤l.length) (hl:l.length≤1048576) (g:List AObj) {n:Nat} (hn:i<n) :
  acall T (n+1) 39 [.p (.list (l.map GRow.pv)),.p (.int .i64 i)] g=some (.p (.int .i64 (chain l i).length),g):=by
 rw [acall_code T39,run_pure rfl rfl rfl]
 have hloop:=depth_loop (n:=n) (N:=n) l i hs hi hl hn
 simp only [Int.natCast_zero] at hloop
 simp -implicitDefEqProofs (disch:=omega) only [Rx,simprocAttr,F39,hloop]
def formOut (k:Nat) (r:Bool):Ex × St:=if r=true then (.exit 0,⟨[],[],[]⟩) else (.ret,⟨[(k,.p (.bool false))],[],[]⟩)
theorem form13_loop {n N : Nat} (l : List GRow) (hl : l.length ≤ 1048576) (hN : l.length < N) (hn : l.length < n) :
    aexec (acall T (n+1)) N (.loop B38x0) ⟨[(0,.p (.list (l.map GRow.pv))),(5,.p (.int .i64 l.length)),(6,.p (.int .i64 ((0:Nat):Int)))],[],[]⟩=some (formOut 2 (formedB l)):=by
  have:=loop_rule' (C:=acall T (n+1)) (N:=N) (B:=B38x0) (σ := Nat) (S:=fun i=>⟨[(0,.p (.list (l.map GRow.pv))),(5,.p (.int .i64 l.length)),(6,.p (.int .i64 i))],[],[]⟩) (I:=fun i=>i≤l.length∧standTo l i) (μ := fun i=>l.length - i)
    (Φ := fun i=>formOut 2 (formedFrom l i (l.drop i))) ?_ 0 ⟨by omega,standTo_zero l⟩ (by omega)
  · simpa [formedB] using this
  rintro i ⟨hi,hs⟩
  by_cases h:i<l.length
  · have k1:(i:Int)<(l.length:Int):=by omega
    obtain ⟨x,hx⟩:=get_some h
    have hg:=getD_map (f:=GRow.pv) hx
    have hd:l.drop i=x::l.drop (i+1):=by rw [List.drop_eq_getElem?_toList_append,hx];rfl
    rw [hd]
    have bad:rowOkB l i x=false→formOut 2 (formedFrom l i (x::l.drop (i+1)))=(.ret,⟨[(2,.p (.bool false))],[],[]⟩):=fun h=>by simp [formedFrom,h,formOut]
    have good:rowOkB l i x=true→formOut 2 (formedFrom l i (x::l.drop (i+1)))=formOut 2 (formedFrom l (i+1) (l.drop (i+1))):=fun h=>by simp [formedFrom,h]
    cases i with
    | zero =>
      by_cases hu:x.up=0
      · have hr:rowOkB l 0 x=true:=by simp [rowOkB,hu]
        refine .inl ⟨1, ?_,⟨by omega,row_stands hs (by omega) hx hr⟩,by omega,good hr⟩
        have hu':(x.up==0)=true:=by simp [hu]
        simp only [Int.natCast_zero,Int.natCast_one] at k1 ⊢
        have hg0:(l.map GRow.pv).getD 0 []=x.pv:=hg
        have e0:Int.toNat 0=0:=rfl
        simp -implicitDefEqProofs (disch:=omega) only [Rx,simprocAttr,B38x0,k1,hg0,e0,GRow.pv,hu']
      · have hr:rowOkB l 0 x=false:=by simp [rowOkB,hu]
        refine .inr ?_
        rw [bad hr]
        refine ⟨?_,by simp⟩
        have hu':(x.up==0)=false:=by simp [hu]
        simp only [Int.natCast_zero,Int.natCast_one] at k1 ⊢
        have hg0:(l.map GRow.pv).getD 0 []=x.pv:=hg
        have e0:Int.toNat 0=0:=rfl
        simp -implicitDefEqProofs (disch:=omega) only [Rx,simprocAttr,B38x0,k1,hg0,e0,GRow.pv,hu']
    | succ j =>
      have k0:((j:Int)+1==0)=false:=by simp;omega
      have k3:(0:Int)<(j:Int)+1:=by omega
      have k5:((j:Int)+1).toNat=j+1:=by omega
      simp only [Int.natCast_add,Int.natCast_one] at k1
      by_cases hu:x.up<1
      · have hr:rowOkB l (j+1) x=false:=by simp [rowOkB];intro h;omega
        refine .inr ?_
        rw [bad hr]
        refine ⟨?_,by simp⟩
        simp -implicitDefEqProofs (disch:=omega) only [Rx,simprocAttr,B38x0,k0,k1,k3,k5,hg,GRow.pv,hu]
      · have hab:=above_run (n:=n) l x.up (j+1) hs (by omega) hl [] (by omega)
        simp only [Int.natCast_add,Int.natCast_one] at hab
        cases hb:aboveB l (j+1) x.up with
        | true =>
          have hr:rowOkB l (j+1) x=true:=by simp [rowOkB,hb];omega
          refine .inl ⟨j+1+1, ?_,⟨by omega,row_stands hs (by omega) hx hr⟩,by omega,good hr⟩
          simp -implicitDefEqProofs (disch:=omega) only [Rx,simprocAttr,B38x0,k0,k1,k3,k5,hg,GRow.pv,hu,hab,hb]
        | false =>
          have hr:rowOkB l (j+1) x=false:=by simp [rowOkB,hb]
          refine .inr ?_
          rw [bad hr]
          refine ⟨?_,by simp⟩
          simp -implicitDefEqProofs (disch:=omega) only [Rx,simprocAttr,B38x0,k0,k1,k3,k5,hg,GRow.pv,hu,hab,hb]
  · have k1:¬ (i:Int)<(l.length:Int):=by omega
    have e:l.drop i=[]:=List.drop_eq_nil_of_le (by omega)
    refine .inr ⟨?_,by rw [e];simp [formedFrom,formOut]⟩
    rw [e]
    simp -implicitDefEqProofs (disch:=omega) only [Rx,simprocAttr,B38x0,k1,formedFrom,formOut]
theorem form13_run (l:List GRow) (hl:l.length≤1048576) (g:List AObj) {n:Nat} (hn:l.length<n):acall T (n+2) 38 [.p (.list (l.map GRow.pv))] g=some (.p (.bool (formedB l)),g):=by
  rw [acall_code T38,run_pure rfl rfl rfl]
  have hloop:=form13_loop (n:=n) (N:=n+1) l hl (by omega) hn
  simp only [Int.natCast_zero] at hloop
  cases hb:formedB l with
  | true =>
    rw [hb] at hloop
    simp only [formOut,if_true] at hloop
    simp -implicitDefEqProofs (disch:=omega) only [Rx,simprocAttr,F38,hloop]
  | false =>
    rw [hb] at hloop
    simp only [formOut,Bool.false_eq_true,if_false] at hloop
    simp -implicitDefEqProofs (disch:=omega) only [Rx,simprocAttr,F38,hloop]
end Go.TA.Tryz


end
section
/- Rows that stand as a tree's do, and are not too deep: the program. -/
set_option maxRecDepth 100000
set_option maxHeartbeats 8000000
namespace Go.TA.Tryz
def stopAt (l:List GRow) (h:Nat) (u:Int):Int:=if aboveB l h u=true then u else 0
def formS (l:List GRow) (i:Nat) (x:GRow) (h:Int):St:=⟨[(0,.p (.list (l.map GRow.pv))),(3,.p (.int .i64 i)),(4,.ptr false 4 6 1 0 0),(5,.p (.int .i64 h)),(6,.p (.list (l.map GRow.pv))),(7,.p (.int .i64 l.length)),(8,.p (.int .i64 i))],[(4,.pcells 6 [x.pv])],[]⟩
theorem formP_inner {n N : Nat} (l : List GRow) (i : Nat) (x : GRow) (hs : standTo l i) (hi : i ≤ l.length) (hl : l.length ≤ 1048576) (hN : i < N) :
    aexec (acall T n) N (.loop B94x1) (formS l i x i)=some (.exit 2,formS l i x (stopAt l i x.up)):=by
  refine loop_rule' (C:=acall T n) (N:=N) (B:=B94x1) (σ := Nat) (S:=fun h=>formS l i x h) (I:=fun h=>h≤i) (μ := fun h=>h)
    (Φ := fun h=>(.exit 2,formS l i x (stopAt l h x.up))) ?_ i (Nat.le_refl _) hN
  intro h hh
  cases h with
  | zero =>
    refine .inr ⟨?_,by simp⟩
    have e:stopAt l 0 x.up=0:=by simp [stopAt,aboveB,chain_zero]
    rw [e]
    simp -implicitDefEqProofs (disch:=omega) only [Rx,simprocAttr,B94x1,formS,GRow.pv,Int.natCast_zero]
  | succ h =>
    obtain ⟨r,hr,hu⟩:=up_val hs hi (show h<i by omega)
    have hg:=getD_map (f:=GRow.pv) hr
    have k2:(h:Int)<(l.length:Int):=by omega
    have k0:((h:Int)+1==0)=false:=by simp;omega
    have hc:=chain_succ hs hi (show h<i by omega)
    cases he:((h:Int)+1==x.up) with
    | true =>
      have he':(h:Int)+1=x.up:=by simpa using he
      have e:stopAt l (h+1) x.up=(h:Int)+1:=by
        have:aboveB l (h+1) x.up=true:=by
          simp only [aboveB,hc,List.any_cons,Bool.or_eq_true,beq_iff_eq]
          left;push_cast;exact he'
        simp [stopAt,this,he']
      refine .inr ⟨?_,by simp⟩
      rw [e]
      simp -implicitDefEqProofs (disch:=omega) only [Rx,simprocAttr,B94x1,formS,GRow.pv,k0,he]
    | false =>
      have e:stopAt l (h+1) x.up=stopAt l (upAt l (h+1)) x.up:=by
        have:aboveB l (h+1) x.up=aboveB l (upAt l (h+1)) x.up:=by
          simp only [aboveB,hc,List.any_cons]
          have:(((h+1:Nat):Int)==x.up)=false:=by simpa using he
          rw [this,Bool.false_or]
        simp only [stopAt,this]
      have hle:=upAt_le hs (show h<i by omega) (by omega)
      refine .inl ⟨upAt l (h+1), ?_,by omega,by omega,by rw [e]⟩
      simp -implicitDefEqProofs (disch:=omega) only [Rx,simprocAttr,B94x1,formS,GRow.pv,k0,k2,he,hg,hu]
theorem formP_loop {n N : Nat} (l : List GRow) (hl : l.length ≤ 1048576) (hN : l.length < N) :
    aexec (acall T n) N (.loop B94x0) ⟨[(0,.p (.list (l.map GRow.pv))),(6,.p (.list (l.map GRow.pv))),(7,.p (.int .i64 l.length)),(8,.p (.int .i64 ((0:Nat):Int)))],[],[]⟩=some (formOut 2 (formedB l)):=by
  have:=loop_rule' (C:=acall T n) (N:=N) (B:=B94x0) (σ := Nat) (S:=fun i=>⟨[(0,.p (.list (l.map GRow.pv))),(6,.p (.list (l.map GRow.pv))),(7,.p (.int .i64 l.length)),(8,.p (.int .i64 i))],[],[]⟩) (I:=fun i=>i≤l.length∧standTo l i) (μ := fun i=>l.length - i)
    (Φ := fun i=>formOut 2 (formedFrom l i (l.drop i))) ?_ 0 ⟨by omega,standTo_zero l⟩ (by omega)
  · simpa [formedB] using this
  rintro i ⟨hi,hs⟩
  by_cases h:i<l.length
  · have k1:(i:Int)<(l.length:Int):=by omega
    obtain ⟨x,hx⟩:=get_some h
    have hg:=getD_map (f:=GRow.pv) hx
    have hd:l.drop i=x::l.drop (i+1):=by rw [List.drop_eq_getElem?_toList_append,hx];rfl
    rw [hd]
    have bad:rowOkB l i x=false→formOut 2 (formedFrom l i (x::l.drop (i+1)))=(.ret,⟨[(2,.p (.bool false))],[],[]⟩):=fun h=>by simp [formedFrom,h,formOut]
    have good:rowOkB l i x=true→formOut 2 (formedFrom l i (x::l.drop (i+1)))=formOut 2 (formedFrom l (i+1) (l.drop (i+1))):=fun h=>by simp [formedFrom,h]
    have hin:=formP_inner (n:=n) (N:=N) l i x hs hi hl (by omega)
    simp only [formS,GRow.pv] at hin
    cases hab:aboveB l i x.up with
    | true =>
      have hpos:=above_up hab
      have hi0:i≠0:=fun e=>by subst e;simp [aboveB,chain_zero] at hab
      have hr:rowOkB l i x=true:=by simp [rowOkB,hi0,hab];omega
      refine .inl ⟨i+1, ?_,⟨by omega,row_stands hs (by omega) hx hr⟩,by omega,good hr⟩
      simp only [stopAt,hab,if_true] at hin
      have k3:(x.up==0)=false:=by simp;omega
      have k4:((i:Int)==0)=false:=by simp;omega
      simp -implicitDefEqProofs (disch:=omega) only [Rx,simprocAttr,B94x0,k1,hg,GRow.pv,hin,k3,k4]
    | false =>
      simp only [stopAt,hab,Bool.false_eq_true,if_false] at hin
      by_cases hu:x.up=0
      · have k3:(0==x.up)=true:=by simp [hu]
        by_cases hi0:i=0
        · have hr:rowOkB l i x=true:=by simp [rowOkB,hi0,hu]
          refine .inl ⟨i+1, ?_,⟨by omega,row_stands hs (by omega) hx hr⟩,by omega,good hr⟩
          have k4:((i:Int)==0)=true:=by simp [hi0]
          simp -implicitDefEqProofs (disch:=omega) only [Rx,simprocAttr,B94x0,k1,hg,GRow.pv,hin,k3,k4]
        · have hr:rowOkB l i x=false:=by simp [rowOkB,hi0,hab]
          refine .inr ?_
          rw [bad hr]
          refine ⟨?_,by simp⟩
          have k4:((i:Int)==0)=false:=by simp;omega
          have k6:((true:Bool)==false)=false:=rfl
          simp -implicitDefEqProofs (disch:=omega) only [Rx,simprocAttr,B94x0,k1,hg,GRow.pv,hin,k3,k4,k6]
      · have k3:(0==x.up)=false:=by simp;omega
        have hr:rowOkB l i x=false:=by
          simp only [rowOkB,hab,Bool.and_false]
          split
          · simpa using hu
          · rfl
        refine .inr ?_
        rw [bad hr]
        refine ⟨?_,by simp⟩
        simp -implicitDefEqProofs (disch:=omega) only [Rx,simprocAttr,B94x0,k1,hg,GRow.pv,hin,k3]
  · have k1:¬ (i:Int)<(l.length:Int):=by omega
    have e:l.drop i=[]:=List.drop_eq_nil_of_le (by omega)
    refine .inr ⟨?_,by rw [e];simp [formedFrom,formOut]⟩
    rw [e]
    simp -implicitDefEqProofs (disch:=omega) only [Rx,simprocAttr,B94x0,k1,formedFrom,formOut]
theorem formP_run (l:List GRow) (hl:l.length≤1048576) (g:List AObj) {n:Nat} (hn:l.length<n):acall T (n+1) 94 [.p (.list (l.map GRow.pv))] g=some (.p (.bool (formedB l)),g):=by
  rw [acall_code T94,run_pure rfl rfl rfl]
  have hloop:=formP_loop (n:=n) (N:=n) l hl hn
  simp only [Int.natCast_zero] at hloop
  cases hb:formedB l with
  | true =>
    rw [hb] at hloop
    simp only [formOut,if_true] at hloop
    simp -implicitDefEqProofs (disch:=omega) only [Rx,simprocAttr,F94,hloop]
  | false =>
    rw [hb] at hloop
    simp only [formOut,Bool.false_eq_true,if_false] at hloop
    simp -implicitDefEqProofs (disch:=omega) only [Rx,simprocAttr,F94,hloop]
def depths (l:List GRow) (i:Nat):List (List PV):=(List.range (l.length+1)).map fun h=>[.int .i64 (if h≤i then ((chain l h).length:Int) else 0)]
theorem depths_len (l:List GRow) (i:Nat):(depths l i).length=l.length+1:=by simp [depths]
theorem depths_get (l:List GRow) {i h:Nat} (hh:h≤l.length):(depths l i).getD h []=[.int .i64 (if h≤i then ((chain l h).length:Int) else 0)]:=by
 rw [List.getD_eq_getElem?_getD,depths,List.getElem?_map,List.getElem?_range (by omega)]
 rfl
theorem depths_set (l:List GRow) {i:Nat} (hi:i<l.length):(depths l i).set (i+1) [.int .i64 ((chain l (i+1)).length:Int)]=depths l (i+1):=by
 apply List.ext_getElem
 ·simp [depths]
 ·intro k h1 h2
  rw [List.getElem_set]
  simp only [depths,List.getElem_map,List.getElem_range]
  by_cases e:i+1=k
  ·subst e;simp
  ·rw [if_neg e]
   have:(k≤i)↔(k≤i+1):=by omega
   simp only [this]
theorem depths_zero (l:List GRow):List.replicate (l.length+1) [PV.int .i64 0]=depths l 0:=by
 apply List.ext_getElem
 ·simp [depths]
 ·intro k h1 h2
  simp only [List.getElem_replicate,depths,List.getElem_map,List.getElem_range]
  by_cases e:k≤0
  ·obtain rfl:k=0:=by omega
   simp [chain_zero]
  ·simp [e]
def shallow (l:List GRow):Prop:=∀ i,i<l.length→(chain l (i+1)).length≤64
theorem deep_loop {n N:Nat} (l:List GRow) (hs:standTo l l.length) (hd:shallow l) (hl:l.length≤1048576) (hN:l.length<N) :
  aexec (acall T n) N (.loop B95x0) ⟨[(0,.p (.list (l.map GRow.pv))),(3,.own false 9 (l.length+1)),(10,.p (.list (l.map GRow.pv))),(11,.p (.int .i64 l.length)),(12,.p (.int .i64 ((0:Nat):Int)))],[(9,.pcells 1 (depths l 0))],[]⟩=some (.exit 0,⟨[(0,.p (.list (l.map GRow.pv)))],[],[]⟩):=by
 refine loop_rule' (C:=acall T n) (N:=N) (B:=B95x0) (σ := Nat) (S:=fun i=>⟨[(0,.p (.list (l.map GRow.pv))),(3,.own false 9 (l.length+1)),(10,.p (.list (l.map GRow.pv))),(11,.p (.int .i64 l.length)),(12,.p (.int .i64 i))],[(9,.pcells 1 (depths l i))],[]⟩) (I:=fun i=>i≤l.length) (μ := fun i=>l.length - i)
  (Φ := fun i=>(.exit 0,⟨[(0,.p (.list (l.map GRow.pv)))],[],[]⟩)) ?_ 0 (by omega) (by omega)
 intro i hi
 by_cases h:i<l.length
 ·have k1:(i:Int)<(l.length:Int):=by omega
  obtain ⟨x,hx,hu⟩:=up_val hs (Nat.le_refl _) h
  have hg:=getD_map (f:=GRow.pv) hx
  have hle:=upAt_le hs h h
  have hc:=chain_succ hs (Nat.le_refl _) h
  have hdp:=hd i h
  rw [hc,List.length_cons] at hdp
  have dl:=depths_len l i
  have g1:(depths l i).getD (upAt l (i+1)) []=[.int .i64 ((chain l (upAt l (i+1))).length:Int)]:=by rw [depths_get l (by omega),if_pos (by omega)]
  have s1:(depths l i).set (i+1) [.int .i64 (((chain l (upAt l (i+1))).length:Int)+1)]=depths l (i+1):=by
   rw [← depths_set l h,hc,List.length_cons];push_cast;rfl
  have g2:(depths l (i+1)).getD (i+1) []=[.int .i64 (((chain l (upAt l (i+1))).length:Int)+1)]:=by rw [depths_get l (by omega),if_pos (by omega),hc,List.length_cons];push_cast;rfl
  have g3:(depths l i).getD (i+1) []=[.int .i64 0]:=by rw [depths_get l (by omega),if_neg (by omega)]
  have k2:¬ (64:Int)<((chain l (upAt l (i+1))).length:Int)+1:=by omega
  have k5:((i:Int)+1).toNat=i+1:=by omega
  have dl2:=depths_len l (i+1)
  refine .inl ⟨i+1, ?_,by omega,by omega,rfl⟩
  simp -implicitDefEqProofs (disch:=omega) only [Rx,simprocAttr,B95x0,k1,hg,GRow.pv,hu,dl,dl2,g1,g2,g3,s1,k2,k5]
 ·have k1:¬ (i:Int)<(l.length:Int):=by omega
  refine .inr ⟨?_,by simp⟩
  simp -implicitDefEqProofs (disch:=omega) only [Rx,simprocAttr,B95x0,k1]
theorem deep_run (l:List GRow) (hs:standTo l l.length) (hd:shallow l) (hl:l.length≤4096) (g:List AObj) {n:Nat} (hn:l.length<n):acall T (n+1) 95 [.p (.list (l.map GRow.pv))] g=some (.p (.bool false),g):=by
 rw [acall_code T95,run_pure rfl rfl rfl]
 have hloop:=deep_loop (n:=n) (N:=n) l hs hd (by omega) hn
 simp only [Int.natCast_zero] at hloop
 have k1:¬ (4096:Int)<(l.length:Int):=by omega
 have k2:((l.length:Int)+1).toNat=l.length+1:=by omega
 have hz:=depths_zero l
 simp -implicitDefEqProofs (disch:=omega) only [Rx,simprocAttr,F95,k1,k2,hz,hloop]
end Go.TA.Tryz


end
section
/- What is wrong with attributes: the program. -/
set_option maxRecDepth 100000
set_option maxHeartbeats 8000000
namespace Go.TA.Tryz
theorem ap_loop {n N : Nat} (l : List Attr) (hN : l.length < N) :
    aexec (acall T (n+36)) N (.loop B71x0) ⟨[(0,.p (.list (l.map Attr.pv))),(7,.p (.list (l.map Attr.pv))),(8,.p (.int .i64 l.length)),(9,.p (.int .i64 ((0:Nat):Int)))],[],[]⟩=some (chkOut (attrsChk [] 0 l)):=by
  refine loop_rule' (C:=acall T (n+36)) (N:=N) (B:=B71x0) (σ := Nat) (S:=fun i=>⟨[(0,.p (.list (l.map Attr.pv))),(7,.p (.list (l.map Attr.pv))),(8,.p (.int .i64 l.length)),(9,.p (.int .i64 i))],[],[]⟩) (I:=fun i=>i≤l.length∧i≤64) (μ := fun i=>l.length - i)
    (Φ := fun i=>chkOut (attrsChk (prevOf l i) i (l.drop i))) ?_ 0 ⟨by omega,by omega⟩ (by omega)
  rintro i ⟨hi,hi64⟩
  by_cases h:i<l.length
  · have k1 : (i : Int) < (l.length : Int) := by omega
    obtain ⟨a,ha⟩:=get_some h
    have ga:=getD_map (f:=Attr.pv) ha
    rw [chk_step ha]
    have bad:∀ e:Int,attrErr (prevOf l i) i a=e→e≠0→aexec (acall T (n+36)) N B71x0 ⟨[(0,.p (.list (l.map Attr.pv))),(7,.p (.list (l.map Attr.pv))),(8,.p (.int .i64 l.length)),(9,.p (.int .i64 i))],[],[]⟩=some (.ret,⟨[(2,.p (.int .i64 i)),(3,.p (.int .i64 e))],[],[]⟩) →
        (∃ s',aexec (acall T (n+36)) N B71x0 ⟨[(0,.p (.list (l.map Attr.pv))),(7,.p (.list (l.map Attr.pv))),(8,.p (.int .i64 l.length)),(9,.p (.int .i64 i))],[],[]⟩=some (.normal,(fun (i:Nat)=>(⟨[(0,.p (.list (l.map Attr.pv))),(7,.p (.list (l.map Attr.pv))),(8,.p (.int .i64 l.length)),(9,.p (.int .i64 i))],[],[]⟩:St)) s')∧(s'≤l.length∧s'≤64)∧l.length - s'<l.length - i∧chkOut (if attrErr (prevOf l i) i a=0 then attrsChk (prevOf l (i+1)) (i+1) (l.drop (i+1)) else ((i:Int),attrErr (prevOf l i) i a))=chkOut (attrsChk (prevOf l s') s' (l.drop s'))) ∨
        (aexec (acall T (n+36)) N B71x0 ⟨[(0,.p (.list (l.map Attr.pv))),(7,.p (.list (l.map Attr.pv))),(8,.p (.int .i64 l.length)),(9,.p (.int .i64 i))],[],[]⟩=some (chkOut (if attrErr (prevOf l i) i a=0 then attrsChk (prevOf l (i+1)) (i+1) (l.drop (i+1)) else ((i:Int),attrErr (prevOf l i) i a)))∧(chkOut (if attrErr (prevOf l i) i a=0 then attrsChk (prevOf l (i+1)) (i+1) (l.drop (i+1)) else ((i:Int),attrErr (prevOf l i) i a))).1 ≠ .normal):=fun e he h0 hr=>by
      refine .inr ?_
      rw [he,if_neg h0]
      simp only [chkOut,h0,if_false]
      exact ⟨hr,by simp⟩
    by_cases h64:i=64
    · refine bad 12 (by simp [attrErr,h64]) (by decide) ?_
      have k2:((i:Int)==64)=true:=by simp;omega
      simp -implicitDefEqProofs (disch:=omega) only [Rx,simprocAttr,B71x0,k1,k2,ga,Attr.pv]
    have k2:((i:Int)==64)=false:=by simp;omega
    cases hnm:namedB true a.name with
    | false =>
      refine bad 8 (by simp [attrErr,h64,hnm]) (by decide) ?_
      simp -implicitDefEqProofs (disch:=omega) only [Rx,simprocAttr,B71x0,k1,k2,ga,Attr.pv,name_run,hnm]
    | true=>
    by_cases hlong:(a.value.length:Int)≤65536
    rotate_left
    · refine bad 3 (by simp [attrErr,h64,hnm];omega) (by decide) ?_
      simp -implicitDefEqProofs (disch:=omega) only [Rx,simprocAttr,B71x0,k1,k2,ga,Attr.pv,name_run,hnm,fits_run,hlong]
    have hlong':¬ (65536<(a.value.length:Int)):=by omega
    cases i with
    | zero =>
      have e:attrErr (prevOf l 0) 0 a=0:=by simp [attrErr,hnm,hlong',prevOf]
      rw [e,if_pos rfl]
      refine .inl ⟨1, ?_,⟨by omega,by omega⟩,by omega,rfl⟩
      simp only [Int.natCast_zero,Int.natCast_one] at k1 k2 ⊢
      have k3:(0:Int)<(l.length:Int):=k1
      have ga0:(l.map Attr.pv).getD 0 []=Attr.pv a:=ga
      have e0:Int.toNat 0=0:=rfl
      simp -implicitDefEqProofs (disch:=omega) only [Rx,simprocAttr,B71x0,k3,ga0,e0,Attr.pv,name_run,hnm,fits_run,hlong]
    | succ j =>
      obtain ⟨b,hb⟩:=get_some (show j<l.length by omega)
      have gb:=getD_map (f:=Attr.pv) hb
      have ep:prevOf l (j+1)=[b]:=by simp [prevOf,hb]
      have k3:(0:Int)<(j:Int)+1:=by omega
      have k4:(j:Int)<(l.length:Int):=by omega
      simp only [Int.natCast_add,Int.natCast_one] at k1 k2
      have k5:((j:Int)+1).toNat=j+1:=by omega
      by_cases heq:b.name=a.name
      · refine bad 10 (by simp [attrErr,h64,hnm,hlong',ep,heq]) (by decide) ?_
        have heq':(b.name==a.name)=true:=by simpa using heq
        simp -implicitDefEqProofs (disch:=omega) only [Rx,simprocAttr,B71x0,k1,k2,k3,k4,k5,ga,gb,Attr.pv,name_run,hnm,fits_run,hlong,heq']
      · have heq':(b.name==a.name)=false:=by simpa using heq
        have hcmp:=cmpB_less heq
        by_cases hgt:0<cmpB b.name a.name
        · refine bad 9 (by simp [attrErr,h64,hnm,hlong',ep,heq,hgt]) (by decide) ?_
          have hl:strLess b.name a.name=false:=by have:=hcmp.1 hgt;rw [heq',Bool.or_false] at this;exact this
          simp -implicitDefEqProofs (disch:=omega) only [Rx,simprocAttr,B71x0,k1,k2,k3,k4,k5,ga,gb,Attr.pv,name_run,hnm,fits_run,hlong,heq',binS,hl]
        · have e:attrErr (prevOf l (j+1)) (j+1) a=0:=by simp [attrErr,h64,hnm,hlong',ep,heq,hgt]
          have hl:strLess b.name a.name=true:=by
            cases h:strLess b.name a.name
            · exact absurd (hcmp.2 (by rw [h,heq'];rfl)) hgt
            · rfl
          rw [e,if_pos rfl]
          refine .inl ⟨j+1+1, ?_,⟨by omega,by omega⟩,by omega,rfl⟩
          simp -implicitDefEqProofs (disch:=omega) only [Rx,simprocAttr,B71x0,k1,k2,k3,k4,k5,ga,gb,Attr.pv,name_run,hnm,fits_run,hlong,heq',binS,hl]
  · have k1:¬ (i:Int)<(l.length:Int):=by omega
    have e:l.drop i=[]:=List.drop_eq_nil_of_le (by omega)
    refine .inr ⟨?_,by rw [e];simp [attrsChk,chkOut]⟩
    rw [e]
    simp -implicitDefEqProofs (disch:=omega) only [Rx,simprocAttr,B71x0,k1,attrsChk,chkOut]
theorem ap_run (l : List Attr) (g : List AObj) {n : Nat} (hl : l.length < n + 36) : acall T (n + 37) 71 [.p (.list (l.map Attr.pv))] g = some (.tuple [.p (.int .i64 (attrsChk [] 0 l).1), .p (.int .i64 (attrsErr l))], g) := by
  rw [acall_code T71,run_pure rfl rfl rfl]
  have hloop:=ap_loop (n:=n) (N:=n+36) l hl
  simp only [Int.natCast_zero] at hloop
  unfold attrsErr
  have h1:(attrsChk [] 0 l).2=0→(attrsChk [] 0 l).1=0:=by
    have key:∀ (p:List Attr) (i:Nat) (l:List Attr),(attrsChk p i l).2=0→(attrsChk p i l).1=0:=by
      intro p i l
      induction l generalizing p i with
      | nil=>simp [attrsChk]
      | cons a l ih =>
        simp only [attrsChk]
        split
        · exact ih _ _
        · rename_i h;intro h';exact absurd h' h
    exact key [] 0 l
  generalize attrsChk [] 0 l=r at hloop h1
  obtain ⟨x,e⟩:=r
  simp only [chkOut] at hloop h1 ⊢
  by_cases h:e=0
  · rw [if_pos h] at hloop
    rw [h1 h,h]
    simp -implicitDefEqProofs (disch:=omega) only [Rx,simprocAttr,F71,hloop]
  · rw [if_neg h] at hloop
    simp -implicitDefEqProofs (disch:=omega) only [Rx,simprocAttr,F71,hloop]
end Go.TA.Tryz


end
section
/- What is wrong with a node alone. -/
set_option maxRecDepth 100000
set_option maxHeartbeats 8000000
namespace Go.TA.Tryz
def aloneErr (x:GRow):Int:=if namedB false x.tag=false then 7 else if 65536<(x.key.length:Int) then 3 else if 65536<(x.text.length:Int) then 3 else attrsErr x.attrs
def nodeCells (x:GRow) (ks:List (List PV)):List PV:=[.str x.tag,.str x.key,.str x.text,.list (x.attrs.map Attr.pv),.list ks]
theorem alone_run (x:GRow) (ks:List (List PV)) (hs:smallAttrs x.attrs) (g:List AObj) {n:Nat} (hl:x.attrs.length<n) (hn:1048576<n) :
    acall T (n+37) 40 [.p (.agg (nodeCells x ks))] g=some (.p (.int .i64 (aloneErr x)),g):=by
  rw [acall_code T40,run_pure rfl rfl rfl]
  have ha:=fun g=>a09_run x.attrs hs g (n:=n) (by omega) hn
  cases h1:namedB false x.tag with
  | false =>
    have e:aloneErr x=7:=by simp [aloneErr,h1]
    rw [e]
    simp -implicitDefEqProofs (disch:=omega) only [Rx,simprocAttr,F40,nodeCells,named02_run,h1]
  | true=>
  by_cases h2:65536<(x.key.length:Int)
  · have e:aloneErr x=3:=by simp [aloneErr,h1,h2]
    rw [e]
    simp -implicitDefEqProofs (disch:=omega) only [Rx,simprocAttr,F40,nodeCells,named02_run,h1,h2]
  by_cases h3:65536<(x.text.length:Int)
  · have e:aloneErr x=3:=by simp [aloneErr,h1,h2,h3]
    rw [e]
    simp -implicitDefEqProofs (disch:=omega) only [Rx,simprocAttr,F40,nodeCells,named02_run,h1,h2,h3]
  have e:aloneErr x=attrsErr x.attrs:=by simp [aloneErr,h1,h2,h3]
  rw [e]
  simp -implicitDefEqProofs (disch:=omega) only [Rx,simprocAttr,F40,nodeCells,named02_run,h1,h2,h3,ha]
theorem wrong_run (x:GRow) (ks:List (List PV)) (g:List AObj) {n:Nat} (hl:x.attrs.length<n) :
    acall T (n+38) 130 [.p (.agg (nodeCells x ks))] g=some (.p (.int .i64 (aloneErr x)),g):=by
  rw [acall_code T130,run_pure rfl rfl rfl]
  have ha:=fun g=>ap_run x.attrs g (n:=n) (by omega)
  cases h1:namedB false x.tag with
  | false =>
    have e:aloneErr x=7:=by simp [aloneErr,h1]
    rw [e]
    simp -implicitDefEqProofs (disch:=omega) only [Rx,simprocAttr,F130,nodeCells,tag_run,h1]
  | true=>
  by_cases h2:(x.key.length:Int)≤65536
  rotate_left
  · have e:aloneErr x=3:=by simp [aloneErr,h1];omega
    rw [e]
    simp -implicitDefEqProofs (disch:=omega) only [Rx,simprocAttr,F130,nodeCells,tag_run,h1,fits_run,h2]
  by_cases h3:(x.text.length:Int)≤65536
  rotate_left
  · have e:aloneErr x=3:=by simp [aloneErr,h1];omega
    rw [e]
    simp -implicitDefEqProofs (disch:=omega) only [Rx,simprocAttr,F130,nodeCells,tag_run,h1,fits_run,h2,h3]
  have e:aloneErr x=attrsErr x.attrs:=by
    have h2':¬ 65536<(x.key.length:Int):=by omega
    have h3':¬ 65536<(x.text.length:Int):=by omega
    simp [aloneErr,h1,h2',h3']
  rw [e]
  simp -implicitDefEqProofs (disch:=omega) only [Rx,simprocAttr,F130,nodeCells,tag_run,h1,fits_run,h2,h3,ha]
end Go.TA.Tryz


end
