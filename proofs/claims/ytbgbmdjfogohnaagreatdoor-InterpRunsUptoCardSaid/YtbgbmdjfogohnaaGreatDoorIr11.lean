/- Part 11 of 15 of a proof; joined from IrnMAttr, GoingDef, IrnMDelA, IrnDocOps, DocStep, IrnDocIns, IrnDocMake, IrnDocRem, DocOk, IrnDocDo, OpsData. What fields an operation's kind does not use: what they are. Plain. -/
import Derived.Test.YtbgbmdjfogohnaaGreatDoorIr1
import Derived.Test.YtbgbmdjfogohnaaGreatDoorIr10
import Derived.Test.YtbgbmdjfogohnaaGreatDoorIr7
set_option linter.unusedSimpArgs false
set_option linter.unusedVariables false
set_option linter.defProp false
set_option maxRecDepth 100000
set_option maxHeartbeats 8000000
section
/- attrs.With, attrs.Without. -/
namespace Go.TA.Tryz
def toAt (l:List Attr) (name:Bs) (i:Nat):Int:=if posAt l name<i then (posAt l name:Int) else (l.length:Int)
theorem find_run (l : List Attr) (name : Bs) (hl : l.length ≤ 1048577) (g : List AObj) {n : Nat} (hn : l.length < n) :
    acall T (n+1) 171 [.p (.list (l.map Attr.pv)),.p (.str name)] g=some (.tuple [.p (.int .i64 (if fstAt l name<l.length then (fstAt l name:Int) else (posAt l name:Int))),.p (.bool (decide (fstAt l name<l.length)))],g):=by
  have hpl:posAt l name≤l.length:=List.findIdx_le_length
  have key:=loop_inv (C:=acall T n) (N:=n) (B:=B171x0) (σ := Nat) (S:=fun i=>⟨[(0,.p (.list (l.map Attr.pv))),(1,.p (.str name)),(6,.p (.int .i64 (toAt l name i))),(11,.p (.list (l.map Attr.pv))),(12,.p (.int .i64 l.length)),(13,.p (.int .i64 i))],[],[]⟩)
    (I:=fun i=>i≤l.length∧i≤fstAt l name) (μ := fun i=>l.length - i) (Q:=fun q=>q=if fstAt l name<l.length then (.ret,⟨[(4,.p (.int .i64 (fstAt l name))),(5,.p (.bool true))],[],[]⟩) else (.exit 0,⟨[(6,.p (.int .i64 (posAt l name)))],[],[]⟩)) ?_ 0 ⟨by omega,by omega⟩ (by omega)
  · obtain ⟨q,hq,rfl⟩:=key
    have e0:toAt l name 0=(l.length:Int):=by simp [toAt]
    simp only [Int.natCast_zero,e0] at hq
    rw [acall_code T171,run_pure rfl rfl rfl]
    by_cases hc:fstAt l name<l.length
    · rw [if_pos hc] at hq
      rw [if_pos hc]
      have ed:decide (fstAt l name<l.length)=true:=by simpa using hc
      simp -implicitDefEqProofs (disch:=omega) only [Rx,simprocAttr,F171,hq,ed]
    · rw [if_neg hc] at hq
      rw [if_neg hc]
      have ed:decide (fstAt l name<l.length)=false:=by simpa using hc
      simp -implicitDefEqProofs (disch:=omega) only [Rx,simprocAttr,F171,hq,ed]
  rintro i ⟨h1,h2⟩
  by_cases hi:i<l.length
  · have k1 : (i : Int) < (l.length : Int) := by omega
    have hx:=List.getElem?_eq_getElem hi
    have hg:=getD_map (f:=Attr.pv) hx
    generalize hxa:l[i]=a at hx hg
    by_cases e:i=fstAt l name
    · right
      have hp:(a.name==name)=true:=by
        have:=List.findIdx_getElem (xs:=l) (p:=fun a=>a.name==name) (w:=by unfold fstAt at e;omega)
        simp only [fstAt] at e
        subst e;rw [hxa] at this;exact this
      refine ⟨_, ?_, ?_,rfl⟩
      · rw [if_pos (by omega), ← e]
        simp -implicitDefEqProofs (disch:=omega) only [Rx,simprocAttr,B171x0,k1,hg,Attr.pv,hp]
      · rw [if_pos (by omega)];simp
    · left
      have hp:(a.name==name)=false:=by
        have:=List.not_of_lt_findIdx (xs:=l) (p:=fun a=>a.name==name) (i:=i) (by unfold fstAt at e h2;omega)
        rw [hxa] at this
        simpa using this
      refine ⟨i+1, ?_,⟨by omega,by omega⟩,by omega⟩
      by_cases hlt:posAt l name<i
      · have e1:toAt l name i=(posAt l name:Int):=by simp [toAt,hlt]
        have e2:toAt l name (i+1)=(posAt l name:Int):=by rw [toAt,if_pos (by omega)]
        have k2:(posAt l name:Int)<(l.length:Int):=by omega
        rw [e1,e2]
        simp -implicitDefEqProofs (disch:=omega) only [Rx,simprocAttr,B171x0,k1,k2,hg,Attr.pv,hp]
      · have e1:toAt l name i=(l.length:Int):=by simp [toAt,hlt]
        have k2:¬ (l.length:Int)<(l.length:Int):=by omega
        cases hs:strLess a.name name with
        | true =>
          have hne:posAt l name≠i:=fun e=>by
            have:=List.findIdx_getElem (xs:=l) (p:=fun a => !(strLess a.name name)) (w:=by unfold posAt at e;omega)
            simp only [posAt] at e
            subst e;rw [hxa,hs] at this;simp at this
          have e2:toAt l name (i+1)=(l.length:Int):=by rw [toAt,if_neg (by omega)]
          rw [e1,e2]
          simp -implicitDefEqProofs (disch:=omega) only [Rx,simprocAttr,B171x0,k1,k2,hg,Attr.pv,hp,hs,binS]
        | false =>
          have hpi:posAt l name=i:=by
            have h3:¬ i<posAt l name:=fun h=>by
              have:=List.not_of_lt_findIdx (xs:=l) (p:=fun a:Attr => !(strLess a.name name)) (i:=i) (by unfold posAt at h;exact h)
              rw [hxa,hs] at this
              simp at this
            omega
          have e2:toAt l name (i+1)=(i:Int):=by rw [toAt,if_pos (by omega),hpi]
          rw [e1,e2]
          simp -implicitDefEqProofs (disch:=omega) only [Rx,simprocAttr,B171x0,k1,k2,hg,Attr.pv,hp,hs,binS]
  · right
    obtain rfl:i=l.length:=by omega
    have k1:¬ (l.length:Int)<(l.length:Int):=by omega
    have e1:toAt l name l.length=(posAt l name:Int):=by
      unfold toAt
      split
      · rfl
      · omega
    refine ⟨_, ?_, ?_,rfl⟩
    · rw [if_neg (by omega),e1]
      simp -implicitDefEqProofs (disch:=omega) only [Rx,simprocAttr,B171x0,k1]
    · rw [if_neg (by omega)];simp
theorem insertA_run (l:List Attr) (at':Nat) (a:Attr) (hat:at'≤l.length) (hl:l.length≤1048577) (n:Nat):acall T (n+1) 172 [.own true 0 l.length,.p (.int .i64 at'),.p (.list [a.pv])] [.pcells 2 (l.map Attr.pv)]=some (.p (.list ((l.take at'++a::l.drop at').map Attr.pv)),[.dead]):=by
 rw [acall_prim T172]
 have h5:(l.length+1)*4096≤140737488355328:=by omega
 have h6:(at':Int)≤(l.length:Int):=by omega
 have h7:(a.pv.length==2)=true:=rfl
 simp [pInsert,h7,h5,h6,List.map_take,List.map_drop]
theorem with_run (l:List Attr) (name v:Bs) (hl:l.length≤1048577) (g:List AObj) {n:Nat} (hn:l.length<n) :
  acall T (n+2) 125 [.p (.list (l.map Attr.pv)),.p (.str name),.p (.str v)] g=some (.p (.list ((withA l name v).map Attr.pv)),g):=by
 have hf:=find_run l name hl [] hn
 have hcl:=cloneA_run l hl [] n
 have hpl:posAt l name≤l.length:=List.findIdx_le_length
 have hin:=insertA_run l (posAt l name) ⟨name,v⟩ hpl hl n
 rw [acall_code T125,run_pure rfl rfl rfl]
 have ml:(l.map Attr.pv).length=l.length:=by simp
 simp only [List.length_nil,List.nil_append] at hcl
 by_cases hc:fstAt l name<l.length
 ·have ed:decide (fstAt l name<l.length)=true:=by simpa using hc
  rw [if_pos hc,ed] at hf
  have ew:(withA l name v).map Attr.pv=(l.map Attr.pv).set (fstAt l name) [.str name,.str v]:=by rw [withA,if_pos hc,List.map_set];rfl
  rw [ew]
  have hx:=List.getElem?_eq_getElem hc
  have hp:(l[fstAt l name]).name=name:=by
   have h9:((l[fstAt l name]).name==name)=true:=List.findIdx_getElem (xs:=l) (p:=fun a:Attr=>a.name==name) (w:=by unfold fstAt at hc;exact hc)
   exact beq_iff_eq.1 h9
  have hg:=getD_map (f:=Attr.pv) hx
  simp only [Attr.pv,hp] at hg
  have k2:(fstAt l name:Int)<(l.length:Int):=by omega
  generalize fstAt l name=i at *
  have sl:((l.map Attr.pv).set i [.str name,.str v]).length=l.length:=by simp
  simp -implicitDefEqProofs (disch:=omega) only [Rx,simprocAttr,F125,hf,hcl,hg,k2,ml,sl]
 ·have ed:decide (fstAt l name<l.length)=false:=by simpa using hc
  rw [if_neg hc,ed] at hf
  have ew:withA l name v=l.take (posAt l name)++⟨name,v⟩::l.drop (posAt l name):=by rw [withA,if_neg hc]
  rw [ew]
  generalize l.take (posAt l name)++(⟨name,v⟩:Attr)::l.drop (posAt l name)=l' at hin
  simp only [Attr.pv] at hin
  simp -implicitDefEqProofs (disch:=omega) only [Rx,simprocAttr,F125,hf,hcl,hin]
end Go.TA.Tryz


end
section
/- A row that is gone through, some of whose elements stay. Plain. -/
namespace Go.TA
theorem filter_step {α : Type} {p : α → Bool} {l:List α} {j:Nat} {x : α} (hx:l[j]? = some x):(l.take (j+1)).filter p=(l.take j).filter p++(if p x=true then [x] else []):=by
 rw [List.take_add_one,hx]
 simp only [List.filter_append,Option.toList_some,List.filter_cons,List.filter_nil]
theorem filter_none {α : Type} {p : α → Bool} {l:List α} (h:∀ x ∈ l,p x=true):l.filter p=l:=List.filter_eq_self.2 h
structure Going {α : Type} (p : α → Bool) (l:List α) (j i:Nat) (cur:List α):Prop where
 len:cur.length=l.length
 lt:i≤j
 have':cur.take i=(l.take j).filter p
 come:cur.drop j=l.drop j
theorem Going.il {α : Type} {p : α → Bool} {l:List α} {j i:Nat} {cur:List α} (h:Going p l j i cur) (hj:j≤l.length):i=((l.take j).filter p).length:=by
 rw [← h.have',List.length_take,h.len]
 have:=h.lt
 omega
theorem Going.at {α : Type} {p : α → Bool} {l:List α} {j i:Nat} {cur:List α} (h:Going p l j i cur):cur[j]? = l[j]? := by
 have:=congrArg (·[0]?) h.come
 simpa [List.getElem?_drop] using this
theorem Going.skip {α : Type} {p : α → Bool} {l:List α} {j i:Nat} {cur:List α} (h:Going p l j i cur) {x : α} (hx:l[j]? = some x) (hp:p x=false):Going p l (j+1) i cur:=by
 refine ⟨h.len,by have:=h.lt;omega, ?_, ?_⟩
 ·rw [filter_step hx,h.have',hp];simp
 ·have:=congrArg (List.drop 1) h.come
  simpa [List.drop_drop,Nat.add_comm] using this
theorem Going.take {α : Type} {p : α → Bool} {l:List α} {j i:Nat} {cur:List α} (h:Going p l j i cur) {x : α} (hx:l[j]? = some x) (hp:p x=true):Going p l (j+1) (i+1) (cur.set i x):=by
 have hj:j<l.length:=(List.getElem?_eq_some_iff.1 hx).1
 have hlt:=h.lt
 refine ⟨by rw [List.length_set];exact h.len,by omega, ?_, ?_⟩
 ·rw [filter_step hx,hp,if_pos rfl, ← h.have',List.take_add_one,List.getElem?_set]
  have:i<cur.length:=by rw [h.len];omega
  rw [if_pos rfl,if_pos this]
  simp [List.take_set_of_le]
 ·have:=congrArg (List.drop 1) h.come
  rw [List.drop_drop,List.drop_drop] at this
  rw [List.drop_set_of_lt (by omega)]
  exact this
end Go.TA


end
section
/- slices.DeleteFunc on a row of attributes that was cloned; attrs.Without. -/
namespace Go.TA.Tryz
theorem attrs_len (l:List Attr):(l.map Attr.pv).length=l.length:=by simp
section
variable {h:Bs} {kb k:Nat}
theorem cloA_run (x:Attr) (g:List AObj) (hkb:g[kb]? = some (.pcells 1 [[.str h]])) (n:Nat):acall T (n+1) 174 [.p (.agg x.pv),.ptr true kb 1 1 0 0] g=some (.p (.bool (x.name==h)),g):=by
 rw [acall_code T174,run_code rfl rfl]
 have e0:Int.toNat 0=0:=rfl
 simp -implicitDefEqProofs (disch:=omega) only [Rx,simprocAttr,F174,Attr.pv,hkb]
theorem findA_run (ks : List Attr) (g : List AObj) (hk : g[k]? = some (.pcells 2 (ks.map Attr.pv))) (hkb : g[kb]? = some (.pcells 1 [[.str h]])) (hl : ks.length ≤ 1048577) {n : Nat} (hn : ks.length + 1 < n) :
    acall T (n+2) 203 [.own true k ks.length,.func 174 [.ptr true kb 1 1 0 0]] g=some (.p (.int .i64 (if ks.findIdx (fun a=>a.name==h)<ks.length then (ks.findIdx (fun a=>a.name==h):Int) else -1)),g):=by
  have il:=attrs_len ks
  have key:=loop_inv (C:=acall T (n+1)) (N:=n+1) (B:=B203x0) (σ := Nat) (S:=fun i=>⟨[(0,.own true k ks.length),(1,.func 174 [.ptr true kb 1 1 0 0]),(7,.p (.int .i64 ks.length)),(8,.p (.int .i64 i))],[],g⟩)
    (I:=fun i=>i≤ks.length∧i≤ks.findIdx (fun a=>a.name==h)) (μ := fun i=>ks.length - i) (Q:=fun q=>q=if ks.findIdx (fun a=>a.name==h)<ks.length then (.ret,⟨[(4,.p (.int .i64 (ks.findIdx (fun a=>a.name==h))))],[],g⟩) else (.exit 0,⟨[],[],g⟩)) ?_ 0 ⟨by omega,by omega⟩ (by omega)
  · obtain ⟨q,hq,rfl⟩:=key
    simp only [Int.natCast_zero] at hq
    rw [acall_code T203,run_code rfl rfl]
    by_cases hc:ks.findIdx (fun a=>a.name==h)<ks.length
    · rw [if_pos hc] at hq
      rw [if_pos hc]
      simp -implicitDefEqProofs (disch:=omega) only [Rx,simprocAttr,F203,hq]
    · rw [if_neg hc] at hq
      rw [if_neg hc]
      simp -implicitDefEqProofs (disch:=omega) only [Rx,simprocAttr,F203,hq]
  rintro i ⟨h1,h2⟩
  by_cases hi:i<ks.length
  · have k1:(i:Int)<(ks.length:Int):=by omega
    have hg:=getD_map (f:=Attr.pv) (List.getElem?_eq_getElem hi)
    have hc:=cloA_run (h:=h) ks[i] g hkb n
    simp only [Attr.pv] at hg hc
    by_cases e:i=ks.findIdx (fun a=>a.name==h)
    · right
      have hp:((ks[i]).name==h)=true:=by
        have:=List.findIdx_getElem (xs:=ks) (p:=(fun a=>a.name==h)) (w:=by omega)
        subst e;exact this
      rw [hp] at hc
      refine ⟨_, ?_, ?_,rfl⟩
      · rw [if_pos (by omega), ← e]
        simp -implicitDefEqProofs (disch:=omega) only [Rx,simprocAttr,B203x0,k1,hg,hk,hc,il]
      · rw [if_pos (by omega)];simp
    · left
      have hp:((ks[i]).name==h)=false:=by
        have:=List.not_of_lt_findIdx (xs:=ks) (p:=(fun a=>a.name==h)) (i:=i) (by omega)
        simpa using this
      rw [hp] at hc
      refine ⟨i+1, ?_,⟨by omega,by omega⟩,by omega⟩
      simp -implicitDefEqProofs (disch:=omega) only [Rx,simprocAttr,B203x0,k1,hg,hk,hc,il]
  · right
    obtain rfl:i=ks.length:=by omega
    have k1:¬ (ks.length:Int)<(ks.length:Int):=by omega
    refine ⟨_, ?_, ?_,rfl⟩
    · rw [if_neg (by omega)]
      simp -implicitDefEqProofs (disch:=omega) only [Rx,simprocAttr,B203x0,k1]
    · rw [if_neg (by omega)];simp
theorem delA_loop (ks:List Attr) (g:List AObj) (hk:k<g.length) (hkb:g[kb]? = some (.pcells 1 [[.str h]])) (hne:k≠kb) (hl:ks.length≤1048577) (n N:Nat) (hN:ks.length<N) (j0 i0:Nat) (h0:Going (notN h) ks j0 i0 ks) (hj0:j0≤ks.length) :
    ∃ cur i,aexec (acall T (n+1)) N (.loop delLoop2) ⟨[(0,.own true k ks.length),(1,.func 174 [.ptr true kb 1 1 0 0]),(5,.p (.int .i64 i0)),(6,.p (.int .i64 j0))],[],g.set k (.pcells 2 (ks.map Attr.pv))⟩=some (.exit 0,⟨[(0,.own true k ks.length),(5,.p (.int .i64 (i:Nat)))],[],g.set k (.pcells 2 (cur.map Attr.pv))⟩)∧Going (notN h) ks ks.length i cur:=by
  have key:=loop_inv (C:=acall T (n+1)) (N:=N) (B:=delLoop2) (σ := Nat × Nat × List Attr) (S:=fun s=>⟨[(0,.own true k ks.length),(1,.func 174 [.ptr true kb 1 1 0 0]),(5,.p (.int .i64 s.1)),(6,.p (.int .i64 s.2.1))],[],g.set k (.pcells 2 (s.2.2.map Attr.pv))⟩)
    (I:=fun s=>s.2.1≤ks.length∧Going (notN h) ks s.2.1 s.1 s.2.2) (μ := fun s=>ks.length - s.2.1) (Q:=fun q=>∃ cur i,q=(.exit 0,⟨[(0,.own true k ks.length),(5,.p (.int .i64 (i:Nat)))],[],g.set k (.pcells 2 (cur.map Attr.pv))⟩)∧Going (notN h) ks ks.length i cur) ?_ (i0,j0,ks) ⟨hj0,h0⟩ (by simp only;omega)
  · obtain ⟨q,hq,cur,i,rfl,hg⟩:=key
    exact ⟨cur,i,hq,hg⟩
  rintro ⟨i,j,cur⟩ ⟨h1,h2⟩
  simp only at h1 h2 ⊢
  have hgk:(g.set k (.pcells 2 (cur.map Attr.pv)))[k]? = some (.pcells 2 (cur.map Attr.pv)):=by rw [List.getElem?_set,if_pos rfl,if_pos hk]
  have hgb:(g.set k (.pcells 2 (cur.map Attr.pv)))[kb]? = some (.pcells 1 [[.str h]]):=by rw [List.getElem?_set,if_neg hne];exact hkb
  have hss:∀ o o':AObj,(g.set k o).set k o'=g.set k o':=fun o o'=>by simp
  have il:=attrs_len cur
  rw [h2.len] at il
  have hlt:=h2.lt
  by_cases hj:j<ks.length
  · left
    obtain ⟨x,hx⟩:∃ x,ks[j]? = some x:=⟨_,List.getElem?_eq_getElem hj⟩
    have k1:(j:Int)<(ks.length:Int):=by omega
    have k2:(i:Int)<(ks.length:Int):=by omega
    have hg:=getD_map (f:=Attr.pv) (h2.at.trans hx)
    have hc:=cloA_run (h:=h) x (g.set k (.pcells 2 (cur.map Attr.pv))) hgb n
    simp only [Attr.pv] at hg hc
    cases hp:(x.name==h) with
    | true =>
      rw [hp] at hc
      refine ⟨(i,j+1,cur), ?_,⟨by simp only;omega,h2.skip hx (by simp [notN,hp])⟩,by simp only;omega⟩
      simp -implicitDefEqProofs (disch:=omega) only [Rx,simprocAttr,delLoop2,k1,hg,hgk,hc,il]
    | false =>
      rw [hp] at hc
      have hset:(cur.map Attr.pv).set i [.str x.name,.str x.value]=(cur.set i x).map Attr.pv:=by simp [List.map_set,Attr.pv]
      have hgi:=getD_map (f:=Attr.pv) (List.getElem?_eq_getElem (show i<cur.length by rw [h2.len];omega))
      simp only [Attr.pv] at hgi
      refine ⟨(i+1,j+1,cur.set i x), ?_,⟨by simp only;omega,h2.take hx (by simp [notN,hp])⟩,by simp only;omega⟩
      simp -implicitDefEqProofs (disch:=omega) only [Rx,simprocAttr,delLoop2,k1,k2,hg,hgi,hgk,hc,il,hset,hss]
  · right
    obtain rfl:j=ks.length:=by omega
    have k1:¬ (ks.length:Int)<(ks.length:Int):=by omega
    refine ⟨_, ?_, ?_,cur,i,rfl,h2⟩
    · simp -implicitDefEqProofs (disch:=omega) only [Rx,simprocAttr,delLoop2,k1]
    · simp
theorem delA_run (ks : List Attr) (g : List AObj) (hk : g[k]? = some (.pcells 2 (ks.map Attr.pv))) (hkb : g[kb]? = some (.pcells 1 [[.str h]])) (hne : k ≠ kb) (hl : ks.length ≤ 1048577) {n : Nat} (hn : ks.length + 1 < n) :
    acall T (n+3) 173 [.own true k ks.length,.func 174 [.ptr true kb 1 1 0 0]] g=some (.p (.list ((ks.filter (notN h)).map Attr.pv)),g.set k .dead):=by
  rw [acall_prim T173]
  have hf:=findA_run ks g hk hkb hl hn
  have il:=attrs_len ks
  have hkl:k<g.length:=(List.getElem?_eq_some_iff.1 hk).1
  unfold pDelete
  simp only
  by_cases hc:ks.findIdx (fun a=>a.name==h)<ks.length
  · rw [if_pos hc] at hf
    generalize hi:ks.findIdx (fun a=>a.name==h)=i0 at hc hf
    have hpre:∀ m,m<i0→∀ x,ks[m]? = some x→notN h x=true:=fun m hm x hx=>by
      have hml:m<ks.length:=(List.getElem?_eq_some_iff.1 hx).1
      have:=List.not_of_lt_findIdx (xs:=ks) (p:=(fun a=>a.name==h)) (i:=m) (by omega)
      rw [(List.getElem?_eq_some_iff.1 hx).2] at this
      simpa [notN] using this
    obtain ⟨a,hat,hah⟩:∃ a,ks[i0]? = some a∧(a.name==h)=true:=by
      have h9:=List.findIdx_getElem (xs:=ks) (p:=(fun a=>a.name==h)) (w:=by omega)
      subst hi
      exact ⟨_,List.getElem?_eq_getElem hc,h9⟩
    have hgo:Going (notN h) ks (i0+1) i0 ks:=by
      have h1:Going (notN h) ks i0 i0 ks:=by
        refine ⟨rfl,Nat.le_refl _, ?_,rfl⟩
        rw [filter_none]
        intro x hx
        obtain ⟨m,hm,rfl⟩:=List.getElem_of_mem hx
        rw [List.length_take] at hm
        refine hpre m (by omega) _ ?_
        rw [List.getElem_take,List.getElem?_eq_getElem]
      exact h1.skip hat (by simp [notN,hah])
    obtain ⟨cur,i,hloop,hend⟩:=delA_loop (h:=h) (kb:=kb) ks g hkl hkb hne hl (n+1) (ks.length+2) (by omega) (i0+1) i0 hgo (by omega)
    have hself:g.set k (.pcells 2 (ks.map Attr.pv))=g:=by
      apply List.ext_getElem?
      intro m
      rw [List.getElem?_set]
      by_cases e:k=m
      · subst e;rw [if_pos rfl,if_pos hkl,hk]
      · rw [if_neg e]
    rw [hself] at hloop
    have e1:((i0:Int) == -1)=false:=by simp
    have hilt:=hend.il (Nat.le_refl _)
    have hihave:=hend.have'
    rw [List.take_length] at hilt hihave
    have hlt2:i<ks.length:=by
      rw [hilt]
      exact List.length_filter_lt_length_iff_exists.2 ⟨a,List.mem_of_getElem? hat,by simp [notN,hah]⟩
    have hrun:aexec (acall T (n+2)) (ks.length+2) (delHead 203 delLoop2) (enterSt [.own true k ks.length,.func 174 [.ptr true kb 1 1 0 0]] g)=some (.normal,⟨[(0,.own true k ks.length),(5,.p (.int .i64 (i:Nat)))],[],g.set k (.pcells 2 (cur.map Attr.pv))⟩):=by
      simp only [Int.natCast_add,Int.natCast_one] at hloop
      simp -implicitDefEqProofs (disch:=omega) only [Rx,simprocAttr,delHead,hf,hloop,e1]
    rw [hrun]
    have hgk:(g.set k (.pcells 2 (cur.map Attr.pv)))[k]? = some (.pcells 2 (cur.map Attr.pv)):=by rw [List.getElem?_set,if_pos rfl,if_pos hkl]
    have il2:(cur.map Attr.pv).length=ks.length:=by rw [attrs_len,hend.len]
    have hi2:(i:Int)<(ks.length:Int):=by omega
    have ht:(cur.map Attr.pv).take i=(ks.filter (notN h)).map Attr.pv:=by rw [← hihave];simp [List.map_take]
    simp [Option.bind_some,delOut,St.get,lk,orBot,hgk,il2,hi2,ht]
  · rw [if_neg hc] at hf
    have hall:ks.filter (notN h)=ks:=filter_none fun x hx=>by
      have h1:¬ ks.findIdx (fun a=>a.name==h)<ks.length:=hc
      rw [List.findIdx_lt_length] at h1
      cases hq:(x.name==h) with
      | false=>simp [notN,hq]
      | true=>exact absurd ⟨x,hx,hq⟩ h1
    have hrun:aexec (acall T (n+2)) (ks.length+2) (delHead 203 delLoop2) (enterSt [.own true k ks.length,.func 174 [.ptr true kb 1 1 0 0]] g)=some (.ret,⟨[(4,.own true k ks.length)],[],g⟩):=by
      simp -implicitDefEqProofs (disch:=omega) only [Rx,simprocAttr,delHead,hf]
    rw [hrun,hall]
    simp [delOut,St.get,lk,orBot,hk,il]
end
theorem without_run (l:List Attr) (name:Bs) (hl:l.length≤1048577) (g:List AObj) {n:Nat} (hn:l.length+1<n) :
  acall T (n+4) 126 [.p (.list (l.map Attr.pv)),.p (.str name)] g=some (.tuple [.p (.list ((withoutA l name).map Attr.pv)),.p (.bool (decide ((withoutA l name).length<l.length)))],g):=by
 have hcl:=cloneA_run l hl [.pcells 1 [[.str name]]] (n+2)
 have hd:=delA_run (h:=name) (kb:=0) (k:=1) l [.pcells 1 [[.str name]],.pcells 2 (l.map Attr.pv)] rfl rfl (by omega) hl hn
 rw [acall_code T126,run_pure rfl rfl rfl]
 have wl:((withoutA l name).map Attr.pv).length=(withoutA l name).length:=by simp
 have ml:(l.map Attr.pv).length=l.length:=by simp
 unfold withoutA at wl ⊢
 generalize l.filter (notN name)=l' at hd wl ⊢
 simp only [List.length_singleton,List.cons_append,List.nil_append] at hcl
 by_cases hlt:l'.length<l.length
 ·have hlt':(l'.length:Int)<(l.length:Int):=by omega
  have ed:decide (l'.length<l.length)=true:=by simpa using hlt
  rw [ed]
  simp -implicitDefEqProofs (disch:=omega) only [Rx,simprocAttr,F126,hcl,hd,wl,ml,hlt']
 ·have hlt':¬ (l'.length:Int)<(l.length:Int):=by omega
  have ed:decide (l'.length<l.length)=false:=by simpa using hlt
  rw [ed]
  simp -implicitDefEqProofs (disch:=omega) only [Rx,simprocAttr,F126,hcl,hd,wl,ml,hlt']
end Go.TA.Tryz


end
section
/- A document's nodes are found; its attributes and texts turn; it tells what comes next. -/
namespace Go.TA
structure DocM (R:Nat) (S:MS) (it nd:Nat→Nat) (I:Nat→LK) (pd pm:Nat) (g:List AObj):Prop where
 ok:S.Ok R
 link:LinkOk S I
 at':DocAt (liveL S) S.st S.N it nd I pd pm g
def liveR (S:MS) (nd:Nat→Nat) (id:Int):AV:=.tuple [if fitE S id=0 then NP nd id.toNat else .p .nilp,.p (.int .i64 (fitE S id))]
theorem fitE_zero {S:MS} {id:Int} (h:fitE S id=0):∃ c:Nat,id=(c:Int)∧c ∈ liveL S∧0<c:=fit_live (by simp [h])
theorem look_live {S:MS} {nd:Nat→Nat} (id:Int):mlk 1 (mapD (liveL S) nd) (.int .i64 id)=if liveB S id=true then some (NP nd id.toNat) else none:=by
 rw [mlk_mapD]
 by_cases h:liveB S id=true
 ·obtain ⟨c,rfl,hc⟩:=live_liveL h
  rw [if_pos h,if_pos ⟨by simpa using hc,by omega⟩]
 ·rw [if_neg h,if_neg]
  rintro ⟨h1,h2⟩
  apply h
  have:((id.toNat:Nat):Int)=id:=by omega
  rw [← this]
  exact liveB_iff.2 h1
namespace Tryz
section
variable {R:Nat} {S:MS} {nx:Int} {it nd:Nat→Nat} {I:Nat→LK} {pd pm:Nat} {g:List AObj}
theorem live_run (hD:DocAt (liveL S) S.st nx it nd I pd pm g) (id:Int) (n:Nat):acall T (n+1) 127 [DocP pd,.p (.int .i64 id)] g=some (liveR S nd id,g):=by
 have hd:=hD.doc
 have hm:=hD.map
 have hk:=mapD_keys (liveL S) nd id
 have hl:=look_live (S:=S) (nd:=nd) id
 unfold liveR
 rw [acall_code T127,run_code rfl rfl]
 by_cases h0:id=0
 ·have e:(id==0)=true:=by simpa using h0
  have f:fitE S id=14:=by simp [fitE,h0]
  simp -implicitDefEqProofs (disch:=omega) only [Rx,simprocAttr,F127,e,f]
 have e:(id==0)=false:=by simpa using h0
 by_cases hb:liveB S id=true
 ·have f:fitE S id=0:=by simp [fitE,h0,hb]
  rw [if_pos hb] at hl
  obtain ⟨c,rfl,hc⟩:=live_liveL hb
  have hn:=hD.nodes c hc
  simp only [Int.toNat_natCast] at hl
  simp -implicitDefEqProofs (disch:=omega) only [Rx,simprocAttr,F127,e,f,hd,hm,hk,hl,Option.getD_some]
 ·have f:fitE S id=13:=by simp [fitE,h0,hb]
  rw [if_neg hb] at hl
  simp -implicitDefEqProofs (disch:=omega) only [Rx,simprocAttr,F127,e,f,hd,hm,hk,hl,Option.getD_none]
theorem beside_run (hD:DocAt (liveL S) S.st nx it nd I pd pm g) (b:Int) (n:Nat):acall T (n+2) 128 [DocP pd,.p (.int .i64 b)] g=some (.tuple [if b≠0∧fitE S b=0 then IP it b.toNat else .p .nilp,.p (.int .i64 (if b=0 then 0 else fitE S b))],g):=by
 have hl:=live_run hD b n
 unfold liveR at hl
 rw [acall_code T128,run_code rfl rfl]
 by_cases h0:b=0
 ·have e:(b==0)=true:=by simpa using h0
  have f:¬ (b≠0∧fitE S b=0):=fun h=>h.1 h0
  rw [if_neg f,if_pos h0]
  simp -implicitDefEqProofs (disch:=omega) only [Rx,simprocAttr,F128,e]
 have e:(b==0)=false:=by simpa using h0
 rw [if_neg h0]
 by_cases hf:fitE S b=0
 ·rw [if_pos ⟨h0,hf⟩]
  rw [if_pos hf,hf] at hl
  obtain ⟨c,rfl,hc,_⟩:=fitE_zero hf
  have hn:=hD.nodes c hc
  simp only [nodeC] at hn
  simp only [Int.toNat_natCast] at hl
  rw [hf]
  simp -implicitDefEqProofs (disch:=omega) only [Rx,simprocAttr,F128,e,hl,hn]
 ·rw [if_neg (fun h=>hf h.2)]
  rw [if_neg hf] at hl
  have e2:(fitE S b==0)=false:=by simpa using hf
  generalize fitE S b=z at hl e2
  simp -implicitDefEqProofs (disch:=omega) only [Rx,simprocAttr,F128,e,e2,hl]
theorem text_run (hD:DocAt (liveL S) S.st nx it nd I pd pm g) (id:Int) (s:Bs) (n:Nat) :
  ∃ g',acall T (n+3) 110 [DocP pd,.p (.int .i64 id),.p (.str s)] g=some (.p (.int .i64 (textD S id s).1),g')∧DocAt (liveL (textD S id s).2) (textD S id s).2.st nx it nd I pd pm g'∧GFr g (DocOwn (liveL S) it nd pd pm) g' (DocOwn (liveL (textD S id s).2) it nd pd pm):=by
 have hl:=live_run hD id (n+1)
 have hfi:=fits_run s [] (n+1)
 unfold liveR at hl
 unfold textD
 by_cases hf:fitE S id≠0
 ·rw [if_pos hf]
  rw [if_neg hf] at hl
  have e1:(fitE S id==0)=false:=by simpa using hf
  refine ⟨g, ?_,hD,GFr.refl _ _⟩
  rw [acall_code T110,run_code rfl rfl]
  generalize fitE S id=e at hl e1 ⊢
  simp -implicitDefEqProofs (disch:=omega) only [Rx,simprocAttr,F110,hl,e1]
 rw [if_neg hf]
 simp only [ne_eq,Decidable.not_not] at hf
 obtain ⟨c,rfl,hcL,hc0⟩:=fitE_zero hf
 rw [if_pos hf,hf] at hl
 simp only [Int.toNat_natCast] at hl
 by_cases hs:65536<(s.length:Int)
 ·rw [if_pos hs]
  have e2:decide ((s.length:Int)≤65536)=false:=by simp;omega
  rw [e2] at hfi
  refine ⟨g, ?_,hD,GFr.refl _ _⟩
  rw [acall_code T110,run_code rfl rfl]
  simp -implicitDefEqProofs (disch:=omega) only [Rx,simprocAttr,F110,hl,hfi]
 rw [if_neg hs]
 have e2:decide ((s.length:Int)≤65536)=true:=by simp;omega
 rw [e2] at hfi
 have hn:=hD.nodes c hcL
 have hlv:liveL (textM S c s)=liveL S:=liveL_node (S:=S) (h:=c) (s:={ S.st c with text:=s }) rfl
 have hD':=hD.node hcL { S.st c with text:=s }
 simp only [Int.toNat_natCast]
 refine ⟨_, ?_,by rw [hlv];exact hD', ?_⟩
 ·rw [acall_code T110,run_code rfl rfl]
  simp only [nodeC] at hn ⊢
  simp -implicitDefEqProofs (disch:=omega) only [Rx,simprocAttr,F110,hl,hfi,hn]
 ·rw [hlv]
  exact ⟨by simp,fun j hj hO=>by rw [List.getElem?_set,if_neg (fun e=>hO (.inr (.inr ⟨c,hcL,.inr e.symm⟩)))],fun j hj _=>hj⟩
theorem next_doc (hD:DocAt (liveL S) S.st nx it nd I pd pm g) (n:Nat):acall T (n+1) 35 [DocP pd] g=some (.p (.int .i64 nx),g):=by
 have hd:=hD.doc
 rw [acall_code T35,run_code rfl rfl]
 simp -implicitDefEqProofs (disch:=omega) only [Rx,simprocAttr,F35,hd]
theorem set_run (hS:S.Ok R) (hD:DocAt (liveL S) S.st nx it nd I pd pm g) (id:Int) (name v:Bs) {n:Nat} (hn:1048577<n) :
    ∃ g',acall T (n+37) 108 [DocP pd,.p (.int .i64 id),.p (.str name),.p (.str v)] g=some (.p (.int .i64 (setD S id name v).1),g')∧DocAt (liveL (setD S id name v).2) (setD S id name v).2.st nx it nd I pd pm g'∧GFr g (DocOwn (liveL S) it nd pd pm) g' (DocOwn (liveL (setD S id name v).2) it nd pd pm):=by
  have hl:=live_run hD id (n+35)
  have hfi:=fits_run v [] (n+35)
  have hna:=name_run name [] n
  unfold liveR at hl
  unfold setD
  by_cases hf:fitE S id≠0
  · rw [if_pos hf]
    rw [if_neg hf] at hl
    have e1:(fitE S id==0)=false:=by simpa using hf
    refine ⟨g, ?_,hD,GFr.refl _ _⟩
    rw [acall_code T108,run_code rfl rfl]
    generalize fitE S id=e at hl e1 ⊢
    simp -implicitDefEqProofs (disch:=omega) only [Rx,simprocAttr,F108,hl,e1]
  rw [if_neg hf]
  simp only [ne_eq,Decidable.not_not] at hf
  obtain ⟨c,rfl,hcL,hc0⟩:=fitE_zero hf
  rw [if_pos hf,hf] at hl
  simp only [Int.toNat_natCast] at hl ⊢
  cases hb:namedB true name with
  | false =>
    rw [hb] at hna
    rw [if_pos rfl]
    refine ⟨g, ?_,hD,GFr.refl _ _⟩
    rw [acall_code T108,run_code rfl rfl]
    simp -implicitDefEqProofs (disch:=omega) only [Rx,simprocAttr,F108,hl,hna]
  | true=>
  rw [hb] at hna
  rw [if_neg (by decide)]
  by_cases hs:65536<(v.length:Int)
  · rw [if_pos hs]
    have e2:decide ((v.length:Int)≤65536)=false:=by simp;omega
    rw [e2] at hfi
    refine ⟨g, ?_,hD,GFr.refl _ _⟩
    rw [acall_code T108,run_code rfl rfl]
    simp -implicitDefEqProofs (disch:=omega) only [Rx,simprocAttr,F108,hl,hna,hfi]
  rw [if_neg hs]
  have e2:decide ((v.length:Int)≤65536)=true:=by simp;omega
  rw [e2] at hfi
  have hnd:=hD.nodes c hcL
  have hw:=with_run (S.st c).attrs name v (hS.attrs c (mem_liveL.1 hcL).1) [] (n:=n+34) (by have:=hS.attrs c (mem_liveL.1 hcL).1;omega)
  by_cases h64:64<((withA (S.st c).attrs name v).length:Int)
  · rw [if_pos h64]
    have k64:((withA (S.st c).attrs name v).length:Int) > 64:=h64
    refine ⟨g, ?_,hD,GFr.refl _ _⟩
    rw [acall_code T108,run_code rfl rfl]
    have wl:((withA (S.st c).attrs name v).map Attr.pv).length=(withA (S.st c).attrs name v).length:=by simp
    generalize withA (S.st c).attrs name v=l' at hw wl k64
    simp only [nodeC] at hnd
    simp -implicitDefEqProofs (disch:=omega) only [Rx,simprocAttr,F108,hl,hna,hfi,hnd,hw,wl,k64]
  rw [if_neg h64]
  have k64:¬ ((withA (S.st c).attrs name v).length:Int) > 64:=h64
  have hlv:liveL (setM S c (withA (S.st c).attrs name v))=liveL S:=liveL_node (S:=S) (h:=c) (s:={ S.st c with attrs:=withA (S.st c).attrs name v }) rfl
  have hD':=hD.node hcL { S.st c with attrs:=withA (S.st c).attrs name v }
  refine ⟨_, ?_,by rw [hlv];exact hD', ?_⟩
  · rw [acall_code T108,run_code rfl rfl]
    have wl:((withA (S.st c).attrs name v).map Attr.pv).length=(withA (S.st c).attrs name v).length:=by simp
    simp only [nodeC] at hnd ⊢
    generalize withA (S.st c).attrs name v=l' at hw wl k64
    simp -implicitDefEqProofs (disch:=omega) only [Rx,simprocAttr,F108,hl,hna,hfi,hnd,hw,wl,k64]
  · rw [hlv]
    exact ⟨by simp,fun j hj hO=>by rw [List.getElem?_set,if_neg (fun e=>hO (.inr (.inr ⟨c,hcL,.inr e.symm⟩)))],fun j hj _=>hj⟩
theorem del_run (hS:S.Ok R) (hD:DocAt (liveL S) S.st nx it nd I pd pm g) (id:Int) (name:Bs) {n:Nat} (hn:1048578<n) :
  ∃ g',acall T (n+5) 109 [DocP pd,.p (.int .i64 id),.p (.str name)] g=some (.p (.int .i64 (delD S id name).1),g')∧DocAt (liveL (delD S id name).2) (delD S id name).2.st nx it nd I pd pm g'∧GFr g (DocOwn (liveL S) it nd pd pm) g' (DocOwn (liveL (delD S id name).2) it nd pd pm):=by
 have hl:=live_run hD id (n+3)
 unfold liveR at hl
 unfold delD
 by_cases hf:fitE S id≠0
 ·rw [if_pos hf]
  rw [if_neg hf] at hl
  have e1:(fitE S id==0)=false:=by simpa using hf
  refine ⟨g, ?_,hD,GFr.refl _ _⟩
  rw [acall_code T109,run_code rfl rfl]
  generalize fitE S id=e at hl e1 ⊢
  simp -implicitDefEqProofs (disch:=omega) only [Rx,simprocAttr,F109,hl,e1]
 rw [if_neg hf]
 simp only [ne_eq,Decidable.not_not] at hf
 obtain ⟨c,rfl,hcL,hc0⟩:=fitE_zero hf
 rw [if_pos hf,hf] at hl
 simp only [Int.toNat_natCast] at hl ⊢
 have hnd:=hD.nodes c hcL
 have hw:=without_run (S.st c).attrs name (hS.attrs c (mem_liveL.1 hcL).1) [] (n:=n) (by have:=hS.attrs c (mem_liveL.1 hcL).1;omega)
 by_cases hlt:(withoutA (S.st c).attrs name).length<(S.st c).attrs.length
 ·rw [if_pos hlt]
  have ed:decide ((withoutA (S.st c).attrs name).length<(S.st c).attrs.length)=true:=by simpa using hlt
  rw [ed] at hw
  have hlv:liveL (setM S c (withoutA (S.st c).attrs name))=liveL S:=liveL_node (S:=S) (h:=c) (s:={ S.st c with attrs:=withoutA (S.st c).attrs name }) rfl
  have hD':=hD.node hcL { S.st c with attrs:=withoutA (S.st c).attrs name }
  refine ⟨_, ?_,by rw [hlv];exact hD', ?_⟩
  ·rw [acall_code T109,run_code rfl rfl]
   simp only [nodeC] at hnd ⊢
   generalize withoutA (S.st c).attrs name=l' at hw
   simp -implicitDefEqProofs (disch:=omega) only [Rx,simprocAttr,F109,hl,hnd,hw]
  ·rw [hlv]
   exact ⟨by simp,fun j hj hO=>by rw [List.getElem?_set,if_neg (fun e=>hO (.inr (.inr ⟨c,hcL,.inr e.symm⟩)))],fun j hj _=>hj⟩
 ·rw [if_neg hlt]
  have ed:decide ((withoutA (S.st c).attrs name).length<(S.st c).attrs.length)=false:=by simpa using hlt
  rw [ed] at hw
  refine ⟨g, ?_,hD,GFr.refl _ _⟩
  rw [acall_code T109,run_code rfl rfl]
  simp only [nodeC] at hnd
  generalize withoutA (S.st c).attrs name=l' at hw
  simp -implicitDefEqProofs (disch:=omega) only [Rx,simprocAttr,F109,hl,hnd,hw]
end
end Tryz
end Go.TA


end
section
/- What a document's links are behind a step. Plain. -/
namespace Go.TA
def befO (b:Int):Option Nat:=if b=0 then none else some b.toNat
section
variable {R:Nat} {S:MS} {I:Nat→LK}
theorem placed (hS : S.Ok R) (hI : LinkOk S I) {u h : Nat} {b : Int} (hu : u ∈ liveL S) (hh : h ∈ liveL S) (huh : u ≠ h) (hup : (S.st h).up < 0) (hb : b = 0 ∨ ∃ c : Nat, b = (c : Int) ∧ c ∈ liveL S ∧ c ≠ 0 ∧ (S.st c).up = (u : Int)) :
    (∀ k,befO b=some k→k ∈ liveL S∧(S.st k).up=(u:Int))∧(∀ k,aheadI I u (befO b)=some k→k ∈ liveL S∧k≠h)∧LinkOk (placeM S h u b) (placeI I u h (befO b)):=by
  have huN:=(mem_liveL.1 hu).1
  have hz:=zero_kid hS huN
  obtain ⟨c,hc,hcb⟩:∃ c:Nat,b=(c:Int)∧(c=0∨(c:Int) ∈ S.kd u):=by
    rcases hb with rfl | ⟨c,rfl,hc,_,hcu⟩
    · exact ⟨0,rfl,.inl rfl⟩
    · exact ⟨c,rfl,.inr (hS.up_lt (mem_liveL.1 hc).1 hcu).2.2⟩
  subst hc
  have hpa:=place_at hS huN hcb hz
  have hbo:befO (c:Int)=if c=0 then none else some c:=by
    unfold befO
    by_cases e:c=0
    · subst e;rfl
    · rw [if_neg (by omega),if_neg e];simp
  rw [← hbo] at hpa
  have hpl:(if (c:Int)=0 then (S.kd u).length else (S.kd u).idxOf (c:Int))≤(kidsN S u).length:=by
    have e:(kidsN S u).length=(S.kd u).length:=by simp [kidsN]
    rw [e]
    split
    · exact Nat.le_refl _
    · exact List.idxOf_le_length
  obtain ⟨p,hP⟩:∃ p,p=(if (c:Int)=0 then (S.kd u).length else (S.kd u).idxOf (c:Int)):=⟨_,rfl⟩
  rw [← hP] at hpa hpl
  have hah:=ahead_at hS hI hu hpl
  rw [hpa] at hah
  refine ⟨fun k hk => ?_,fun k hk => ?_, ?_⟩
  · rw [← hpa] at hk
    exact kidsN_up hS huN (List.mem_of_getElem? hk)
  · rw [hah] at hk
    split at hk
    · cases hk
    · obtain ⟨h1,h2⟩:=kidsN_up hS huN (List.mem_of_getElem? hk)
      refine ⟨h1,fun e => ?_⟩
      subst e;omega
  · have key:=LinkOk.place hS hI hu hh huh hup hpl (S':=placeM S h u (c:Int)) rfl (liveL_place S h u _) (fun k=>by
      simp only [placeM,upd]
      split
      · rename_i e;subst e;rfl
      · rfl) (fun k hk=>by
      by_cases e:k=u
      · subst e
        rw [if_pos rfl]
        unfold kidsN
        simp only [placeM,upd_at]
        rw [hP]
        exact insI_insAt (kidsN_kd hS huN) h _
      · rw [if_neg e]
        simp only [kidsN,placeM]
        rw [upd_ne e])
    rw [hpa] at key
    exact key
theorem dropped (hS : S.Ok R) (hI : LinkOk S I) {c u : Nat} (hc : c ∈ liveL S) (hcu : (S.st c).up = (u : Int)) :
    (I c).u=some u∧u ∈ liveL S∧u≠c∧(∀ k,(I c).p=some k→k ∈ liveL S∧k≠c)∧(∀ k,(I c).n=some k→k ∈ liveL S∧k≠c)∧LinkOk (takeM S c) (dropI I c):=by
  have hcN:=(mem_liveL.1 hc).1
  obtain ⟨huN,hul,hk⟩:=hS.up_lt hcN hcu
  have hu:u ∈ liveL S:=mem_liveL.2 ⟨huN,hul⟩
  have hn:=kidsN_nodup hS huN
  have hkn:c ∈ kidsN S u:=(mem_kidsN hS huN).2 hk
  obtain ⟨p,hp⟩:=List.getElem?_of_mem hkn
  have hl:=hI.kids u hu
  have hpv:=hl.prev p c hp
  have hnx:=hl.next p c hp
  have huc:u≠c:=fun e=>by
    obtain ⟨r,_,hr⟩:=hS.rank
    have:=hr c u hcN hcu
    subst e;omega
  refine ⟨by rw [hI.up c hc,upN_some hS hcN hcu],hu,huc,fun k hk => ?_,fun k hk => ?_, ?_⟩
  · have e:(if p=0 then none else (kidsN S u)[p - 1]?)=some k:=hpv.symm.trans hk
    split at e
    · cases e
    · obtain ⟨h1,h2⟩:=kidsN_up hS huN (List.mem_of_getElem? e)
      refine ⟨h1,fun e2 => ?_⟩
      subst e2
      have:=get_inj_of hn e hp
      omega
  · have e:(kidsN S u)[p+1]? = some k:=hnx.symm.trans hk
    obtain ⟨h1,h2⟩:=kidsN_up hS huN (List.mem_of_getElem? e)
    refine ⟨h1,fun e2 => ?_⟩
    subst e2
    have:=get_inj_of hn e hp
    omega
  · refine LinkOk.take hS hI hc hcu hp (liveL_take S c) (fun k => ?_) (fun k hk => ?_)
    · unfold takeM
      rw [if_neg (by omega)]
      simp only [upd]
      split
      · rename_i e;subst e;rfl
      · rfl
    · unfold takeM
      rw [if_neg (by omega)]
      simp only [kidsN,hcu,Int.toNat_natCast]
      by_cases e:k=u
      · subst e
        rw [if_pos rfl,upd_at]
        have hkd:=kidsN_kd hS huN
        have e1:((S.kd k).filter fun y => !(y==(c:Int))).map Int.toNat=(kidsN S k).filter fun y => !(y==c):=by
          rw [hkd,List.filter_map,List.map_map]
          have:(Int.toNat ∘ fun k:Nat=>(k:Int))=id:=by funext k;simp
          rw [this,List.map_id]
          refine List.filter_congr fun y _ => ?_
          simp only [Function.comp]
          by_cases e:y=c
          · subst e;simp
          · have:((y:Int)==(c:Int))=false:=by simp;omega
            rw [this]
            simp [e]
        rw [e1]
        show (kidsN S k).filter (fun y => !(y==c))=remAt (kidsN S k) p
        obtain ⟨hp1,hp2⟩:=List.getElem?_eq_some_iff.1 hp
        have hsp:kidsN S k=(kidsN S k).take p++c::(kidsN S k).drop (p+1):=by
          conv=>lhs;rw [← List.take_append_drop p (kidsN S k),List.drop_eq_getElem_cons hp1,hp2]
        have hn':=hn
        rw [hsp,List.nodup_append,List.nodup_cons] at hn'
        unfold remAt
        conv=>lhs;rw [hsp]
        rw [List.filter_append,List.filter_cons,if_neg (by simp),List.filter_eq_self.2,List.filter_eq_self.2]
        · intro y hy
          have:y≠c:=fun e=>hn'.2.1.1 (e ▸ hy)
          simpa using this
        · intro y hy
          have:y≠c:=fun e=>hn'.2.2 y hy c (by simp) e
          simpa using this
      · rw [if_neg e,upd_ne e]
end
section
variable {R:Nat} {S:MS} {nx:Int} {it nd:Nat→Nat} {I:Nat→LK} {pd pm:Nat} {g:List AObj}
theorem DocAt.placed (h:DocAt (liveL S) S.st nx it nd I pd pm g) (c u:Nat) (b:Int):DocAt (liveL (placeM S c u b)) (placeM S c u b).st nx it nd I pd pm g:=by
 rw [liveL_place]
 refine h.st_congr (fun k _ => ?_) (fun _ _=>rfl)
 simp only [placeM,upd]
 split
 ·rename_i e;subst e;rfl
 ·rfl
theorem DocAt.taken (h:DocAt (liveL S) S.st nx it nd I pd pm g) (c:Nat):DocAt (liveL (takeM S c)) (takeM S c).st nx it nd I pd pm g:=by
 rw [liveL_take]
 refine h.st_congr (fun k _ => ?_) (fun _ _=>rfl)
 unfold takeM
 split
 ·rfl
 ·simp only [upd]
  split
  ·rename_i e;subst e;rfl
  ·rfl
end
end Go.TA
namespace Go.TA
section
variable {L:List Nat} {st:Nat→MNode} {nx:Int} {it nd:Nat→Nat} {I:Nat→LK} {pd pm:Nat} {g:List AObj}
def Tar (L:List Nat) (x:LK):Prop:=∀ k,x.u=some k∨x.f=some k∨x.l=some k∨x.p=some k∨x.n=some k→k ∈ L
theorem LinkOk.tar {R : Nat} {S : MS} (hS : S.Ok R) (hI : LinkOk S I) {c : Nat} (hc : c ∈ liveL S) : Tar (liveL S) (I c) := by
  have hcN:=(mem_liveL.1 hc).1
  have hk:=hI.kids c hc
  have kl:∀ k,k ∈ kidsN S c→k ∈ liveL S:=fun k h=>(kidsN_up hS hcN h).1
  have sib:∀ k,(I c).p=some k∨(I c).n=some k→k ∈ liveL S:=fun k h=>by
    rcases hS.up c hcN with h1 | ⟨p,hp,h2,h3,h4⟩
    · obtain ⟨e1,e2⟩:=hI.loose c hc (by omega)
      rw [e1,e2] at h
      rcases h with h | h <;> cases h
    · have hpL:p ∈ liveL S:=mem_liveL.2 ⟨hp,h3⟩
      obtain ⟨j,hj⟩:=List.getElem?_of_mem ((mem_kidsN hS hp).2 h4)
      have hl:=hI.kids p hpL
      have e1:(I c).p=if j=0 then none else (kidsN S p)[j - 1]? := hl.prev j c hj
      have e2:(I c).n=(kidsN S p)[j+1]? := hl.next j c hj
      rcases h with h | h
      · rw [e1] at h
        split at h
        · cases h
        · exact (kidsN_up hS hp (List.mem_of_getElem? h)).1
      · rw [e2] at h
        exact (kidsN_up hS hp (List.mem_of_getElem? h)).1
  intro k h
  rcases h with h | h | h | h | h
  · rw [hI.up c hc] at h
    rcases hS.up c hcN with h1 | ⟨p,hp,h2,h3,h4⟩
    · rw [upN_none hS hcN (by omega)] at h;cases h
    · rw [upN_some hS hcN h2] at h
      cases h
      exact mem_liveL.2 ⟨hp,h3⟩
  · rw [hk.first] at h
    exact kl k (List.mem_of_getElem? h)
  · rw [hk.last] at h
    split at h
    · cases h
    · exact kl k (List.mem_of_getElem? h)
  · exact sib k (.inl h)
  · exact sib k (.inr h)
theorem iAV_congr {it it':Nat→Nat} {x:Option Nat} (h:∀ k,x=some k→it' k=it k):iAV it' x=iAV it x:=by
 cases x with
 | none=>rfl
 | some k=>simp only [iAV,h k rfl]
theorem itemC_congr {it it':Nat→Nat} {c:Nat} {x:LK} (hx:Tar L x) (h:∀ k ∈ L,it' k=it k):itemC it' c x=itemC it c x:=by
 unfold itemC
 rw [iAV_congr fun k e=>h k (hx k (.inl e)),iAV_congr fun k e=>h k (hx k (.inr (.inl e))),iAV_congr fun k e=>h k (hx k (.inr (.inr (.inl e)))),iAV_congr fun k e=>h k (hx k (.inr (.inr (.inr (.inl e))))),iAV_congr fun k e=>h k (hx k (.inr (.inr (.inr (.inr e)))))]
def pushG (L:List Nat) (nd:Nat→Nat) (pd pm:Nat) (N:Nat) (s:MNode) (nx':Int) (g:List AObj):List AObj :=
 ((g.set pd (.cells 2 [[.map true pm,.p (.int .i64 nx')]])++[AObj.pcells 6 [[.int .i64 N,.nilp,.nilp,.nilp,.nilp,.nilp]]])++[AObj.cells 5 [[.ptr true g.length 6 1 0 0,.p (.str s.tag),.p (.str s.key),.p (.str s.text),.p (.list (s.attrs.map Attr.pv))]]]).set pm (.map (mapD (L++[N]) (upd nd N (g.length+1))))
theorem DocAt.push (h : DocAt L st nx it nd I pd pm g) {N : Nat} (hN : N ∉ L) (htar : ∀ c ∈ L, Tar L (I c)) (s : MNode) (nx' : Int) :
    DocAt (L++[N]) (upd st N s) nx' (upd it N g.length) (upd nd N (g.length+1)) (upd I N ⟨none,none,none,none,none⟩) pd pm (pushG L nd pd pm N s nx' g) ∧
      GFr g (DocOwn L it nd pd pm) (pushG L nd pd pm N s nx' g) (DocOwn (L++[N]) (upd it N g.length) (upd nd N (g.length+1)) pd pm):=by
  have hpd:=(List.getElem?_eq_some_iff.1 h.doc).1
  have hpm:=(List.getElem?_eq_some_iff.1 h.map).1
  have hmem:∀ k,k ∈ L++[N]→k=N∨(k ∈ L∧k≠N):=fun k hk=>by
    rcases List.mem_append.1 hk with h1 | h1
    · exact .inr ⟨h1,fun e=>hN (e ▸ h1)⟩
    · simp at h1;exact .inl h1
  have hil:∀ c ∈ L,it c<g.length:=fun c hc=>h.own_lt (.inr (.inr ⟨c,hc,.inl rfl⟩))
  have hnl:∀ c ∈ L,nd c<g.length:=fun c hc=>h.own_lt (.inr (.inr ⟨c,hc,.inr rfl⟩))
  have old:∀ j,j<g.length→j≠pd→j≠pm→(pushG L nd pd pm N s nx' g)[j]? = g[j]? := fun j hj h1 h2=>by
    unfold pushG
    rw [List.getElem?_set,if_neg (fun e=>h2 e.symm),List.getElem?_append_left (by simp;omega),List.getElem?_append_left (by simpa using hj),List.getElem?_set,if_neg (fun e=>h1 e.symm)]
  have e1:(pushG L nd pd pm N s nx' g)[g.length]? = some (AObj.pcells 6 [[.int .i64 N,.nilp,.nilp,.nilp,.nilp,.nilp]]):=by
    unfold pushG
    rw [List.getElem?_set,if_neg (by omega),List.getElem?_append_left (by simp),List.getElem?_append_right (by simp)]
    simp
  have e2:(pushG L nd pd pm N s nx' g)[g.length+1]? = some (AObj.cells 5 [[.ptr true g.length 6 1 0 0,.p (.str s.tag),.p (.str s.key),.p (.str s.text),.p (.list (s.attrs.map Attr.pv))]]):=by
    unfold pushG
    rw [List.getElem?_set,if_neg (by omega),List.getElem?_append_right (by simp)]
    simp
  refine ⟨⟨?_, ?_,fun c hc => ?_,fun c hc => ?_,fun c hc d hd e => ?_,fun c hc d hd e => ?_,fun c hc d hd => ?_,fun c hc => ?_,fun c hc => ?_,h.pp⟩,⟨by simp [pushG],fun j hj hO => ?_,fun j hO hj => ?_⟩⟩
  · unfold pushG
    rw [List.getElem?_set,if_neg (fun e=>h.pp e.symm),List.getElem?_append_left (by simp;omega),List.getElem?_append_left (by simpa using hpd),List.getElem?_set,if_pos rfl,if_pos hpd]
  · unfold pushG
    rw [List.getElem?_set,if_pos rfl,if_pos (by simp;omega)]
  · rcases hmem c hc with rfl | ⟨h1,h2⟩
    · rw [upd_at,upd_at,e2];simp [nodeC,upd_at]
    · rw [upd_ne h2,upd_ne h2,old _ (hnl c h1) (h.ndP c h1).1 (h.ndP c h1).2,h.nodes c h1]
      simp [nodeC,upd_ne h2]
  · rcases hmem c hc with rfl | ⟨h1,h2⟩
    · rw [upd_at,upd_at]
      exact ⟨_,e1,.inr ⟨_,rfl,by simp [itemC,iAV]⟩⟩
    · rw [upd_ne h2,upd_ne h2,old _ (hil c h1) (h.itP c h1).1 (h.itP c h1).2]
      obtain ⟨o,ho,hr⟩:=h.items c h1
      refine ⟨o,ho, ?_⟩
      rw [itemC_congr (htar c h1) (fun k hk=>by
        have hne:k≠N:=fun e=>by subst e;exact hN hk
        exact upd_ne hne)]
      exact hr
  · rcases hmem c hc with rfl | ⟨h1,h2⟩
    · rcases hmem d hd with rfl | ⟨h3,h4⟩
      · rfl
      · rw [upd_at,upd_ne h4] at e
        have:=hil d h3;omega
    · rcases hmem d hd with rfl | ⟨h3,h4⟩
      · rw [upd_at,upd_ne h2] at e
        have:=hil c h1;omega
      · rw [upd_ne h2,upd_ne h4] at e
        exact h.itInj c h1 d h3 e
  · rcases hmem c hc with rfl | ⟨h1,h2⟩
    · rcases hmem d hd with rfl | ⟨h3,h4⟩
      · rfl
      · rw [upd_at,upd_ne h4] at e
        have:=hnl d h3;omega
    · rcases hmem d hd with rfl | ⟨h3,h4⟩
      · rw [upd_at,upd_ne h2] at e
        have:=hnl c h1;omega
      · rw [upd_ne h2,upd_ne h4] at e
        exact h.ndInj c h1 d h3 e
  · rcases hmem c hc with rfl | ⟨h1,h2⟩
    · rcases hmem d hd with rfl | ⟨h3,h4⟩
      · rw [upd_at,upd_at];omega
      · rw [upd_at,upd_ne h4]
        have:=hnl d h3;omega
    · rcases hmem d hd with rfl | ⟨h3,h4⟩
      · rw [upd_at,upd_ne h2]
        have:=hil c h1;omega
      · rw [upd_ne h2,upd_ne h4]
        exact h.itNd c h1 d h3
  · rcases hmem c hc with rfl | ⟨h1,h2⟩
    · rw [upd_at];omega
    · rw [upd_ne h2];exact h.itP c h1
  · rcases hmem c hc with rfl | ⟨h1,h2⟩
    · rw [upd_at];omega
    · rw [upd_ne h2];exact h.ndP c h1
  · exact old j hj (fun e=>hO (.inl e)) (fun e=>hO (.inr (.inl e)))
  · rcases hO with rfl | rfl | ⟨c,hc,e⟩
    · exact .inl rfl
    · exact .inr (.inl rfl)
    · rcases hmem c hc with rfl | ⟨h1,h2⟩
      · rw [upd_at,upd_at] at e;omega
      · rw [upd_ne h2,upd_ne h2] at e
        exact .inr (.inr ⟨c,h1,e⟩)
end
end Go.TA


end
section
/- A document: a node is put below another one, or elsewhere. -/
namespace Go.TA
theorem insertD_N' (S:MS) (id up b:Int):(insertD S id up b).2.N=S.N:=by
 unfold insertD;repeat' split
 all_goals rfl
theorem moveD_N' (S:MS) (id b:Int):(moveD S id b).2.N=S.N:=by
 unfold moveD;repeat' split
 all_goals first | rfl | simp [placeM,takeM_N]
theorem fitE_live {S:MS} {c:Nat} (hc:c ∈ liveL S) (h0:0<c):fitE S (c:Int)=0:=by
 unfold fitE
 rw [if_neg (by omega),if_pos (liveB_iff.2 hc)]
theorem fitE_dead {S:MS} {b:Int} (hb:liveB S b=false) (h0:b≠0):fitE S b=13:=by
 unfold fitE
 rw [if_neg h0,hb];simp
namespace Tryz
section
variable {R:Nat} {S:MS} {nx:Int} {it nd:Nat→Nat} {I:Nat→LK} {pd pm:Nat} {g:List AObj}
theorem zero_live (hS:S.Ok R):liveB S 0=true:=(liveB_iff (c:=0)).2 (mem_liveL.2 ⟨hS.pos,hS.top.1⟩)
theorem beside_ok (hS:S.Ok R) (hD:DocAt (liveL S) S.st nx it nd I pd pm g) {b:Int} (hb:liveB S b=true) (n:Nat):acall T (n+2) 128 [DocP pd,.p (.int .i64 b)] g=some (.tuple [iAV it (befO b),.p (.int .i64 0)],g):=by
 have h:=beside_run hD b n
 unfold befO
 by_cases h0:b=0
 ·rw [if_neg (fun h=>h.1 h0),if_pos h0] at h
  rw [if_pos h0];exact h
 ·obtain ⟨c,rfl,hc⟩:=live_liveL hb
  have f:=fitE_live hc (by omega)
  rw [if_pos ⟨h0,f⟩,if_neg h0,f] at h
  rw [if_neg h0];exact h
theorem beside_bad (hS:S.Ok R) (hD:DocAt (liveL S) S.st nx it nd I pd pm g) {b:Int} (hb:liveB S b=false) (n:Nat):acall T (n+2) 128 [DocP pd,.p (.int .i64 b)] g=some (.tuple [.p .nilp,.p (.int .i64 13)],g):=by
 have h0:b≠0:=fun e=>by rw [e,zero_live hS] at hb;cases hb
 have h:=beside_run hD b n
 rw [fitE_dead hb h0,if_neg (fun h=>by have:=h.2;omega),if_neg h0] at h
 exact h
theorem ins_run (hS:S.Ok R) (hI:LinkOk S I) (hD:DocAt (liveL S) S.st nx it nd I pd pm g) (id up b:Int) {n:Nat} (hn:R+3<n) :
    ∃ I' g',acall T (n+3) 75 [DocP pd,.p (.int .i64 id),.p (.int .i64 up),.p (.int .i64 b)] g=some (.p (.int .i64 (insertD S id up b).1),g')∧DocAt (liveL (insertD S id up b).2) (insertD S id up b).2.st nx it nd I' pd pm g'∧LinkOk (insertD S id up b).2 I'∧GFr g (DocOwn (liveL S) it nd pd pm) g' (DocOwn (liveL (insertD S id up b).2) it nd pd pm):=by
  have hl:=live_run hD id (n+1)
  have hd:=hD.doc
  have hm:=hD.map
  have hk:=mapD_keys (liveL S) nd up
  have hlu:=look_live (S:=S) (nd:=nd) up
  unfold liveR at hl
  unfold insertD
  by_cases hf:fitE S id≠0
  · rw [if_pos hf]
    rw [if_neg hf] at hl
    have e1:(fitE S id==0)=false:=by simpa using hf
    refine ⟨I,g, ?_,hD,hI,GFr.refl _ _⟩
    rw [acall_code T75,run_code rfl rfl]
    generalize fitE S id=e at hl e1 ⊢
    simp -implicitDefEqProofs (disch:=omega) only [Rx,simprocAttr,F75,hl,e1]
  rw [if_neg hf]
  simp only [ne_eq,Decidable.not_not] at hf
  obtain ⟨c,rfl,hcL,hc0⟩:=fitE_zero hf
  rw [if_pos hf,hf] at hl
  have hcN:=(mem_liveL.1 hcL).1
  have hnd:=hD.nodes c hcL
  simp only [nodeC] at hnd
  simp only [Int.toNat_natCast] at hl ⊢
  cases hb:liveB S b with
  | false =>
    have hbs:=beside_bad hS hD hb (n:=n)
    rw [if_pos (by simp)]
    refine ⟨I,g, ?_,hD,hI,GFr.refl _ _⟩
    rw [acall_code T75,run_code rfl rfl]
    cases hu:liveB S up with
    | false =>
      rw [if_neg (by rw [hu];decide)] at hlu
      simp -implicitDefEqProofs (disch:=omega) only [Rx,simprocAttr,F75,hl,hbs,hd,hm,hk,hlu,Option.getD_none]
    | true =>
      rw [if_pos hu] at hlu
      simp -implicitDefEqProofs (disch:=omega) only [Rx,simprocAttr,F75,hl,hbs,hd,hm,hk,hlu,Option.getD_some]
  | true=>
  have hbs:=beside_ok hS hD hb (n:=n)
  cases hu:liveB S up with
  | false =>
    rw [if_pos (by simp)]
    rw [if_neg (by rw [hu];decide)] at hlu
    refine ⟨I,g, ?_,hD,hI,GFr.refl _ _⟩
    rw [acall_code T75,run_code rfl rfl]
    simp -implicitDefEqProofs (disch:=omega) only [Rx,simprocAttr,F75,hl,hbs,hd,hm,hk,hlu,iAVe,Option.getD_none]
  | true=>
  rw [if_neg (by simp)]
  rw [if_pos hu] at hlu
  obtain ⟨u,rfl,huL⟩:=live_liveL hu
  have hud:=hD.nodes u huL
  simp only [nodeC] at hud
  simp only [Int.toNat_natCast] at hlu ⊢
  have run:∀ (e:Int) (g':List AObj),acall T (n+2) 129 [IP it u,IP it c,iAV it (befO b)] g=some (.p (.int .i64 e),g')→acall T (n+3) 75 [DocP pd,.p (.int .i64 c),.p (.int .i64 u),.p (.int .i64 b)] g=some (.p (.int .i64 e),g'):=fun e g' hp=>by
    rw [acall_code T75,run_code rfl rfl]
    simp -implicitDefEqProofs (disch:=omega) only [Rx,simprocAttr,F75,hl,hbs,hd,hm,hk,hlu,hnd,hud,hp,iAVe,Option.getD_some]
  by_cases h15:0≤upOf S (c:Int)
  · rw [if_pos h15]
    exact ⟨I,g,run 15 g (place_held hD hI hS huL hcL h15 _ n),hD,hI,GFr.refl _ _⟩
  rw [if_neg h15]
  have h15':(S.st c).up<0:=by
    have:upOf S (c:Int)=(S.st c).up:=rfl
    omega
  cases h17:underB S (u:Int) (c:Int) with
  | true =>
    rw [if_pos rfl]
    exact ⟨I,g,run 17 g (place_cycle hS hD hI huL hcL h15' h17 _ hn),hD,hI,GFr.refl _ _⟩
  | false=>
  rw [if_neg (by decide)]
  have huc:u≠c:=fun e=>by
    subst e
    rw [underB_iff.2 .here] at h17;cases h17
  by_cases h18:b≠0∧upOf S b≠(u:Int)
  · rw [if_pos h18]
    obtain ⟨d,rfl,hdL⟩:=live_liveL hb
    have e:befO (d:Int)=some d:=by unfold befO;rw [if_neg h18.1];simp
    rw [e] at run
    exact ⟨I,g,run 18 g (place_bad hS hD hI huL hcL h15' h17 hdL h18.2 hn),hD,hI,GFr.refl _ _⟩
  rw [if_neg h18]
  have hbb:b=0∨∃ d:Nat,b=(d:Int)∧d ∈ liveL S∧d≠0∧(S.st d).up=(u:Int):=by
    by_cases e:b=0
    · exact .inl e
    · obtain ⟨d,rfl,hdL⟩:=live_liveL hb
      refine .inr ⟨d,rfl,hdL,by omega, ?_⟩
      have:¬ upOf S (d:Int)≠(u:Int):=fun h=>h18 ⟨e,h⟩
      simpa [upOf] using this
  obtain ⟨p1,p2,p3⟩:=placed hS hI huL hcL huc h15' hbb
  obtain ⟨g',hp,hD',hF⟩:=place_done hS hD hI huL hcL h15' h17 (befO b) p1 p2 hn
  refine ⟨_,g',run 0 g' hp, ?_,p3, ?_⟩
  · have:=hD'.placed c u b
    exact this
  · rw [liveL_place];exact hF
theorem mov_run (hS : S.Ok R) (hI : LinkOk S I) (hD : DocAt (liveL S) S.st nx it nd I pd pm g) (id b : Int) {n : Nat} (hn : R + 3 < n) :
    ∃ I' g',acall T (n+3) 106 [DocP pd,.p (.int .i64 id),.p (.int .i64 b)] g=some (.p (.int .i64 (moveD S id b).1),g')∧DocAt (liveL (moveD S id b).2) (moveD S id b).2.st nx it nd I' pd pm g'∧LinkOk (moveD S id b).2 I'∧GFr g (DocOwn (liveL S) it nd pd pm) g' (DocOwn (liveL (moveD S id b).2) it nd pd pm):=by
  have hl:=live_run hD id (n+1)
  unfold liveR at hl
  unfold moveD
  by_cases hf:fitE S id≠0
  · rw [if_pos hf]
    rw [if_neg hf] at hl
    have e1:(fitE S id==0)=false:=by simpa using hf
    refine ⟨I,g, ?_,hD,hI,GFr.refl _ _⟩
    rw [acall_code T106,run_code rfl rfl]
    generalize fitE S id=e at hl e1 ⊢
    simp -implicitDefEqProofs (disch:=omega) only [Rx,simprocAttr,F106,hl,e1]
  rw [if_neg hf]
  simp only [ne_eq,Decidable.not_not] at hf
  obtain ⟨c,rfl,hcL,hc0⟩:=fitE_zero hf
  rw [if_pos hf,hf] at hl
  have hcN:=(mem_liveL.1 hcL).1
  have hnd:=hD.nodes c hcL
  simp only [nodeC] at hnd
  have hup:=up_run hD hcL (n+1)
  simp only [Int.toNat_natCast] at hl ⊢
  cases hb:liveB S b with
  | false =>
    have hbs:=beside_bad hS hD hb (n:=n)
    rw [if_pos rfl]
    refine ⟨I,g, ?_,hD,hI,GFr.refl _ _⟩
    rw [acall_code T106,run_code rfl rfl]
    simp -implicitDefEqProofs (disch:=omega) only [Rx,simprocAttr,F106,hl,hbs,hnd,hup,iAVe]
  | true=>
  have hbs:=beside_ok hS hD hb (n:=n)
  rw [if_neg (by decide)]
  by_cases h16:upOf S (c:Int)<0
  · rw [if_pos h16]
    have hn0:(I c).u=none:=by rw [hI.up c hcL];exact upN_none hS hcN h16
    rw [hn0] at hup
    refine ⟨I,g, ?_,hD,hI,GFr.refl _ _⟩
    rw [acall_code T106,run_code rfl rfl]
    simp -implicitDefEqProofs (disch:=omega) only [Rx,simprocAttr,F106,hl,hbs,hnd,hup,iAVs,iAVe]
  rw [if_neg h16]
  obtain ⟨u, hcu, huN, hul, hcu'⟩ := hS.up_nat hcN (show 0 ≤ (S.st c).up by have : upOf S (c : Int) = (S.st c).up := rfl
                                                                            omega)
  have huL:u ∈ liveL S:=mem_liveL.2 ⟨huN,hul⟩
  obtain ⟨q1,q2,q3,q4,q5,q6⟩:=dropped hS hI hcL hcu
  have hou:upOf S (c:Int)=(u:Int):=hcu
  rw [hou]
  rw [q1] at hup
  have ou:=hD.one huL [] []
  have oc:=hD.one hcL [] []
  simp only [St.one,St.obj,if_true] at ou oc
  by_cases h18:b=(c:Int)∨(b≠0∧upOf S b≠(u:Int))
  · rw [if_pos h18]
    have hb0:b≠0:=by rcases h18 with h | h <;> omega
    obtain ⟨d,rfl,hdL⟩:=live_liveL hb
    have e:befO (d:Int)=some d:=by unfold befO;rw [if_neg hb0];simp
    rw [e] at hbs
    have od:=hD.one hdL [] []
    simp only [St.one,St.obj,if_true] at od
    refine ⟨I,g, ?_,hD,hI,GFr.refl _ _⟩
    rw [acall_code T106,run_code rfl rfl]
    by_cases hdc:d=c
    · subst hdc
      simp -implicitDefEqProofs (disch:=omega) only [Rx,simprocAttr,F106,hl,hbs,hnd,hup,oc,iAVs]
    · have hne:(it d==it c)=false:=by
        simp only [beq_eq_false_iff_ne,ne_eq]
        exact fun e2=>hdc (hD.itInj d hdL c hcL e2)
      have hdu:=up_run hD hdL (n+1)
      have hdu2:(S.st d).up≠(u:Int):=by
        rcases h18 with h | h
        · omega
        · exact h.2
      have hdN:=(mem_liveL.1 hdL).1
      rw [hI.up d hdL] at hdu
      rcases hS.up d hdN with h1 | ⟨p,h1,h2,h3,_⟩
      · rw [upN_none hS hdN (by omega)] at hdu
        simp -implicitDefEqProofs (disch:=omega) only [Rx,simprocAttr,F106,hl,hbs,hnd,hup,oc,od,hne,hdu,iAVs]
      · rw [upN_some hS hdN h2] at hdu
        have hpL:p ∈ liveL S:=mem_liveL.2 ⟨h1,h3⟩
        have op:=hD.one hpL [] []
        simp only [St.one,St.obj,if_true] at op
        have hne2:(it p==it u)=false:=by
          simp only [beq_eq_false_iff_ne,ne_eq]
          intro e2
          have:=hD.itInj p hpL u huL e2
          subst this
          exact hdu2 h2
        simp -implicitDefEqProofs (disch:=omega) only [Rx,simprocAttr,F106,hl,hbs,hnd,hup,ou,oc,od,op,hne,hne2,hdu,iAVs]
  rw [if_neg h18]
  obtain ⟨g1,hdr,hD1,hF1⟩:=drop_done hD hcL q1 q2 q3 q4 q5 (n+1)
  obtain ⟨hT,hTu⟩:=hS.take hcN (mem_liveL.1 hcL).2
  have hD1':=hD1.taken c
  have hLT:=liveL_take S c
  have huT:u ∈ liveL (takeM S c):=by rw [hLT];exact huL
  have hcT:c ∈ liveL (takeM S c):=by rw [hLT];exact hcL
  have hst:∀ k,k≠c→((takeM S c).st k).up=(S.st k).up:=fun k hk=>by
    unfold takeM
    split
    · rfl
    · simp only;rw [upd_ne hk]
  have h17:underB (takeM S c) (u:Int) (c:Int)=false:=by
    cases hun:underB (takeM S c) (u:Int) (c:Int) with
    | false=>rfl
    | true =>
      exfalso
      obtain ⟨r,_,hr⟩:=hS.rank
      have hr':∀ k p:Nat,k<(takeM S c).N→((takeM S c).st k).up=(p:Int)→r p<r k:=fun k p hk hkp=>by
        by_cases e:k=c
        · subst e;omega
        · rw [hst k e] at hkp
          exact hr k p (by rw [takeM_N] at hk;exact hk) hkp
      have h1:=below_rank hT hr' (underB_iff.1 hun) u rfl (by rw [takeM_N];exact huN)
      have h2:=hr c u hcN hcu
      omega
  have hbb:b=0∨∃ d:Nat,b=(d:Int)∧d ∈ liveL (takeM S c)∧d≠0∧((takeM S c).st d).up=(u:Int):=by
    by_cases e:b=0
    · exact .inl e
    · obtain ⟨d,rfl,hdL⟩:=live_liveL hb
      have hdc:d≠c:=fun e2=>h18 (.inl (by rw [e2]))
      refine .inr ⟨d,rfl,by rw [hLT];exact hdL,by omega, ?_⟩
      rw [hst d hdc]
      have:¬ upOf S (d:Int)≠(u:Int):=fun h=>h18 (.inr ⟨e,h⟩)
      simpa [upOf] using this
  obtain ⟨p1,p2,p3⟩:=placed hT q6 huT hcT q3 (by rw [hTu];omega) hbb
  obtain ⟨g2,hp,hD2,hF2⟩:=place_done hT hD1' q6 huT hcT (by rw [hTu];omega) h17 (befO b) p1 p2 hn
  have hnd1:=hD1.nodes c hcL
  simp only [nodeC] at hnd1
  simp only [Int.toNat_natCast]
  refine ⟨_,g2, ?_,hD2.placed c u b,p3, ?_⟩
  · rw [acall_code T106,run_code rfl rfl]
    by_cases e:b=0
    · have e2:befO b=none:=by unfold befO;rw [if_pos e]
      rw [e2] at hbs hp
      simp only [iAV] at hbs hp
      simp -implicitDefEqProofs (disch:=omega) only [Rx,simprocAttr,F106,hl,hbs,hnd,hnd1,hup,hdr,hp,iAVs]
    · obtain ⟨d,rfl,hdL⟩:=live_liveL hb
      have e2:befO (d:Int)=some d:=by unfold befO;rw [if_neg e];simp
      rw [e2] at hbs hp
      simp only [iAV] at hbs hp
      have od:=hD.one hdL [] []
      simp only [St.one,St.obj,if_true] at od
      have hdc:d≠c:=fun e2=>h18 (.inl (by rw [e2]))
      have hne:(it d==it c)=false:=by
        simp only [beq_eq_false_iff_ne,ne_eq]
        exact fun e2=>hdc (hD.itInj d hdL c hcL e2)
      have hdu:=up_run hD hdL (n+1)
      have hdu2:(S.st d).up=(u:Int):=by
        have:¬ upOf S (d:Int)≠(u:Int):=fun h=>h18 (.inr ⟨e,h⟩)
        simpa [upOf] using this
      rw [hI.up d hdL,upN_some hS (mem_liveL.1 hdL).1 hdu2] at hdu
      simp -implicitDefEqProofs (disch:=omega) only [Rx,simprocAttr,F106,hl,hbs,hnd,hnd1,hup,hdr,hp,ou,oc,od,hne,hdu,iAVs]
  · rw [liveL_place,hLT]
    rw [hLT] at hF2
    exact hF1.trans hF2
end
end Tryz
end Go.TA


end
section
/- A document is made, and a node of it; the links of a node. -/
namespace Go.TA
namespace Tryz
section
variable {R:Nat} {S:MS} {nx:Int} {it nd:Nat→Nat} {I:Nat→LK} {pd pm:Nat} {g:List AObj}
theorem cre_run (hS:S.Ok R) (hI:LinkOk S I) (hD:DocAt (liveL S) S.st S.N it nd I pd pm g) (x:GOp) (hx:x.attrs.length≤1048577) {n:Nat} (hn:x.attrs.length<n) :
    ∃ it' nd' I' g', acall T (n + 39) 74 [DocP pd, .p (.str x.tag), .p (.str x.key), .p (.str x.text), .p (.list (x.attrs.map Attr.pv))] g = some (if createErr S.N x = 0 then .tuple [.p (.int .i64 S.N), .p (.int .i64 0)] else .tuple [.p (.int .i64 0), .p (.int .i64 (createErr S.N x))], g')
      ∧ DocAt (liveL (if createErr S.N x=0 then S.create x else S)) (if createErr S.N x=0 then S.create x else S).st (if createErr S.N x=0 then S.create x else S).N it' nd' I' pd pm g'∧LinkOk (if createErr S.N x=0 then S.create x else S) I'∧GFr g (DocOwn (liveL S) it nd pd pm) g' (DocOwn (liveL (if createErr S.N x=0 then S.create x else S)) it' nd' pd pm):=by
  have htg:=tag_run x.tag [] (n+2)
  have hfk:=fits_run x.key [] (n+37)
  have hft:=fits_run x.text [] (n+37)
  have hat:=ap_run x.attrs [] (n:=n+1) (by omega)
  have bad:∀ e:Int,createErr S.N x=e→e≠0→acall T (n+39) 74 [DocP pd,.p (.str x.tag),.p (.str x.key),.p (.str x.text),.p (.list (x.attrs.map Attr.pv))] g=some (.tuple [.p (.int .i64 0),.p (.int .i64 e)],g) →
      ∃ it' nd' I' g',acall T (n+39) 74 [DocP pd,.p (.str x.tag),.p (.str x.key),.p (.str x.text),.p (.list (x.attrs.map Attr.pv))] g=some (if createErr S.N x=0 then .tuple [.p (.int .i64 S.N),.p (.int .i64 0)] else .tuple [.p (.int .i64 0),.p (.int .i64 (createErr S.N x))],g')
      ∧ DocAt (liveL (if createErr S.N x=0 then S.create x else S)) (if createErr S.N x=0 then S.create x else S).st (if createErr S.N x=0 then S.create x else S).N it' nd' I' pd pm g'∧LinkOk (if createErr S.N x=0 then S.create x else S) I'∧GFr g (DocOwn (liveL S) it nd pd pm) g' (DocOwn (liveL (if createErr S.N x=0 then S.create x else S)) it' nd' pd pm):=fun e he hne hr=>by
    rw [he,if_neg hne,if_neg hne]
    exact ⟨it,nd,I,g,hr,hD,hI,GFr.refl _ _⟩
  by_cases h7:namedB false x.tag=false
  · refine bad 7 (by simp [createErr,h7]) (by decide) ?_
    rw [h7] at htg
    rw [acall_code T74,run_code rfl rfl]
    simp -implicitDefEqProofs (disch:=omega) only [Rx,simprocAttr,F74,htg]
  simp only [Bool.not_eq_false] at h7
  rw [h7] at htg
  by_cases h3:65536<(x.key.length:Int)
  · refine bad 3 (by simp only [createErr,h7,Bool.true_eq_false,if_false,if_pos (Or.inl h3:65536<(x.key.length:Int)∨65536<(x.text.length:Int))]) (by decide) ?_
    have k3:decide ((x.key.length:Int)≤65536)=false:=by simp;omega
    rw [k3] at hfk
    rw [acall_code T74,run_code rfl rfl]
    simp -implicitDefEqProofs (disch:=omega) only [Rx,simprocAttr,F74,htg,hfk]
  have k3:decide ((x.key.length:Int)≤65536)=true:=by simp;omega
  rw [k3] at hfk
  by_cases h4:65536<(x.text.length:Int)
  · refine bad 3 (by simp only [createErr,h7,Bool.true_eq_false,if_false,if_pos (Or.inr h4:65536<(x.key.length:Int)∨65536<(x.text.length:Int))]) (by decide) ?_
    have k4:decide ((x.text.length:Int)≤65536)=false:=by simp;omega
    rw [k4] at hft
    rw [acall_code T74,run_code rfl rfl]
    simp -implicitDefEqProofs (disch:=omega) only [Rx,simprocAttr,F74,htg,hfk,hft]
  have k4:decide ((x.text.length:Int)≤65536)=true:=by simp;omega
  rw [k4] at hft
  have h34:¬ (65536<(x.key.length:Int)∨65536<(x.text.length:Int)):=fun h=>h.elim h3 h4
  by_cases h5:attrsErr x.attrs≠0
  · refine bad (attrsErr x.attrs) (by simp only [createErr,h7,Bool.true_eq_false,if_false,if_neg h34,if_pos h5]) h5 ?_
    have k5:(attrsErr x.attrs==0)=false:=by simpa using h5
    generalize attrsErr x.attrs=e at hat k5 ⊢
    rw [acall_code T74,run_code rfl rfl]
    simp -implicitDefEqProofs (disch:=omega) only [Rx,simprocAttr,F74,htg,hfk,hft,hat,k5]
  simp only [ne_eq,Decidable.not_not] at h5
  rw [h5] at hat
  generalize (attrsChk [] 0 x.attrs).1=ez at hat
  have hd:=hD.doc
  by_cases h6:4294967295<(S.N:Int)
  · refine bad 21 (by simp only [createErr,h7,Bool.true_eq_false,if_false,if_neg h34,h5,ne_eq,not_true_eq_false,if_pos h6]) (by decide) ?_
    have k6:(S.N:Int) > 4294967295:=h6
    rw [acall_code T74,run_code rfl rfl]
    simp -implicitDefEqProofs (disch:=omega) only [Rx,simprocAttr,F74,htg,hfk,hft,hat,hd,k6]
  have k6:¬ (S.N:Int) > 4294967295:=h6
  have hz:createErr S.N x=0:=by simp only [createErr,h7,Bool.true_eq_false,if_false,if_neg h34,h5,ne_eq,not_true_eq_false,if_neg h6]
  rw [hz,if_pos rfl,if_pos rfl]
  have hNL:S.N ∉ liveL S:=fun h=>by have:=(mem_liveL.1 h).1;omega
  obtain ⟨hP,hF⟩:=hD.push hNL (fun c hc=>hI.tar hS hc) ⟨true, -1,x.tag,x.key,x.text,x.attrs⟩ ((S.N:Int)+1)
  refine ⟨_,_,upd I S.N ⟨none,none,none,none,none⟩,pushG (liveL S) nd pd pm S.N ⟨true, -1,x.tag,x.key,x.text,x.attrs⟩ ((S.N:Int)+1) g, ?_,by rw [liveL_create];exact hP,hI.create hS x,by rw [liveL_create];exact hF⟩
  have hcl:=cloneA_run x.attrs hx [] (n+37)
  simp only [List.length_nil,List.nil_append] at hcl
  have hpd:=(List.getElem?_eq_some_iff.1 hD.doc).1
  have hpm:=(List.getElem?_eq_some_iff.1 hD.map).1
  have hm:=hD.map
  have hk:=mapD_keys (liveL S) nd (S.N:Int)
  have hmk:=fun g=>make_run (S.N:Int) g (n+37)
  unfold pushG
  generalize hG:g.set pd (.cells 2 [[.map true pm,.p (.int .i64 ((S.N:Int)+1))]])=G
  have hGl:G.length=g.length:=by rw [← hG];simp
  have d1:G[pd]? = some (.cells 2 [[.map true pm,.p (.int .i64 ((S.N:Int)+1))]]):=by rw [← hG,List.getElem?_set,if_pos rfl,if_pos hpd]
  have d2:∀ X,(G++[X])[pd]? = some (.cells 2 [[.map true pm,.p (.int .i64 ((S.N:Int)+1))]]):=fun X=>by rw [List.getElem?_append_left (by omega)];exact d1
  have d3:∀ X Y,(G++[X]++[Y])[pd]? = some (.cells 2 [[.map true pm,.p (.int .i64 ((S.N:Int)+1))]]):=fun X Y=>by rw [List.getElem?_append_left (by simp;omega)];exact d2 X
  have m3:∀ X Y,(G++[X]++[Y])[pm]? = some (.map (mapD (liveL S) nd)):=fun X Y=>by
    rw [List.getElem?_append_left (by simp;omega),List.getElem?_append_left (by omega), ← hG,List.getElem?_set,if_neg hD.pp];exact hm
  have gl:∀ X,(G++[X]).length=g.length+1:=fun X=>by simp [hGl]
  have hput:=mput_mapD (nd:=nd) hNL (g.length+1)
  rw [acall_code T74,run_code rfl rfl]
  simp -implicitDefEqProofs (disch:=omega) only [Rx,simprocAttr,F74,htg,hfk,hft,hat,hd,k6,hG,hGl,d1,d2,d3,m3,gl,hk,hmk,hcl,hput,Option.isSome_some]
end
end Tryz
def docS (N:Nat):MS:=⟨N,fun h=>if h=0 then holder else deadN,fun _=>[]⟩
theorem liveL_docS (N:Nat):liveL (docS (N+1))=[0]:=by
 unfold liveL
 simp only [docS]
 rw [List.range_succ_eq_map,List.filter_cons,if_pos (by simp [holder]),List.filter_eq_nil_iff.2]
 intro a ha
 obtain ⟨b,_,rfl⟩:=List.mem_map.1 ha
 simp [deadN]
theorem docS_ok (N:Nat):(docS (N+1)).Ok 0 where
 pos:=by simp [docS]
 top:=by simp [docS,holder]
 kids p hp k hk:=by simp [docS] at hk
 up c hc:=by
  left
  simp only [docS]
  split <;> rfl
 dead h hh hl:=by
  simp only [docS] at hl ⊢
  split
  ·rename_i e;rw [if_pos e] at hl;simp [holder] at hl
  ·simp [deadN]
 nodup p hp:=by simp [docS]
 rank:=⟨fun _=>0,by simp,fun c p hc h=>by
  simp only [docS] at h
  split at h
  ·simp only [holder] at h;omega
  ·simp only [deadN] at h;omega⟩
 attrs h hh:=by
  simp only [docS]
  split <;> simp [holder,deadN]
theorem docS_link (N:Nat):LinkOk (docS (N+1)) (fun _=>⟨none,none,none,none,none⟩):=by
 refine ⟨fun c hc => ?_,fun c hc => ?_,fun c hc h=>⟨rfl,rfl⟩⟩
 ·rw [liveL_docS] at hc
  simp at hc;subst hc
  simp [upN,docS,holder]
 ·have:kidsN (docS (N+1)) c=[]:=by simp [kidsN,docS]
  rw [this];exact Linked.nil _ _
namespace Tryz
theorem docNew_run (N:Nat) (hN:(N:Int)+1≤4294967296) (g:List AObj) (n:Nat) :
  ∃ it nd pd pm g',acall T (n+2) 26 [.p (.int .i64 (((N+1:Nat):Int)))] g=some (DocP pd,g')∧DocAt (liveL (docS (N+1))) (docS (N+1)).st ((N+1:Nat):Int) it nd (fun _=>⟨none,none,none,none,none⟩) pd pm g'∧GFr g (fun _=>False) g' (DocOwn (liveL (docS (N+1))) it nd pd pm):=by
 have h1:¬ ((N+1:Nat):Int)<1:=by omega
 have h2:¬ ((N+1:Nat):Int) > 4294967296:=by omega
 have hmk:=fun g=>make_run 0 g n
 rw [liveL_docS]
 refine ⟨fun _=>g.length+1,fun _=>g.length+1+1,g.length+1+1+1,g.length,g++[.map [(.int .i64 0,.ptr true (g.length+1+1) 5 1 0 0)]]++[.pcells 6 [[.int .i64 0,.nilp,.nilp,.nilp,.nilp,.nilp]]]++[.cells 5 [[.ptr true (g.length+1) 6 1 0 0,.p (.str []),.p (.str []),.p (.str []),.p (.list [])]]]++[.cells 2 [[.map true g.length,.p (.int .i64 ((N+1:Nat):Int))]]], ?_,⟨?_, ?_,fun c hc => ?_,fun c hc => ?_,fun c hc d hd e => ?_,fun c hc d hd e => ?_,fun c hc d hd=>by omega,fun c hc=>by omega,fun c hc=>by omega,by omega⟩,⟨by simp,fun j hj _ => ?_,fun j hO hj => ?_⟩⟩
 ·generalize ((N+1:Nat):Int)=next at h1 h2 ⊢
  have e1:∀ X,(g++[X]).length=g.length+1:=fun X=>by simp
  have e2:∀ X Y,(g++[X]++[Y]).length=g.length+1+1:=fun X Y=>by simp
  have e3:∀ X Y Z,(g++[X]++[Y]++[Z]).length=g.length+1+1+1:=fun X Y Z=>by simp
  have e4:∀ X Y Z:AObj,(g++[X]++[Y]++[Z])[g.length]? = some X:=fun X Y Z=>by rw [List.getElem?_append_left (by simp),List.getElem?_append_left (by simp)];simp
  have e5:∀ X X' Y Z:AObj,(g++[X]++[Y]++[Z]).set g.length X'=g++[X']++[Y]++[Z]:=fun X X' Y Z=>by simp [List.set_append]
  have e6:∀ k x,mput 1 [] k x=[(k,x)]:=fun _ _=>rfl
  rw [acall_code T26,run_code rfl rfl]
  simp -implicitDefEqProofs (disch:=omega) only [Rx,simprocAttr,F26,h1,h2,hmk,e1,e2,e3,e4,e5,e6,Option.isSome_some]
 ·rw [List.getElem?_append_right (by simp)];simp
 ·simp [mapD]
 ·simp at hc;subst hc
  rw [List.getElem?_append_left (by simp),List.getElem?_append_right (by simp)]
  simp [nodeC,docS,holder]
 ·simp at hc;subst hc
  exact ⟨.pcells 6 [[.int .i64 0,.nilp,.nilp,.nilp,.nilp,.nilp]],by
   rw [List.getElem?_append_left (by simp),List.getElem?_append_left (by simp),List.getElem?_append_right (by simp)]
   simp,.inr ⟨_,rfl,by simp [itemC,iAV]⟩⟩
 ·simp at hc hd;omega
 ·simp at hc hd;omega
 ·rw [List.getElem?_append_left (by simp;omega),List.getElem?_append_left (by simp;omega),List.getElem?_append_left (by simp;omega),List.getElem?_append_left hj]
 ·rcases hO with rfl | rfl | ⟨c,hc,rfl | rfl⟩ <;> first | omega | (simp only at hj;omega)
end Tryz
end Go.TA


end
section
/- A document: a node ends, and all below it. -/
namespace Go.TA
theorem set_same {α : Type} {l:List α} {k:Nat} {a : α} (h:l[k]? = some a):l.set k a=l:=by
 apply List.ext_getElem?
 intro j
 rw [List.getElem?_set]
 split
 ·rename_i e;subst e
  rw [if_pos (List.getElem?_eq_some_iff.1 h).1,h]
 ·rfl
noncomputable def lessL (S:MS) (h:Nat) (L:List Nat):List Nat:=L.filter fun y:Nat => !(underB S (y:Int) (h:Int))
theorem DocAt.less {L:List Nat} {st:Nat→MNode} {nx:Int} {it nd:Nat→Nat} {I:Nat→LK} {pd pm:Nat} {g:List AObj} (h:DocAt L st nx it nd I pd pm g) {L':List Nat} (hL:∀ k ∈ L',k ∈ L):DocAt L' st nx it nd I pd pm (g.set pm (.map (mapD L' nd))) where
 doc:=by rw [List.getElem?_set,if_neg (fun e=>h.pp e.symm)];exact h.doc
 map:=by rw [List.getElem?_set,if_pos rfl,if_pos (List.getElem?_eq_some_iff.1 h.map).1]
 nodes c hc:=by rw [List.getElem?_set,if_neg (fun e=>(h.ndP c (hL c hc)).2 e.symm)];exact h.nodes c (hL c hc)
 items c hc:=by
  obtain ⟨o,ho,hr⟩:=h.items c (hL c hc)
  exact ⟨o,by rw [List.getElem?_set,if_neg (fun e=>(h.itP c (hL c hc)).2 e.symm)];exact ho,hr⟩
 itInj c hc d hd:=h.itInj c (hL c hc) d (hL d hd)
 ndInj c hc d hd:=h.ndInj c (hL c hc) d (hL d hd)
 itNd c hc d hd:=h.itNd c (hL c hc) d (hL d hd)
 itP c hc:=h.itP c (hL c hc)
 ndP c hc:=h.ndP c (hL c hc)
 pp:=h.pp
noncomputable def restL (S:MS) (h:Nat) (L:List Nat) (i:Nat):List Nat:=((kidsN S h).take i).foldl (fun L k=>lessL S k L) (L.filter fun y => !(y==h))
theorem restL_succ {S:MS} {h:Nat} {L:List Nat} {i k:Nat} (hk:(kidsN S h)[i]? = some k):restL S h L (i+1)=lessL S k (restL S h L i):=by
 unfold restL
 rw [List.take_add_one,hk,List.foldl_append];rfl
theorem mem_lessL {S:MS} {h y:Nat} {L:List Nat}:y ∈ lessL S h L↔y ∈ L∧¬ Below S (h:Int) (y:Int):=by
 unfold lessL
 rw [List.mem_filter]
 constructor
 ·rintro ⟨h1,h2⟩
  refine ⟨h1,fun hb => ?_⟩
  rw [underB_iff.2 hb] at h2;simp at h2
 ·rintro ⟨h1,h2⟩
  refine ⟨h1, ?_⟩
  cases hu:underB S (y:Int) (h:Int) with
  | false=>rfl
  | true=>exact absurd (underB_iff.1 hu) h2
theorem foldL_sub (S : MS) (L : List Nat) : ∀ (l : List Nat) (p0 : Nat → Bool), ∃ p : Nat → Bool, l.foldl (fun L k => lessL S k L) (L.filter p0) = L.filter p ∧ ∀ y, p y = true ↔ (p0 y = true ∧ ∀ k ∈ l, ¬ Below S (k : Int) (y : Int)) := by
  intro l
  induction l with
  | nil=>exact fun p0=>⟨p0,rfl,fun y=>by simp⟩
  | cons k l ih =>
    intro p0
    obtain ⟨p,h1,h2⟩:=ih (fun y => !(underB S (y:Int) (k:Int)) && p0 y)
    refine ⟨p, ?_,fun y => ?_⟩
    · rw [List.foldl_cons, ← h1]
      simp [lessL,List.filter_filter]
    · rw [h2,Bool.and_eq_true]
      have:(!(underB S (y:Int) (k:Int)))=true↔¬ Below S (k:Int) (y:Int):=by
        rw [← underB_iff];simp
      rw [this]
      constructor
      · rintro ⟨⟨a,b⟩,c⟩
        refine ⟨b,fun k' hk' => ?_⟩
        rcases List.mem_cons.1 hk' with h3 | h3
        · subst h3;exact a
        · exact c k' h3
      · rintro ⟨a,b⟩
        exact ⟨⟨b k (by simp),a⟩,fun k' hk'=>b k' (by simp [hk'])⟩
theorem restL_sub (S:MS) (h:Nat) (L:List Nat) (l:List Nat):∃ p:Nat→Bool,l.foldl (fun L k=>lessL S k L) (L.filter fun y => !(y==h))=L.filter p∧∀ y,p y=true↔(y≠h∧∀ k ∈ l,¬ Below S (k:Int) (y:Int)):=by
 obtain ⟨p,h1,h2⟩:=foldL_sub S L l (fun y => !(y==h))
 exact ⟨p,h1,fun y=>by rw [h2];simp⟩
theorem restL_all {R:Nat} {S:MS} (hS:S.Ok R) {h:Nat} (hh:h<S.N) {L:List Nat} (hL:∀ y ∈ L,y<S.N):restL S h L (kidsN S h).length=lessL S h L:=by
  obtain ⟨p,h1,h2⟩:=restL_sub S h L (kidsN S h)
  unfold restL
  rw [List.take_length,h1]
  unfold lessL
  refine List.filter_congr fun y hy => ?_
  have hb:p y=true↔¬ Below S (h:Int) (y:Int):=by
    rw [h2]
    constructor
    · rintro ⟨a,b⟩ hb
      obtain ⟨k,hk,hb'⟩:=below_kid hS hb y rfl (hL y hy) a
      obtain ⟨c,rfl,_⟩:=hS.kids h hh k hk
      exact b c ((mem_kidsN hS hh).2 hk) hb'
    · intro hb
      refine ⟨fun e=>by subst e;exact hb .here,fun k hk hb'=>hb ?_⟩
      exact kid_below hS hh ((mem_kidsN hS hh).1 hk) hb'
  cases hu:underB S (y:Int) (h:Int) with
  | false =>
    have:¬ Below S (h:Int) (y:Int):=fun b=>by rw [underB_iff.2 b] at hu;cases hu
    rw [hb.2 this];rfl
  | true =>
    cases hp:p y with
    | false=>rfl
    | true=>exact absurd (underB_iff.1 hu) (hb.1 hp)
theorem restL_nodup {S:MS} {h:Nat} {L:List Nat} (hn:L.Nodup) (i:Nat):(restL S h L i).Nodup:=by
 obtain ⟨p,h1,_⟩:=restL_sub S h L ((kidsN S h).take i)
 unfold restL
 rw [h1];exact hn.filter _
theorem restL_mem {S:MS} {h y:Nat} {L:List Nat} {i:Nat} (hy:y ∈ restL S h L i):y ∈ L:=by
 obtain ⟨p,h1,_⟩:=restL_sub S h L ((kidsN S h).take i)
 unfold restL at hy
 rw [h1] at hy
 exact (List.mem_filter.1 hy).1
namespace Tryz
section
variable {L:List Nat} {it:Nat→Nat} {I:Nat→LK} {g:List AObj}
theorem mark_it (hI:Items L it I g) {c:Nat} (hc:c ∈ L) (n:Nat):acall T (n+1) 85 [IP it c] g=some (.p (.int .i64 c),g):=by
 obtain ⟨o,ho,hr⟩:=hI c hc
 obtain ⟨r0,r1,r2,r3,r4,r5⟩:=item_rd hr
 rw [acall_code T85,run_code rfl rfl]
 simp -implicitDefEqProofs (disch:=omega) only [Rx,simprocAttr,F85,ho,r0]
theorem first_it (hI:Items L it I g) {c:Nat} (hc:c ∈ L) (n:Nat):acall T (n+1) 83 [IP it c] g=some (iAV it (I c).f,g):=by
 obtain ⟨o,ho,hr⟩:=hI c hc
 obtain ⟨r0,r1,r2,r3,r4,r5⟩:=item_rd hr
 rw [acall_code T83,run_code rfl rfl]
 simp -implicitDefEqProofs (disch:=omega) only [Rx,simprocAttr,F83,ho,r2,iAVe]
theorem next_it (hI:Items L it I g) {c:Nat} (hc:c ∈ L) (n:Nat):acall T (n+1) 84 [IP it c] g=some (iAV it (I c).n,g):=by
 obtain ⟨o,ho,hr⟩:=hI c hc
 obtain ⟨r0,r1,r2,r3,r4,r5⟩:=item_rd hr
 rw [acall_code T84,run_code rfl rfl]
 simp -implicitDefEqProofs (disch:=omega) only [Rx,simprocAttr,F84,ho,r5,iAVe]
end
abbrev BP (k:Nat):AV:=.ptr true k 1 1 0 0
section
variable {R:Nat} {S:MS} {nx:Int} {it nd:Nat→Nat} {I:Nat→LK} {pd pm bd bf:Nat} {g:List AObj}
def midG (g:List AObj) (pm:Nat) (nd:Nat→Nat) (L:List Nat):List AObj:=g.set pm (.map (mapD L nd))
structure Mid (S:MS) (nx:Int) (it nd:Nat→Nat) (I:Nat→LK) (pd pm bd bf:Nat) (g:List AObj):Prop where
 at':DocAt (liveL S) S.st nx it nd I pd pm g
 obd:g[bd]? = some (.cells 1 [[DocP pd]])
 obf:g[bf]? = some (.cells 1 [[.func 164 [BP bd,BP bf]]])
 bdp:bd≠pm
 bfp:bf≠pm
theorem endD_body (hS : S.Ok R) (hI : LinkOk S I) (hM : Mid S nx it nd I pd pm bd bf g) (n : Nat) (hn : (liveL S).length + 1 < n) (h : Nat) (hh : h ∈ liveL S) (L : List Nat) (hLn : L.Nodup) (hLs : ∀ y ∈ L, y < S.N)
    (ih:∀ c:Nat,c ∈ liveL S→(S.st c).up=(h:Int)→∀ L:List Nat,L.Nodup→(∀ y ∈ L,y<S.N)→acall T n 164 [IP it c,BP bd,BP bf] (midG g pm nd L)=some (.tuple [],midG g pm nd (lessL S c L))) :
    acall T (n+1) 164 [IP it h,BP bd,BP bf] (midG g pm nd L)=some (.tuple [],midG g pm nd (lessL S h L)):=by
  have hhN:=(mem_liveL.1 hh).1
  have hD:=hM.at'
  have hpm:=(List.getElem?_eq_some_iff.1 hD.map).1
  have gd:∀ L,(midG g pm nd L)[pd]? = some (.cells 2 [[.map true pm,.p (.int .i64 nx)]]):=fun L=>by
    unfold midG;rw [List.getElem?_set,if_neg (fun e=>hD.pp e.symm)];exact hD.doc
  have gbd:∀ L,(midG g pm nd L)[bd]? = some (.cells 1 [[DocP pd]]):=fun L=>by
    unfold midG;rw [List.getElem?_set,if_neg (fun e=>hM.bdp e.symm)];exact hM.obd
  have gbf:∀ L,(midG g pm nd L)[bf]? = some (.cells 1 [[.func 164 [BP bd,BP bf]]]):=fun L=>by
    unfold midG;rw [List.getElem?_set,if_neg (fun e=>hM.bfp e.symm)];exact hM.obf
  have gm:∀ L,(midG g pm nd L)[pm]? = some (.map (mapD L nd)):=fun L=>by
    unfold midG;rw [List.getElem?_set,if_pos rfl,if_pos hpm]
  have gs:∀ L L',(midG g pm nd L).set pm (.map (mapD L' nd))=midG g pm nd L':=fun L L'=>by unfold midG;simp
  have gi:∀ L,Items (liveL S) it I (midG g pm nd L):=fun L c hc=>by
    obtain ⟨o,ho,hr⟩:=hD.items c hc
    exact ⟨o,by unfold midG;rw [List.getElem?_set,if_neg (fun e=>(hD.itP c hc).2 e.symm)];exact ho,hr⟩
  have hl:=hI.kids h hh
  have hkl:(kidsN S h).length<n:=by
    have h1:=kd_len hS hhN
    have:(kidsN S h).length=(S.kd h).length:=by simp [kidsN]
    omega
  have hloop:aexec (acall T n) n (.loop B164x0) ⟨[(2,BP bf),(4,iAV it (kidsN S h)[0]?)],[],midG g pm nd (restL S h L 0)⟩=some (.exit 0,⟨[],[],midG g pm nd (lessL S h L)⟩):=by
    have key:=loop_inv (C:=acall T n) (N:=n) (B:=B164x0) (σ := Nat) (S:=fun i=>⟨[(2,BP bf),(4,iAV it (kidsN S h)[i]?)],[],midG g pm nd (restL S h L i)⟩)
      (I:=fun i=>i≤(kidsN S h).length) (μ := fun i=>(kidsN S h).length - i) (Q:=fun q=>q=(.exit 0,⟨[],[],midG g pm nd (lessL S h L)⟩)) ?_ 0 (by omega) (by omega)
    · obtain ⟨q,hq,rfl⟩:=key
      exact hq
    intro i hi
    by_cases hil:i<(kidsN S h).length
    · left
      obtain ⟨k,hk⟩:=get_some hil
      obtain ⟨hkL,hku⟩:=kidsN_up hS hhN (List.mem_of_getElem? hk)
      have ihk:=ih k hkL hku (restL S h L i) (restL_nodup hLn i) (fun y hy=>hLs y (restL_mem hy))
      rw [← restL_succ hk] at ihk
      have hnx:(I k).n=(kidsN S h)[i+1]? := hl.next i k hk
      have hne:=next_it (gi (restL S h L (i+1))) hkL (n - 1)
      rw [show n - 1+1=n by omega,hnx] at hne
      refine ⟨i+1, ?_,by omega,by omega⟩
      rw [hk]
      have g1:=gbf (restL S h L i)
      generalize (kidsN S h)[i+1]? = z at hne ⊢
      generalize midG g pm nd (restL S h L i)=G1 at ihk g1 ⊢
      generalize midG g pm nd (restL S h L (i+1))=G2 at ihk hne ⊢
      simp -implicitDefEqProofs (disch:=omega) only [Rx,simprocAttr,B164x0,iAVs,iAVe,g1,ihk,hne]
    · right
      obtain rfl:i=(kidsN S h).length:=by omega
      refine ⟨_, ?_, ?_,rfl⟩
      · rw [restL_all hS hhN hLs,List.getElem?_eq_none_iff.2 (Nat.le_refl _)]
        simp -implicitDefEqProofs (disch:=omega) only [Rx,simprocAttr,B164x0,iAVs]
      · simp
  have hfi:=first_it (gi (L.filter fun y => !(y==h))) hh (n - 1)
  have hma:=mark_it (gi L) hh (n - 1)
  rw [show n - 1+1=n by omega] at hfi hma
  rw [hl.first] at hfi
  have e0:restL S h L 0=L.filter fun y => !(y==h):=rfl
  rw [e0] at hloop
  have hk:=mapD_keys L nd (h:Int)
  have hdel:=mdel_mapD hLn nd h
  have g1:=gd L
  have g2:=gbd L
  have g3:=gm L
  have g4:=gs L (L.filter fun y => !(y==h))
  rw [acall_code T164,run_code rfl rfl]
  generalize (kidsN S h)[0]? = z at hloop hfi
  generalize midG g pm nd L=G1 at g1 g2 g3 g4 hma ⊢
  generalize midG g pm nd (L.filter fun y => !(y==h))=G2 at g4 hfi hloop
  simp -implicitDefEqProofs (disch:=omega) only [Rx,simprocAttr,F164,iAVe,g1,g2,g3,g4,hk,hdel,hma,hfi,hloop]
theorem endD_gen (hS:S.Ok R) (hI:LinkOk S I) (hM:Mid S nx it nd I pd pm bd bf g) {r:Nat→Nat} (hr1:∀ c,c<S.N→r c≤R) (hr2:∀ c p:Nat,c<S.N→(S.st c).up=(p:Int)→r p<r c) (n:Nat) (hn:(liveL S).length+1<n) :
    ∀ (d h:Nat) (L:List Nat),h ∈ liveL S→R≤r h+d→L.Nodup→(∀ y ∈ L,y<S.N)→acall T (n+d+1) 164 [IP it h,BP bd,BP bf] (midG g pm nd L)=some (.tuple [],midG g pm nd (lessL S h L)):=by
  intro d
  induction d with
  | zero =>
    intro h L hh hR hn1 hL
    exact endD_body hS hI hM n hn h hh L hn1 hL (fun c hc hcu=>by
      have:=hr1 c (mem_liveL.1 hc).1
      have:=hr2 c h (mem_liveL.1 hc).1 hcu
      omega)
  | succ d ih =>
    intro h L hh hR hn1 hL
    exact endD_body hS hI hM (n+d+1) (by omega) h hh L hn1 hL (fun c hc hcu L hn1 hL=>by
      have:=hr2 c h (mem_liveL.1 hc).1 hcu
      exact ih c L hc (by omega) hn1 hL)
theorem rem_run (hS:S.Ok R) (hI:LinkOk S I) (hD:DocAt (liveL S) S.st nx it nd I pd pm g) (id:Int) {n:Nat} (hn:(liveL S).length+1<n) :
    ∃ I' g',acall T (n+R+2) 107 [DocP pd,.p (.int .i64 id)] g=some (.p (.int .i64 (removeD S id).1),g')∧DocAt (liveL (removeD S id).2) (removeD S id).2.st nx it nd I' pd pm g'∧LinkOk (removeD S id).2 I'∧GFr g (DocOwn (liveL S) it nd pd pm) g' (DocOwn (liveL (removeD S id).2) it nd pd pm):=by
  have hD0:=hD.more [AObj.cells 1 [[DocP pd]]]
  have gfr0:GFr g (DocOwn (liveL S) it nd pd pm) (g++[AObj.cells 1 [[DocP pd]]]) (DocOwn (liveL S) it nd pd pm):=⟨by simp,fun j hj _=>List.getElem?_append_left hj,fun j hj _=>hj⟩
  have hbd0:(g++[AObj.cells 1 [[DocP pd]]])[g.length]? = some (.cells 1 [[DocP pd]]):=by simp
  have hl:=live_run hD0 id (n+R)
  unfold liveR at hl
  unfold removeD
  by_cases hf:fitE S id≠0
  · rw [if_pos hf]
    rw [if_neg hf] at hl
    have e1:(fitE S id==0)=false:=by simpa using hf
    refine ⟨I,_, ?_,hD0,hI,gfr0⟩
    rw [acall_code T107,run_code rfl rfl]
    generalize fitE S id=e at hl e1 ⊢
    generalize hG:g++[AObj.cells 1 [[DocP pd]]]=G at hl hbd0
    simp -implicitDefEqProofs (disch:=omega) only [Rx,simprocAttr,F107,hG,hl,e1,hbd0]
  rw [if_neg hf]
  simp only [ne_eq,Decidable.not_not] at hf
  obtain ⟨c,rfl,hcL,hc0⟩:=fitE_zero hf
  rw [if_pos hf,hf] at hl
  simp only [Int.toNat_natCast] at hl ⊢
  have hcN:=(mem_liveL.1 hcL).1
  have hdr:∃ e g1,acall T (n+R+1) 163 [IP it c] (g++[AObj.cells 1 [[DocP pd]]])=some (.p (.int .i64 e),g1)∧∃ I1,DocAt (liveL (takeM S c)) (takeM S c).st nx it nd I1 pd pm g1∧LinkOk (takeM S c) I1∧GFr (g++[AObj.cells 1 [[DocP pd]]]) (DocOwn (liveL S) it nd pd pm) g1 (DocOwn (liveL S) it nd pd pm):=by
    rcases hS.up c hcN with h1 | ⟨u,hu1,hu2,hu3,_⟩
    · have hn0:(I c).u=none:=by rw [hI.up c hcL];exact upN_none hS hcN (by omega)
      have e:takeM S c=S:=by unfold takeM;rw [if_pos (by omega)]
      rw [e]
      exact ⟨16,_,drop_free hD0 hcL hn0 (n+R),I,hD0,hI,GFr.refl _ _⟩
    · obtain ⟨q1,q2,q3,q4,q5,q6⟩:=dropped hS hI hcL hu2
      obtain ⟨g1,hd1,hD1,hF1⟩:=drop_done hD0 hcL q1 q2 q3 q4 q5 (n+R)
      exact ⟨0,g1,hd1,_,hD1.taken c,q6,hF1⟩
  obtain ⟨e0,g1,hdr,I1,hD1,hI1,hF1⟩:=hdr
  obtain ⟨hT,hTu⟩:=hS.take hcN (mem_liveL.1 hcL).2
  have hLT:=liveL_take S c
  have hbd1:g1[g.length]? = some (.cells 1 [[DocP pd]]):=by
    rw [hF1.keep g.length (by simp) (fun h=>by have:=hD.own_lt h;omega)];exact hbd0
  have hg1:g.length+1≤g1.length:=by have:=hF1.len;simpa using this
  have hcT:c ∈ liveL (takeM S c):=by rw [hLT];exact hcL
  have hX:=hD1.more [AObj.cells 1 [[.func 164 [BP g.length,BP g1.length]]]]
  have hMid:Mid (takeM S c) nx it nd I1 pd pm g.length g1.length (g1++[AObj.cells 1 [[.func 164 [BP g.length,BP g1.length]]]]):=by
    refine ⟨hX, ?_,by simp,fun e => ?_,fun e => ?_⟩
    · rw [List.getElem?_append_left (by omega)];exact hbd1
    · have:=hD.own_lt (j:=pm) (.inr (.inl rfl));omega
    · have:=hD1.own_lt (j:=pm) (.inr (.inl rfl));omega
  obtain ⟨r,hr1,hr2⟩:=hT.rank
  have hend:=endD_gen hT hI1 hMid hr1 hr2 n (by rw [hLT];exact hn) R c (liveL (takeM S c)) hcT (by omega) (liveL_nodup _) (fun y hy=>(mem_liveL.1 hy).1)
  have hmid0:midG (g1++[AObj.cells 1 [[.func 164 [BP g.length,BP g1.length]]]]) pm nd (liveL (takeM S c))=g1++[AObj.cells 1 [[.func 164 [BP g.length,BP g1.length]]]]:=by
    unfold midG
    exact set_same hX.map
  rw [hmid0] at hend
  have hless:lessL (takeM S c) c (liveL (takeM S c))=liveL (endM (takeM S c) (c:Int)):=by
    rw [liveL_end hc0,hLT]
    unfold lessL
    refine List.filter_congr fun y _ => ?_
    have hb:=take_below (S:=S) hc0 (y:Int)
    cases hu:underB S (y:Int) (c:Int) with
    | true=>rw [underB_iff.2 (hb.1 (underB_iff.1 hu))]
    | false =>
      cases hu2:underB (takeM S c) (y:Int) (c:Int) with
      | false=>rfl
      | true=>rw [underB_iff.2 (hb.2 (underB_iff.1 hu2))] at hu;cases hu
  have hkept:=end_kept (S:=S) hc0
  rw [← liveL_end hc0] at hkept
  have hsub:∀ k ∈ liveL (endM (takeM S c) (c:Int)),k ∈ liveL (takeM S c):=fun k hk=>by
    rw [← hless] at hk
    exact (mem_lessL.1 hk).1
  have hnec:∀ k ∈ liveL (endM (takeM S c) (c:Int)),k≠c:=fun k hk e=>by
    rw [← hless] at hk
    subst e
    exact (mem_lessL.1 hk).2 .here
  have hstT:∀ k,k≠c→(takeM S c).st k=S.st k:=fun k hk=>by
    unfold takeM
    split
    · rfl
    · simp only;rw [upd_ne hk]
  have hfin:=hX.less (L':=liveL (endM (takeM S c) (c:Int))) hsub
  have hfin2:=hfin.st_congr (st':=(endM (takeM S c) (c:Int)).st) (I':=I1) (fun k hk=>by
    rw [← (hkept k hk).1,hstT k (hnec k hk)]) (fun _ _=>rfl)
  rw [hless] at hend
  refine ⟨I1,_, ?_,hfin2,hI1.less hsub (fun k hk=>by rw [← (hkept k hk).1,hstT k (hnec k hk)]) (fun k hk=>(hkept k hk).2.symm), ?_⟩
  · have hnd0:=hD0.nodes c hcL
    have hnd1:=hX.nodes c hcT
    simp only [nodeC] at hnd0 hnd1
    have e5:(g1++[AObj.pcells 1 [[.nilf]]]).set g1.length (.cells 1 [[.func 164 [BP g.length,BP g1.length]]])=g1++[AObj.cells 1 [[.func 164 [BP g.length,BP g1.length]]]]:=by simp [List.set_append]
    have e6:(g1++[AObj.pcells 1 [[.nilf]]])[g1.length]? = some (.pcells 1 [[.nilf]]):=by simp
    have e7:(g1++[AObj.cells 1 [[.func 164 [BP g.length,BP g1.length]]]])[g1.length]? = some (.cells 1 [[.func 164 [BP g.length,BP g1.length]]]):=by simp
    rw [show n+R+1=n+R+1 from rfl] at hend
    unfold midG at hend
    generalize (g1++[AObj.cells 1 [[.func 164 [BP g.length,BP g1.length]]]]).set pm (.map (mapD (liveL (endM (takeM S c) (c:Int))) nd))=gf at hend ⊢
    generalize hG2:g1++[AObj.cells 1 [[.func 164 [BP g.length,BP g1.length]]]]=G2 at hend e5 e7 hnd1
    generalize hG0:g++[AObj.cells 1 [[DocP pd]]]=G0 at hl hbd0 hdr hnd0
    rw [acall_code T107,run_code rfl rfl]
    simp -implicitDefEqProofs (disch:=omega) only [Rx,simprocAttr,F107,hG0,hl,hbd0,hnd0,hdr,e5,e6,e7,hnd1,hend]
  · refine ⟨by have:=hF1.len;simp at this ⊢;omega,fun j hj hO => ?_,fun j hO hj => ?_⟩
    · rw [List.getElem?_set,if_neg (fun e=>hO (.inr (.inl e.symm))),List.getElem?_append_left (by omega),hF1.keep j (by simp;omega) hO,List.getElem?_append_left hj]
    · rcases hO with e | e | ⟨k,hk,e⟩
      · exact .inl e
      · exact .inr (.inl e)
      · exact .inr (.inr ⟨k,by rw [← hLT];exact hsub k hk,e⟩)
end
end Tryz
end Go.TA


end
section
/- What is done with a document leaves a document. Plain. -/
namespace Go.TA
section
variable {R:Nat} {S:MS}
theorem insertD_ok (hS:S.Ok R) (id up b:Int):(insertD S id up b).2.Ok (R+R+1):=by
 have hm:S.Ok (R+R+1):=hS.more (by omega)
 unfold insertD
 split
 ·exact hm
 rename_i hf
 obtain ⟨c,rfl,hcL,hc0⟩:=fit_live hf
 obtain ⟨hcN,hcl⟩:=mem_liveL.1 hcL
 split
 ·exact hm
 rename_i hl
 simp only [Bool.not_eq_false,Bool.and_eq_true] at hl
 split
 ·exact hm
 split
 ·exact hm
 split
 ·exact hm
 rename_i h1 h2 h3
 obtain ⟨u,hu,huN,hul⟩:=live_nat hl.1
 subst hu
 simp only [Int.toNat_natCast]
 refine hS.place _ hcN hcl hc0 ?_ huN hul (fun hb=>h2 (underB_iff.2 hb))
 rcases hS.up c hcN with h4 | ⟨p,_,h4,_⟩
 ·exact h4
 ·exact absurd (show (0:Int)≤upOf S (c:Int) by rw [show upOf S (c:Int)=(p:Int) from h4];omega) h1
theorem moveD_ok (hS:S.Ok R) (id b:Int):(moveD S id b).2.Ok (R+R+1):=by
 have hm:S.Ok (R+R+1):=hS.more (by omega)
 unfold moveD
 split
 ·exact hm
 rename_i hf
 obtain ⟨c,rfl,hcL,hc0⟩:=fit_live hf
 obtain ⟨hcN,hcl⟩:=mem_liveL.1 hcL
 split
 ·exact hm
 split
 ·exact hm
 split
 ·exact hm
 rename_i h0 h1 h2
 have hup:upOf S (c:Int)=(S.st c).up:=rfl
 obtain ⟨p,hp,_⟩:=hS.up_nat hcN (by omega)
 rw [hup,hp]
 simp only [Int.toNat_natCast]
 exact place_ok hS _ hcN hcl (by omega) hp
theorem removeD_ok (hS:S.Ok R) (id:Int):(removeD S id).2.Ok (R+R+1):=by
 have hm:S.Ok (R+R+1):=hS.more (by omega)
 unfold removeD
 split
 ·exact hm
 rename_i hf
 obtain ⟨c,rfl,hcL,hc0⟩:=fit_live hf
 obtain ⟨hcN,hcl⟩:=mem_liveL.1 hcL
 simp only [Int.toNat_natCast]
 obtain ⟨hT,hup⟩:=hS.take hcN hcl
 exact (hT.endM (by rw [takeM_N];exact hcN) (by omega) hup).more (by omega)
theorem setM_ok (hS:S.Ok R) {h:Nat} {a:List Attr} (ha:a.length≤1048577):(setM S h a).Ok R:=by
 refine hS.same fun c hc => ?_
 by_cases e:c=h
 ·subst e;rw [upd_at];exact ⟨rfl,rfl,ha⟩
 ·rw [upd_ne e];exact ⟨rfl,rfl,hS.attrs c hc⟩
theorem doD_ok (hS:S.Ok R) (x:GOp) (hx:x.attrs.length≤1048577):(doD S x).2.2.Ok (R+R+1):=by
 have hm:S.Ok (R+R+1):=hS.more (by omega)
 unfold doD
 split
 ·split
  ·exact (hS.create x hx).more (by omega)
  ·exact hm
 split
 ·exact insertD_ok hS _ _ _
 split
 ·exact moveD_ok hS _ _
 split
 ·exact removeD_ok hS _
 split
 ·unfold setD
  repeat' split
  all_goals first | exact hm | exact (setM_ok hS (by omega)).more (by omega)
 split
 ·unfold delD
  split
  ·exact hm
  rename_i hf
  obtain ⟨c,hc,hcL,hc0⟩:=fit_live hf
  split
  ·rename_i hlt
   have:=hS.attrs c (mem_liveL.1 hcL).1
   rw [hc] at hlt ⊢
   simp only [Int.toNat_natCast] at hlt ⊢
   exact (setM_ok hS (by omega)).more (by omega)
  ·exact hm
 split
 ·unfold textD
  split
  ·exact hm
  rename_i hf
  obtain ⟨c,hc,hcL,hc0⟩:=fit_live hf
  split
  ·exact hm
  ·refine (hS.same fun d hd => ?_).more (by omega)
   rw [hc]
   simp only [Int.toNat_natCast]
   by_cases e:d=c
   ·subst e;rw [upd_at];exact ⟨rfl,rfl,hS.attrs d hd⟩
   ·rw [upd_ne e];exact ⟨rfl,rfl,hS.attrs d hd⟩
 ·exact hm
theorem insN (S:MS) (id up b:Int):(insertD S id up b).2.N=S.N:=by
 unfold insertD;repeat' split
 all_goals rfl
theorem movN (S:MS) (id b:Int):(moveD S id b).2.N=S.N:=by
 unfold moveD;repeat' split
 all_goals first | rfl | (simp [placeM,takeM_N];done)
theorem remN (S:MS) (id:Int):(removeD S id).2.N=S.N:=by
 unfold removeD;split
 ·rfl
 ·simp [endM,takeM_N]
theorem setN (S:MS) (id:Int) (name v:Bs):(setD S id name v).2.N=S.N:=by
 unfold setD;repeat' split
 all_goals rfl
theorem delN (S:MS) (id:Int) (name:Bs):(delD S id name).2.N=S.N:=by
 unfold delD;repeat' split
 all_goals rfl
theorem texN (S:MS) (id:Int) (s:Bs):(textD S id s).2.N=S.N:=by
 unfold textD;repeat' split
 all_goals rfl
theorem doD_N (S:MS) (x:GOp):(x.kind=1∧(doD S x).2.1=0∧(doD S x).1=(S.N:Int)∧(doD S x).2.2.N=S.N+1)∨((x.kind=1→(doD S x).2.1≠0)∧(doD S x).2.2.N=S.N):=by
 unfold doD
 split
 ·rename_i k
  split
  ·exact .inl ⟨k,rfl,rfl,rfl⟩
  ·exact .inr ⟨fun _=>by assumption,rfl⟩
 rename_i k
 refine .inr ⟨fun h=>absurd h k, ?_⟩
 split
 ·exact insN _ _ _ _
 split
 ·exact movN _ _ _
 split
 ·exact remN _ _
 split
 ·exact setN _ _ _ _
 split
 ·exact delN _ _ _
 split
 ·exact texN _ _ _
 ·rfl
theorem doD_live (hS:S.Ok R) (x:GOp):(liveL (doD S x).2.2).length≤(liveL S).length+1:=by
 have hle:∀ S':MS,liveL S'=liveL S→(liveL S').length≤(liveL S).length+1:=fun S' e=>by rw [e];omega
 have hset:∀ (h:Nat) (s:MNode),s.live=(S.st h).live→(liveL (⟨S.N,upd S.st h s,S.kd⟩:MS)).length≤(liveL S).length+1:=fun h s e=>hle _ (liveL_node (S:=S) e)
 unfold doD
 split
 ·split
  ·rw [liveL_create];simp
  ·simp
 split
 ·unfold insertD
  repeat' split
  all_goals first | (simp;done) | exact hle _ (liveL_place _ _ _ _)
 split
 ·unfold moveD
  repeat' split
  all_goals first | (simp;done) | exact hle _ ((liveL_place _ _ _ _).trans (liveL_take _ _))
 split
 ·unfold removeD
  split
  ·simp
  rename_i hf
  obtain ⟨c,hc,hcL,hc0⟩:=fit_live hf
  rw [hc]
  simp only [Int.toNat_natCast]
  rw [liveL_end hc0]
  have:=List.length_filter_le (fun h:Nat => !(underB S (h:Int) (c:Int))) (liveL S)
  omega
 split
 ·unfold setD
  repeat' split
  all_goals first | (simp;done) | exact hset _ _ rfl
 split
 ·unfold delD
  repeat' split
  all_goals first | (simp;done) | exact hset _ _ rfl
 split
 ·unfold textD
  repeat' split
  all_goals first | (simp;done) | exact hset _ _ rfl
 ·simp
theorem LinkOk.nodeL {I:Nat→LK} (hI:LinkOk S I) {h:Nat} (s:MNode) (hu:s.up=(S.st h).up) (hl:s.live=(S.st h).live):LinkOk (⟨S.N,upd S.st h s,S.kd⟩:MS) I:=by
 have e:liveL (⟨S.N,upd S.st h s,S.kd⟩:MS)=liveL S:=liveL_node (S:=S) hl
 refine hI.less (fun k hk=>by rw [e] at hk;exact hk) (fun k _ => ?_) (fun k _=>rfl)
 simp only [upd]
 split
 ·rename_i e2;subst e2;exact hu
 ·rfl
end
end Go.TA


end
section
/- A document: any call, by its kind. -/
namespace Go.TA
structure Doc (R:Nat) (S:MS) (it nd:Nat→Nat) (I:Nat→LK) (pd pm:Nat) (g:List AObj):Prop where
 ok:S.Ok R
 link:LinkOk S I
 lies:DocAt (liveL S) S.st S.N it nd I pd pm g
abbrev OwnD (S:MS) (it nd:Nat→Nat) (pd pm:Nat):Nat→Prop:=DocOwn (liveL S) it nd pd pm
namespace Tryz
section
variable {R:Nat} {S:MS} {it nd:Nat→Nat} {I:Nat→LK} {pd pm:Nat} {g:List AObj}
theorem calls_run (hD:Doc R S it nd I pd pm g) (x:GOp) (hx:x.attrs.length≤1048577) {n:Nat} (hR:R+3<n) (hn:(liveL S).length+1<n) (hn2:1048578<n) :
  (x.kind=1→∃ it' nd' I' g',acall T (n+R+40) 74 [DocP pd,.p (.str x.tag),.p (.str x.key),.p (.str x.text),.p (.list (x.attrs.map Attr.pv))] g=some (.tuple [.p (.int .i64 (doD S x).1),.p (.int .i64 (doD S x).2.1)],g')∧Doc (R+R+1) (doD S x).2.2 it' nd' I' pd pm g'∧GFr g (OwnD S it nd pd pm) g' (OwnD (doD S x).2.2 it' nd' pd pm)) ∧
  (x.kind=2→(doD S x).1=0∧∃ it' nd' I' g',acall T (n+R+40) 75 [DocP pd,.p (.int .i64 x.node),.p (.int .i64 x.up),.p (.int .i64 x.before)] g=some (.p (.int .i64 (doD S x).2.1),g')∧Doc (R+R+1) (doD S x).2.2 it' nd' I' pd pm g'∧GFr g (OwnD S it nd pd pm) g' (OwnD (doD S x).2.2 it' nd' pd pm)) ∧
  (x.kind=3→(doD S x).1=0∧∃ it' nd' I' g',acall T (n+R+40) 106 [DocP pd,.p (.int .i64 x.node),.p (.int .i64 x.before)] g=some (.p (.int .i64 (doD S x).2.1),g')∧Doc (R+R+1) (doD S x).2.2 it' nd' I' pd pm g'∧GFr g (OwnD S it nd pd pm) g' (OwnD (doD S x).2.2 it' nd' pd pm)) ∧
  (x.kind=4→(doD S x).1=0∧∃ it' nd' I' g',acall T (n+R+40) 107 [DocP pd,.p (.int .i64 x.node)] g=some (.p (.int .i64 (doD S x).2.1),g')∧Doc (R+R+1) (doD S x).2.2 it' nd' I' pd pm g'∧GFr g (OwnD S it nd pd pm) g' (OwnD (doD S x).2.2 it' nd' pd pm)) ∧
  (x.kind=5→(doD S x).1=0∧∃ it' nd' I' g',acall T (n+R+40) 108 [DocP pd,.p (.int .i64 x.node),.p (.str x.name),.p (.str x.text)] g=some (.p (.int .i64 (doD S x).2.1),g')∧Doc (R+R+1) (doD S x).2.2 it' nd' I' pd pm g'∧GFr g (OwnD S it nd pd pm) g' (OwnD (doD S x).2.2 it' nd' pd pm)) ∧
  (x.kind=6→(doD S x).1=0∧∃ it' nd' I' g',acall T (n+R+40) 109 [DocP pd,.p (.int .i64 x.node),.p (.str x.name)] g=some (.p (.int .i64 (doD S x).2.1),g')∧Doc (R+R+1) (doD S x).2.2 it' nd' I' pd pm g'∧GFr g (OwnD S it nd pd pm) g' (OwnD (doD S x).2.2 it' nd' pd pm)) ∧
  (x.kind=7→(doD S x).1=0∧∃ it' nd' I' g',acall T (n+R+40) 110 [DocP pd,.p (.int .i64 x.node),.p (.str x.text)] g=some (.p (.int .i64 (doD S x).2.1),g')∧Doc (R+R+1) (doD S x).2.2 it' nd' I' pd pm g'∧GFr g (OwnD S it nd pd pm) g' (OwnD (doD S x).2.2 it' nd' pd pm)):=by
 obtain ⟨hS,hI,hA⟩:=hD
 have hok:=doD_ok hS x hx
 refine ⟨fun k => ?_,fun k => ?_,fun k => ?_,fun k => ?_,fun k => ?_,fun k => ?_,fun k => ?_⟩
 ·obtain ⟨it',nd',I',g',h1,h2,h3,h4⟩:=cre_run hS hI hA x hx (n:=n+R+1) (by omega)
  have e:doD S x=if createErr S.N x=0 then ((S.N:Int),0,S.create x) else (0,createErr S.N x,S):=by unfold doD;rw [if_pos k]
  by_cases hz:createErr S.N x=0
  ·rw [if_pos hz] at h1 h2 h3 h4 e
   rw [e] at hok ⊢
   exact ⟨it',nd',I',g',h1,⟨hok,h3,h2⟩,h4⟩
  ·rw [if_neg hz] at h1 h2 h3 h4 e
   rw [e] at hok ⊢
   exact ⟨it',nd',I',g',h1,⟨hok,h3,h2⟩,h4⟩
 ·have e:doD S x=(0,insertD S x.node x.up x.before):=by unfold doD;rw [if_neg (by omega),if_pos k]
  rw [e] at hok ⊢
  obtain ⟨I',g',h1,h2,h3,h4⟩:=ins_run hS hI hA x.node x.up x.before (n:=n+R+37) (by omega)
  exact ⟨rfl,it,nd,I',g',h1,⟨hok,h3,by rw [insertD_N'];exact h2⟩,h4⟩
 ·have e:doD S x=(0,moveD S x.node x.before):=by unfold doD;rw [if_neg (by omega),if_neg (by omega),if_pos k]
  rw [e] at hok ⊢
  obtain ⟨I',g',h1,h2,h3,h4⟩:=mov_run hS hI hA x.node x.before (n:=n+R+37) (by omega)
  exact ⟨rfl,it,nd,I',g',h1,⟨hok,h3,by rw [moveD_N'];exact h2⟩,h4⟩
 ·have e:doD S x=(0,removeD S x.node):=by unfold doD;rw [if_neg (by omega),if_neg (by omega),if_neg (by omega),if_pos k]
  rw [e] at hok ⊢
  obtain ⟨I',g',h1,h2,h3,h4⟩:=rem_run hS hI hA x.node (n:=n+38) (by omega)
  rw [show n+38+R+2=n+R+40 by omega] at h1
  have hN:(removeD S x.node).2.N=S.N:=by
   unfold removeD;split
   ·rfl
   ·simp [endM,takeM_N]
  exact ⟨rfl,it,nd,I',g',h1,⟨hok,h3,by rw [hN];exact h2⟩,h4⟩
 ·have e:doD S x=(0,setD S x.node x.name x.text):=by unfold doD;rw [if_neg (by omega),if_neg (by omega),if_neg (by omega),if_neg (by omega),if_pos k]
  rw [e] at hok ⊢
  obtain ⟨g',h1,h2,h4⟩:=set_run hS hA x.node x.name x.text (n:=n+R+3) (by omega)
  have hN:(setD S x.node x.name x.text).2.N=S.N:=by
   unfold setD
   repeat' split
   all_goals rfl
  have hl:LinkOk (setD S x.node x.name x.text).2 I:=by
   unfold setD;repeat' split
   all_goals first | exact hI | exact LinkOk.nodeL hI _ rfl rfl
  exact ⟨rfl,it,nd,I,g',h1,⟨hok,hl,by rw [hN];exact h2⟩,h4⟩
 ·have e:doD S x=(0,delD S x.node x.name):=by unfold doD;rw [if_neg (by omega),if_neg (by omega),if_neg (by omega),if_neg (by omega),if_neg (by omega),if_pos k]
  rw [e] at hok ⊢
  obtain ⟨g',h1,h2,h4⟩:=del_run hS hA x.node x.name (n:=n+R+35) (by omega)
  have hN:(delD S x.node x.name).2.N=S.N:=by
   unfold delD
   repeat' split
   all_goals rfl
  have hl:LinkOk (delD S x.node x.name).2 I:=by
   unfold delD;repeat' split
   all_goals first | exact hI | exact LinkOk.nodeL hI _ rfl rfl
  exact ⟨rfl,it,nd,I,g',h1,⟨hok,hl,by rw [hN];exact h2⟩,h4⟩
 ·have e:doD S x=(0,textD S x.node x.text):=by unfold doD;rw [if_neg (by omega),if_neg (by omega),if_neg (by omega),if_neg (by omega),if_neg (by omega),if_neg (by omega),if_pos k]
  rw [e] at hok ⊢
  obtain ⟨g',h1,h2,h4⟩:=text_run hA x.node x.text (n+R+37)
  have hN:(textD S x.node x.text).2.N=S.N:=by
   unfold textD
   repeat' split
   all_goals rfl
  have hl:LinkOk (textD S x.node x.text).2 I:=by
   unfold textD;repeat' split
   all_goals first | exact hI | exact LinkOk.nodeL hI _ rfl rfl
  exact ⟨rfl,it,nd,I,g',h1,⟨hok,hl,by rw [hN];exact h2⟩,h4⟩
end
end Tryz
end Go.TA


end
section
/- What fields an operation's kind does not use: what they are. Plain. -/
namespace Go.TA
def nzI (n:Int):Bool := !(n==0)
def nzS (s:Bs):Bool := !(s==[])
def nzA (l:List Attr):Bool:=decide (0<(l.length:Int))
def none1 (x:GOp):Bool:=nzI x.node || (nzI x.up || (nzI x.before || (nzS x.name)))
def none2 (x:GOp):Bool:=nzS x.tag || (nzS x.key || (nzA x.attrs || (nzS x.name || (nzS x.text))))
def none3 (x:GOp):Bool:=nzS x.tag || (nzS x.key || (nzA x.attrs || (nzI x.up || (nzS x.name || (nzS x.text)))))
def none4 (x:GOp):Bool:=nzS x.tag || (nzS x.key || (nzA x.attrs || (nzI x.up || (nzI x.before || (nzS x.name || (nzS x.text))))))
def none5 (x:GOp):Bool:=nzS x.tag || (nzS x.key || (nzA x.attrs || (nzI x.up || (nzI x.before))))
def none6 (x:GOp):Bool:=nzS x.tag || (nzS x.key || (nzA x.attrs || (nzI x.up || (nzI x.before || (nzS x.text)))))
def none7 (x:GOp):Bool:=nzS x.tag || (nzS x.key || (nzA x.attrs || (nzI x.up || (nzI x.before || (nzS x.name)))))
def noneB (x:GOp):Bool:=if x.kind=1 then none1 x else if x.kind=2 then none2 x else if x.kind=3 then none3 x else if x.kind=4 then none4 x else if x.kind=5 then none5 x else if x.kind=6 then none6 x else if x.kind=7 then none7 x else false
def used1 (x:GOp):GOp:=⟨x.kind,0,0,0,x.tag,x.key,[],x.text,x.attrs⟩
def used2 (x:GOp):GOp:=⟨x.kind,x.node,x.up,x.before,[],[],[],[],[]⟩
def used3 (x:GOp):GOp:=⟨x.kind,x.node,0,x.before,[],[],[],[],[]⟩
def used4 (x:GOp):GOp:=⟨x.kind,x.node,0,0,[],[],[],[],[]⟩
def used5 (x:GOp):GOp:=⟨x.kind,x.node,0,0,[],[],x.name,x.text,[]⟩
def used6 (x:GOp):GOp:=⟨x.kind,x.node,0,0,[],[],x.name,[],[]⟩
def used7 (x:GOp):GOp:=⟨x.kind,x.node,0,0,[],[],[],x.text,[]⟩
def usedOp (x:GOp):GOp:=if x.kind=1 then used1 x else if x.kind=2 then used2 x else if x.kind=3 then used3 x else if x.kind=4 then used4 x else if x.kind=5 then used5 x else if x.kind=6 then used6 x else if x.kind=7 then used7 x else x
end Go.TA


end
