/- Part 15 of 16 of a proof; joined from CalRWith, CalRSet, CalRMake, CalRNew, CalRDo, CalRDo2, CalRRun, CalValidG, CalBoth, CalValidR, CalConcatG, CalConcatT, CalStrip, CalConcatV. Two scripts together are valid, and come to what they come to one behind the other. -/
import Derived.Test.YtnjblmbobmbgkaaGreatDoorCa1
import Derived.Test.YtnjblmbobmbgkaaGreatDoorCa11
import Derived.Test.YtnjblmbobmbgkaaGreatDoorCa7
import Derived.Test.YtnjblmbobmbgkaaGreatDoorCa14
import Derived.Test.YtnjblmbobmbgkaaGreatDoorCa6
import Derived.Test.YtnjblmbobmbgkaaGreatDoorCa12
import Derived.Test.YtnjblmbobmbgkaaGreatDoorCa13
set_option linter.unusedSimpArgs false
set_option linter.unusedVariables false
set_option linter.defProp false
set_option maxRecDepth 100000
set_option maxHeartbeats 8000000
section
/- Attributes with one more, or without one: the document's answer. -/
namespace Go.TA
def g1m (l:List Attr) (name:Bs):Int:=if fstAt l name<l.length then (fstAt l name:Int) else -1
theorem d7q {l:List Attr} {name:Bs} {i:Nat} {a:Attr} (ha:l[i]? = some a) (h:i=fstAt l name):a.name=name:=by
 obtain ⟨hi,e⟩:=List.getElem?_eq_some_iff.1 ha
 have:=List.findIdx_getElem (xs:=l) (p:=fun a=>a.name==name) (w:=by unfold fstAt at h;omega)
 unfold fstAt at h
 simp only [← h,e] at this
 simpa using this
theorem g6q {l:List Attr} {name:Bs} {i:Nat} {a:Attr} (ha:l[i]? = some a) (h:i<fstAt l name):a.name≠name:=by
 obtain ⟨hi,e⟩:=List.getElem?_eq_some_iff.1 ha
 have:=List.not_of_lt_findIdx (xs:=l) (p:=fun a:Attr=>a.name==name) (i:=i) (by unfold fstAt at h;exact h)
 rw [e] at this
 simpa using this
theorem c3r {α : Type} {l:List α} {i:Nat} {a : α} (h:l[i]? = some a):l.take (i+1)=l.take i++[a]:=by
 rw [List.take_add_one,h];rfl
namespace Tryz
theorem g6y (l : List Attr) (name : Bs) (hl : l.length ≤ 1048577) (g : List AObj) {n : Nat} (hn : l.length < n) :
    b0f T (n+1) 128 [.p (.list (l.map Attr.pv)),.p (.str name)] g=some (.p (.int .i64 (g1m l name)),g):=by
  have ll:(l.map Attr.pv).length=l.length:=by simp
  have key:=b1i (C:=b0f T n) (N:=n) (B:=d9h) (σ := Nat) (S:=fun i=>⟨[(0,.p (.list (l.map Attr.pv))),(1,.p (.str name)),(7,.p (.int .i64 l.length)),(8,.p (.int .i64 i))],[],[]⟩)
    (I:=fun i=>i≤l.length∧i≤fstAt l name) (μ := fun i=>l.length - i) (Q:=fun r=>r=if fstAt l name<l.length then (.ret,⟨[(4,.p (.int .i64 (fstAt l name)))],[],[]⟩) else (.exit 0,⟨[],[],[]⟩)) ?_ 0 ⟨by omega,by omega⟩ (by omega)
  · obtain ⟨r,hq,rfl⟩:=key
    simp only [Int.natCast_zero] at hq
    unfold g1m
    rw [b0a T128,run_pure rfl rfl rfl]
    by_cases hc:fstAt l name<l.length
    · rw [if_pos hc] at hq ⊢
      simp -implicitDefEqProofs (disch:=omega) only [Rx,simprocAttr,F128,hq,ll]
    · rw [if_neg hc] at hq ⊢
      simp -implicitDefEqProofs (disch:=omega) only [Rx,simprocAttr,F128,hq,ll]
  rintro i ⟨h1,h2⟩
  by_cases hi:i<l.length
  · have k1:(i:Int)<(l.length:Int):=by omega
    obtain ⟨a,ha⟩:=b0m hi
    have hg:=b0s (f:=Attr.pv) ha
    by_cases e:i=fstAt l name
    · right
      have hp:(a.name==name)=true:=by simpa using d7q ha e
      refine ⟨_, ?_, ?_,rfl⟩
      · rw [if_pos (by omega), ← e]
        simp -implicitDefEqProofs (disch:=omega) only [Rx,simprocAttr,d9h,k1,hg,ll,Attr.pv,hp]
      · rw [if_pos (by omega)];simp
    · left
      have hp:(a.name==name)=false:=by simpa using g6q ha (by omega)
      refine ⟨i+1, ?_,⟨by omega,by omega⟩,by omega⟩
      simp -implicitDefEqProofs (disch:=omega) only [Rx,simprocAttr,d9h,k1,hg,ll,Attr.pv,hp]
  · right
    obtain rfl:i=l.length:=by omega
    have k1:¬ (l.length:Int)<(l.length:Int):=by omega
    refine ⟨_, ?_, ?_,rfl⟩
    · rw [if_neg (by omega)]
      simp -implicitDefEqProofs (disch:=omega) only [Rx,simprocAttr,d9h,k1]
    · rw [if_neg (by omega)];simp
theorem d3e (l:List Attr) (name:Bs) (hl:l.length≤1048577) (g:List AObj) {n:Nat} (hn:l.length<n) :
  b0f T (n+1) 118 [.p (.list (l.map Attr.pv)),.p (.str name)] g=some (.tuple [.p (.list ((b3t l name).map Attr.pv)),.p (.bool (decide ((b3t l name).length<l.length)))],g):=by
 have ll:(l.map Attr.pv).length=l.length:=by simp
 unfold b3t
 have hlen:∀ i,((l.take i).filter (notN name)).length≤l.length:=fun i=>by
  have:=List.length_filter_le (notN name) (l.take i)
  have h2:(l.take i).length≤l.length:=by rw [List.length_take];omega
  omega
 have key:=b1i (C:=b0f T n) (N:=n) (B:=d9j) (σ := Nat) (S:=fun i=>⟨[(0,.p (.list (l.map Attr.pv))),(1,.p (.str name)),(6,.own false 1000 ((l.take i).filter (notN name)).length),(9,.p (.int .i64 l.length)),(10,.p (.int .i64 i))],[(1000,.pcells 2 (((l.take i).filter (notN name)).map Attr.pv))],[]⟩)
  (I:=fun i=>i≤l.length) (μ := fun i=>l.length - i) (Q:=fun r=>r=(.exit 0,⟨[(0,.p (.list (l.map Attr.pv))),(6,.own false 1000 (l.filter (notN name)).length)],[(1000,.pcells 2 ((l.filter (notN name)).map Attr.pv))],[]⟩)) ?_ 0 (by omega) (by omega)
 ·obtain ⟨r,hq,rfl⟩:=key
  simp only [List.take_zero,List.filter_nil,List.length_nil,List.map_nil,Int.natCast_zero] at hq
  have hll:=hlen l.length
  rw [List.take_length] at hll
  generalize l.filter (notN name)=acc at hq hll
  have la:(acc.map Attr.pv).length=acc.length:=by simp
  rw [b0a T118,run_pure rfl rfl rfl]
  by_cases hc:acc.length<l.length
  ·have k1:(acc.length:Int)<(l.length:Int):=by omega
   have ed:decide (acc.length<l.length)=true:=by simpa using hc
   simp -implicitDefEqProofs (disch:=omega) only [Rx,simprocAttr,F118,hq,ll,la,k1,ed]
  ·have k1:¬ (acc.length:Int)<(l.length:Int):=by omega
   have ed:decide (acc.length<l.length)=false:=by simpa using hc
   simp -implicitDefEqProofs (disch:=omega) only [Rx,simprocAttr,F118,hq,ll,la,k1,ed]
 intro i h1
 by_cases hi:i<l.length
 ·left
  have k1:(i:Int)<(l.length:Int):=by omega
  obtain ⟨a,ha⟩:=b0m hi
  have hg:=b0s (f:=Attr.pv) ha
  have hs:(l.take (i+1)).filter (notN name)=(l.take i).filter (notN name)++if notN name a=true then [a] else []:=by
   rw [c3r ha,List.filter_append]
   simp [List.filter_cons]
  have hll:=hlen i
  refine ⟨i+1, ?_,by omega,by omega⟩
  rw [hs]
  generalize (l.take i).filter (notN name)=acc at hll
  have la:(acc.map Attr.pv).length=acc.length:=by simp
  by_cases e:a.name=name
  ·have e1:(a.name==name)=true:=by simpa using e
   have hfx:notN name a=false:=by simp [notN,e]
   rw [hfx]
   simp only [Bool.false_eq_true,if_false,List.append_nil]
   simp -implicitDefEqProofs (disch:=omega) only [Rx,simprocAttr,d9j,k1,hg,ll,Attr.pv,e1]
  ·have e1:(a.name==name)=false:=by simpa using e
   have hfx:notN name a=true:=by simp [notN,e]
   rw [hfx,if_pos rfl]
   have os1:acc.map Attr.pv++[[.str a.name,.str a.value]]=(acc++[a]).map Attr.pv:=by simp [Attr.pv]
   have ol1:((acc++[a]).map Attr.pv).length=acc.length+1:=by simp
   have ol3:(acc++[a]).length=acc.length+1:=by simp
   rw [ol3]
   generalize acc++[a]=acc1 at os1 ol1
   simp -implicitDefEqProofs (disch:=omega) only [Rx,simprocAttr,d9j,k1,hg,ll,la,Attr.pv,e1,os1,ol1]
 ·right
  obtain rfl:i=l.length:=by omega
  have k1:¬ (l.length:Int)<(l.length:Int):=by omega
  refine ⟨_, ?_, ?_,rfl⟩
  ·rw [List.take_length]
   simp -implicitDefEqProofs (disch:=omega) only [Rx,simprocAttr,d9j,k1]
  ·simp
def leAt (l:List Attr) (name:Bs):Nat:=l.findIdx (fun a=>decide (0<cmpB a.name name))
theorem j0v (l : List Attr) (name v : Bs) (at' : Int) (hl : l.length ≤ 1048577) (hnl : name.length ≤ 1048577) {n : Nat} (hn : name.length < n) (N : Nat) (hN : l.length < N) :
    b0t (b0f T (n+1)) N (.loop d3b) ⟨[(0,.p (.list (l.map Attr.pv))),(1,.p (.str name)),(2,.p (.str v)),(7,.p (.int .i64 at')),(8,.p (.int .i64 ((0:Nat):Int)))],[],[]⟩=some (.exit 0,⟨[(0,.p (.list (l.map Attr.pv))),(1,.p (.str name)),(2,.p (.str v)),(7,.p (.int .i64 at')),(8,.p (.int .i64 (leAt l name)))],[],[]⟩):=by
  have ll:(l.map Attr.pv).length=l.length:=by simp
  have hle:leAt l name≤l.length:=List.findIdx_le_length
  refine b1k (C:=b0f T (n+1)) (N:=N) (B:=d3b) (σ := Nat) (S:=fun i=>⟨[(0,.p (.list (l.map Attr.pv))),(1,.p (.str name)),(2,.p (.str v)),(7,.p (.int .i64 at')),(8,.p (.int .i64 i))],[],[]⟩) (I:=fun i=>i≤leAt l name) (μ := fun i=>l.length - i) (Φ := fun i=>(.exit 0,⟨[(0,.p (.list (l.map Attr.pv))),(1,.p (.str name)),(2,.p (.str v)),(7,.p (.int .i64 at')),(8,.p (.int .i64 (leAt l name)))],[],[]⟩)) ?_ 0 (by omega) (by omega)
  intro i hi
  by_cases h1:i<l.length
  · have k1:(i:Int)<(l.length:Int):=by omega
    obtain ⟨a,ha⟩:=b0m h1
    have hg:=b0s (f:=Attr.pv) ha
    obtain ⟨_,ea⟩:=List.getElem?_eq_some_iff.1 ha
    have hc:=h3r (n:=n) a.name name [] hn hnl
    by_cases e:i=leAt l name
    · right
      have hp:¬ cmpB a.name name≤0:=by
        have:=List.findIdx_getElem (xs:=l) (p:=fun a=>decide (0<cmpB a.name name)) (w:=by unfold leAt at e;omega)
        unfold leAt at e
        simp only [← e,ea] at this
        simp only [decide_eq_true_eq] at this
        omega
      refine ⟨?_,by simp⟩
      rw [← e]
      simp -implicitDefEqProofs (disch:=omega) only [Rx,simprocAttr,d3b,k1,hg,ll,Attr.pv,hc,hp]
    · left
      have hp:cmpB a.name name≤0:=by
        have:=List.not_of_lt_findIdx (xs:=l) (p:=fun a=>decide (0<cmpB a.name name)) (i:=i) (by unfold leAt at e hi;omega)
        rw [ea] at this
        have h2:¬ 0<cmpB a.name name:=by simpa using this
        omega
      refine ⟨i+1, ?_,by omega,by omega,rfl⟩
      simp -implicitDefEqProofs (disch:=omega) only [Rx,simprocAttr,d3b,k1,hg,ll,Attr.pv,hc,hp]
  · right
    have e:i=leAt l name:=by omega
    have k1:¬ (i:Int)<(l.length:Int):=by omega
    refine ⟨?_,by simp⟩
    rw [← e]
    simp -implicitDefEqProofs (disch:=omega) only [Rx,simprocAttr,d3b,k1,ll]
theorem h7a {l : List Attr} {name : Bs} (h : ¬ fstAt l name < l.length) : leAt l name = posAt l name := by
  unfold leAt posAt
  have hne:∀ a ∈ l,a.name≠name:=fun a ha e=>h (List.findIdx_lt_length_of_exists ⟨a,ha,by simpa using e⟩)
  clear h
  induction l with
  | nil=>rfl
  | cons a l ih =>
    have h1:=hne a (by simp)
    have h2:=d0d h1
    have h3:(a.name==name)=false:=by simpa using h1
    rw [h3,Bool.or_false] at h2
    have e:decide (0<cmpB a.name name) = !(b3f a.name name):=by
      by_cases hs:b3f a.name name=true
      · rw [hs] at h2
        have h4:¬ 0<cmpB a.name name:=fun h=>by have:=h2.1 h;cases this
        simp [hs,h4]
      · simp only [Bool.not_eq_true] at hs
        simp [hs,h2.2 hs]
    rw [List.findIdx_cons,List.findIdx_cons,e,ih (fun b hb=>hne b (by simp [hb]))]
def c7j (l:List Attr) (name v:Bs) (at':Int) (to:Nat) (acc:List Attr) (i:Nat):St:=⟨[(0,.p (.list (l.map Attr.pv))),(1,.p (.str name)),(2,.p (.str v)),(7,.p (.int .i64 at')),(8,.p (.int .i64 to)),(9,.own false 1000 acc.length),(32,.p (.int .i64 l.length)),(33,.p (.int .i64 i))],[(1000,.pcells 2 (acc.map Attr.pv))],[]⟩
def c8c (l:List Attr) (name v:Bs) (at':Int) (to:Nat) (acc:List Attr):Ex × St:=(.exit 2,⟨[(0,.p (.list (l.map Attr.pv))),(1,.p (.str name)),(2,.p (.str v)),(7,.p (.int .i64 at')),(8,.p (.int .i64 to)),(9,.own false 1000 acc.length)],[(1000,.pcells 2 (acc.map Attr.pv))],[]⟩)
theorem g5c (l:List Attr) (name v:Bs) (to k:Nat) (hl:l.length≤1048577) (hk:k<l.length) (hkn:∀ a,l[k]? = some a→a.name=name) (C:b0n) (N:Nat) (hN:l.length<N) :
  b0t C N (.loop c1k) (c7j l name v (k:Int) to [] 0)=some (c8c l name v (k:Int) to (l.set k ⟨name,v⟩)):=by
 have ll:(l.map Attr.pv).length=l.length:=by simp
 have key:=b1i (C:=C) (N:=N) (B:=c1k) (σ := Nat) (S:=fun i=>c7j l name v (k:Int) to ((l.set k ⟨name,v⟩).take i) i) (I:=fun i=>i≤l.length) (μ := fun i=>l.length - i) (Q:=fun r=>r=c8c l name v (k:Int) to (l.set k ⟨name,v⟩)) ?_ 0 (by omega) (by omega)
 ·obtain ⟨r,hq,rfl⟩:=key
  simpa using hq
 intro i hi
 by_cases h1:i<l.length
 ·left
  have k1:(i:Int)<(l.length:Int):=by omega
  obtain ⟨a,ha⟩:=b0m h1
  have hg:=b0s (f:=Attr.pv) ha
  have hw:(l.set k ⟨name,v⟩)[i]? = some (if k=i then ⟨name,v⟩ else a):=by
   rw [List.getElem?_set]
   split
   ·rename_i e;subst e;first | rfl | rw [if_pos h1]
   ·rw [ha]
  have hs:=c3r hw
  have hll:((l.set k ⟨name,v⟩).take i).length≤1048577:=by rw [List.length_take,List.length_set];omega
  refine ⟨i+1, ?_,by omega,by omega⟩
  simp only [c7j]
  rw [hs]
  generalize (l.set k ⟨name,v⟩).take i=acc at hll
  have la:(acc.map Attr.pv).length=acc.length:=by simp
  have k0:¬ (k:Int)<0:=by omega
  by_cases e:k=i
  ·rw [if_pos e]
   have e1:((i:Int)==(k:Int))=true:=by simp;omega
   have hn:=hkn a (by rw [e];exact ha)
   have os1:acc.map Attr.pv++[[.str name,.str v]]=(acc++[(⟨name,v⟩:Attr)]).map Attr.pv:=by simp [Attr.pv]
   have ol1:((acc++[(⟨name,v⟩:Attr)]).map Attr.pv).length=acc.length+1:=by simp
   have ol3:(acc++[(⟨name,v⟩:Attr)]).length=acc.length+1:=by simp
   rw [ol3]
   generalize acc++[(⟨name,v⟩:Attr)]=acc1 at os1 ol1
   simp -implicitDefEqProofs (disch:=omega) only [Rx,simprocAttr,c1k,k0,k1,hg,ll,la,Attr.pv,e1,hn,os1,ol1]
  ·rw [if_neg e]
   have e1:((i:Int)==(k:Int))=false:=by simp;omega
   have os1:acc.map Attr.pv++[[.str a.name,.str a.value]]=(acc++[a]).map Attr.pv:=by simp [Attr.pv]
   have ol1:((acc++[a]).map Attr.pv).length=acc.length+1:=by simp
   have ol3:(acc++[a]).length=acc.length+1:=by simp
   rw [ol3]
   generalize acc++[a]=acc1 at os1 ol1
   simp -implicitDefEqProofs (disch:=omega) only [Rx,simprocAttr,c1k,k0,k1,hg,ll,la,Attr.pv,e1,os1,ol1]
 ·right
  obtain rfl:i=l.length:=by omega
  have k1:¬ (l.length:Int)<(l.length:Int):=by omega
  refine ⟨_, ?_, ?_,rfl⟩
  ·have:(l.set k ⟨name,v⟩).take l.length=l.set k ⟨name,v⟩:=List.take_of_length_le (by simp)
   rw [this]
   simp only [c7j,c8c]
   simp -implicitDefEqProofs (disch:=omega) only [Rx,simprocAttr,c1k,k1]
  ·simp [c8c]
def putA (l:List Attr) (to:Nat) (a:Attr) (i:Nat):List Attr:=if i≤to then l.take i else l.take to++a::(l.drop to).take (i - to)
theorem h5h (l : List Attr) (name v : Bs) (to : Nat) (hl : l.length ≤ 1048577) (C : b0n) (N : Nat) (hN : l.length < N) :
    b0t C N (.loop c1k) (c7j l name v (-1) to [] 0)=some (c8c l name v (-1) to (putA l to ⟨name,v⟩ l.length)):=by
  have ll:(l.map Attr.pv).length=l.length:=by simp
  have key:=b1i (C:=C) (N:=N) (B:=c1k) (σ := Nat) (S:=fun i=>c7j l name v (-1) to (putA l to ⟨name,v⟩ i) i) (I:=fun i=>i≤l.length) (μ := fun i=>l.length - i) (Q:=fun r=>r=c8c l name v (-1) to (putA l to ⟨name,v⟩ l.length)) ?_ 0 (by omega) (by omega)
  · obtain ⟨r,hq,rfl⟩:=key
    have:putA l to ⟨name,v⟩ 0=[]:=by simp [putA]
    rw [this] at hq
    exact hq
  intro i hi
  by_cases h1:i<l.length
  · left
    have k1:(i:Int)<(l.length:Int):=by omega
    obtain ⟨a,ha⟩:=b0m h1
    have hg:=b0s (f:=Attr.pv) ha
    have e9:((i:Int) == -1)=false:=by simp <;> omega
    have hll:(putA l to ⟨name,v⟩ i).length≤1048579:=by
      unfold putA
      split
      · rw [List.length_take];omega
      · rw [List.length_append,List.length_cons,List.length_take,List.length_take,List.length_drop];omega
    refine ⟨i+1, ?_,by omega,by omega⟩
    by_cases e:i=to
    · have hs:putA l to ⟨name,v⟩ (i+1)=putA l to ⟨name,v⟩ i++[⟨name,v⟩]++[a]:=by
        subst e
        have hd:l.drop i=a::l.drop (i+1):=by rw [List.drop_eq_getElem?_toList_append,ha];rfl
        simp only [putA,Nat.le_refl,if_true]
        rw [if_neg (by omega),show i+1 - i=1 by omega,hd]
        simp
      have e1:((i:Int)==(to:Int))=true:=by simp;omega
      rw [hs]
      generalize putA l to ⟨name,v⟩ i=acc at hll
      have la:(acc.map Attr.pv).length=acc.length:=by simp
      have os1:acc.map Attr.pv++[[.str name,.str v]]=(acc++[(⟨name,v⟩:Attr)]).map Attr.pv:=by simp [Attr.pv]
      have ol1:((acc++[(⟨name,v⟩:Attr)]).map Attr.pv).length=acc.length+1:=by simp
      have os2:(acc++[(⟨name,v⟩:Attr)]).map Attr.pv++[[.str a.name,.str a.value]]=(acc++[(⟨name,v⟩:Attr)]++[a]).map Attr.pv:=by simp [Attr.pv]
      have ol2:((acc++[(⟨name,v⟩:Attr)]++[a]).map Attr.pv).length=acc.length+1+1:=by simp
      have ol3:(acc++[(⟨name,v⟩:Attr)]++[a]).length=acc.length+1+1:=by simp
      simp only [c7j]
      rw [ol3]
      generalize acc++[(⟨name,v⟩:Attr)]++[a]=acc2 at os2 ol2
      generalize acc++[(⟨name,v⟩:Attr)]=acc1 at os1 os2 ol1
      simp -implicitDefEqProofs (disch:=omega) only [Rx,simprocAttr,c1k,k1,hg,ll,la,Attr.pv,e1,e9,os1,os2,ol1,ol2]
    · have hs:putA l to ⟨name,v⟩ (i+1)=putA l to ⟨name,v⟩ i++[a]:=by
        unfold putA
        by_cases e2:i+1≤to
        · rw [if_pos e2,if_pos (by omega),c3r ha]
        · rw [if_neg e2,if_neg (by omega),show i+1 - to=i - to+1 by omega]
          have hd:(l.drop to)[i - to]? = some a:=by rw [List.getElem?_drop,show to+(i - to)=i by omega];exact ha
          rw [c3r hd]
          simp
      have e1:((i:Int)==(to:Int))=false:=by simp;omega
      rw [hs]
      generalize putA l to ⟨name,v⟩ i=acc at hll
      have la:(acc.map Attr.pv).length=acc.length:=by simp
      have os1:acc.map Attr.pv++[[.str a.name,.str a.value]]=(acc++[a]).map Attr.pv:=by simp [Attr.pv]
      have ol1:((acc++[a]).map Attr.pv).length=acc.length+1:=by simp
      have ol3:(acc++[a]).length=acc.length+1:=by simp
      simp only [c7j]
      rw [ol3]
      generalize acc++[a]=acc1 at os1 ol1
      simp -implicitDefEqProofs (disch:=omega) only [Rx,simprocAttr,c1k,k1,hg,ll,la,Attr.pv,e1,e9,os1,ol1]
  · right
    obtain rfl:i=l.length:=by omega
    have k1:¬ (l.length:Int)<(l.length:Int):=by omega
    refine ⟨_, ?_, ?_,rfl⟩
    · simp only [c7j,c8c]
      simp -implicitDefEqProofs (disch:=omega) only [Rx,simprocAttr,c1k,k1]
    · simp [c8c]
theorem g5d (l : List Attr) (name v : Bs) (hl : l.length ≤ 1048577) (hnl : name.length ≤ 1048577) (g : List AObj) {n : Nat} (hn : l.length < n) (hn2 : name.length < n) :
    b0f T (n+2) 117 [.p (.list (l.map Attr.pv)),.p (.str name),.p (.str v)] g=some (.p (.list ((c0g l name v).map Attr.pv)),g):=by
  have ll:(l.map Attr.pv).length=l.length:=by simp
  have hfi:=fun g=>g6y l name hl g (n:=n) hn
  have hle:=j0v l name v (g1m l name) hl hnl (n:=n) hn2 (n+1) (by omega)
  simp only [Int.natCast_zero] at hle
  unfold c0g
  rw [b0a T117,run_pure rfl rfl rfl]
  by_cases hf:fstAt l name<l.length
  · rw [if_pos hf]
    have hfa:g1m l name=(fstAt l name:Int):=by simp [g1m,hf]
    have hlo:=g5c l name v (leAt l name) (fstAt l name) hl hf (fun a ha=>d7q ha rfl) (b0f T (n+1)) (n+1) (by omega)
    rw [hfa] at hfi hle
    have hwl:(l.set (fstAt l name) ⟨name,v⟩).length≤1048577:=by simp;omega
    generalize l.set (fstAt l name) ⟨name,v⟩=w at hlo hwl
    have wl:(w.map Attr.pv).length=w.length:=by simp
    generalize fstAt l name=k at hfi hle hlo
    generalize leAt l name=to at hle hlo
    simp only [c7j,c8c,List.map_nil,List.length_nil,Int.natCast_zero] at hlo
    have k0:¬ (k:Int)<0:=by omega
    simp -implicitDefEqProofs (disch:=omega) only [Rx,simprocAttr,F117,hfi,hle,hlo,ll,wl,k0]
  · rw [if_neg hf]
    have hfa:g1m l name = -1:=by simp [g1m,hf]
    have hlo:=h5h l name v (leAt l name) hl (b0f T (n+1)) (n+1) (by omega)
    rw [hfa] at hfi hle
    rw [h7a hf] at hle hlo
    have hpl:posAt l name≤l.length:=List.findIdx_le_length
    generalize hto:posAt l name=to at hle hlo hpl
    have hacc:(putA l to ⟨name,v⟩ l.length).length≤1048579:=by
      unfold putA
      split
      · rw [List.length_take];omega
      · rw [List.length_append,List.length_cons,List.length_take,List.length_take,List.length_drop];omega
    by_cases e:to=l.length
    · have hr:l.take to++⟨name,v⟩::l.drop to=putA l to ⟨name,v⟩ l.length++[⟨name,v⟩]:=by
        subst e;simp [putA]
      rw [hr]
      generalize putA l to ⟨name,v⟩ l.length=acc at hlo hacc
      have la:(acc.map Attr.pv).length=acc.length:=by simp
      have os1:acc.map Attr.pv++[[.str name,.str v]]=(acc++[(⟨name,v⟩:Attr)]).map Attr.pv:=by simp [Attr.pv]
      have ol1:((acc++[(⟨name,v⟩:Attr)]).map Attr.pv).length=acc.length+1:=by simp
      generalize acc++[(⟨name,v⟩:Attr)]=acc1 at os1 ol1
      have e1:((to:Int)==(l.length:Int))=true:=by simp;omega
      simp only [c7j,c8c,List.map_nil,List.length_nil,Int.natCast_zero] at hlo
      simp -implicitDefEqProofs (disch:=omega) only [Rx,simprocAttr,F117,hfi,hle,hlo,ll,la,os1,ol1,e1]
    · have hr:l.take to++⟨name,v⟩::l.drop to=putA l to ⟨name,v⟩ l.length:=by
        unfold putA
        rw [if_neg (by omega),List.take_of_length_le (l:=l.drop to) (by rw [List.length_drop];omega)]
      rw [hr]
      generalize putA l to ⟨name,v⟩ l.length=acc at hlo hacc
      have la:(acc.map Attr.pv).length=acc.length:=by simp
      have e1:((to:Int)==(l.length:Int))=false:=by simp;omega
      simp only [c7j,c8c,List.map_nil,List.length_nil,Int.natCast_zero] at hlo
      simp -implicitDefEqProofs (disch:=omega) only [Rx,simprocAttr,F117,hfi,hle,hlo,ll,la,e1]
end Tryz
end Go.TA


end
section
/- The document's answer: a node's attributes and text; a node is made. -/
namespace Go.TA
def j3b (S:MS) (h:Nat) (s:b3p):MS:=⟨S.N,upd S.st h s,S.kd⟩
theorem c6f {S:MS} {h:Nat} {s:b3p} (hs:s.live=(S.st h).live):b0h (j3b S h s)=b0h S:=c3h rfl (fun k=>by
 simp only [j3b]
 by_cases e:k=h
 ·subst e;rw [b0l,hs]
 ·rw [b0k e])
namespace Tryz
def setD (S:MS) (id:Int) (name v:Bs):Int × MS :=
 if fitE S id≠0 then (fitE S id,S) else if b2i true name=false then (8,S) else if 65536<(v.length:Int) then (3,S)
 else if 64<((c0g (S.st id.toNat).attrs name v).length:Int) then (12,S) else (0,setM S id.toNat (c0g (S.st id.toNat).attrs name v))
def delD (S:MS) (id:Int) (name:Bs):Int × MS :=
 if fitE S id≠0 then (fitE S id,S)
 else if (b3t (S.st id.toNat).attrs name).length<(S.st id.toNat).attrs.length then (0,setM S id.toNat (b3t (S.st id.toNat).attrs name)) else (8,S)
def c7l (S:MS) (id:Int) (s:Bs):Int × MS :=
 if fitE S id≠0 then (fitE S id,S) else if 65536<(s.length:Int) then (3,S) else (0,textM S id.toNat s)
def b1n (N:Nat) (x:GOp):Int:=if b2i false x.tag=false then 7 else if 65536<(x.key.length:Int)∨65536<(x.text.length:Int) then 3 else if b2o x.attrs≠0 then b2o x.attrs else if 4294967295<(N:Int) then 21 else 0
theorem c0x {more:Bool} {s:Bs} (h:b2i more s=true):s.length≤32:=by
 unfold b2i at h
 split at h
 ·cases h
 ·simp only [Bool.and_eq_true,decide_eq_true_eq] at h
  simp_all
section
variable {R:Nat} {S:MS} {av:Nat→AV} {p q:Nat} {g:List AObj} {nx:Int}
theorem g9q (hD:DM (b0h S) S.st S.kd nx av p q g) (hL:(b0h S).length≤4194304) (id:Int) (s:Bs) {n:Nat} (hn:(b0h S).length<n) :
  ∃ g',b0f T (n+3) 89 [DP p,.p (.int .i64 id),.p (.str s)] g=some (.p (.int .i64 (c7l S id s).1),g')∧DM (b0h (c7l S id s).2) (c7l S id s).2.st (c7l S id s).2.kd nx av p q g'∧DFr (b0h S) av p q g (b0h (c7l S id s).2) av q g':=by
 obtain ⟨o,ho,hrep⟩:=hD.core.row
 have hob:=hD.core.obj
 have hix:=fun s i=>hrep.idx b2b s true q i
 have hno:=b9a hD.core hL id (n:=n) (by omega)
 unfold c7l
 by_cases hf:fitE S id≠0
 ·rw [if_pos hf]
  have e1:(fitE S id==0)=false:=by simpa using hf
  refine ⟨g, ?_,hD,DFr.refl _ _ _ _ _⟩
  rw [b0a T89,b0g rfl rfl]
  generalize fitE S id=e at hno e1 ⊢
  simp -implicitDefEqProofs (disch:=omega) only [Rx,simprocAttr,F89,hno,e1]
 rw [if_neg hf]
 obtain ⟨c,rfl,hcL,hc0⟩:=c1v hf
 simp only [ne_eq,Decidable.not_not] at hf
 rw [hf] at hno
 by_cases hl:65536<(s.length:Int)
 ·rw [if_pos hl]
  have e1:(s.length:Int) > 65536:=hl
  refine ⟨g, ?_,hD,DFr.refl _ _ _ _ _⟩
  rw [b0a T89,b0g rfl rfl]
  simp -implicitDefEqProofs (disch:=omega) only [Rx,simprocAttr,F89,hno,e1]
 rw [if_neg hl]
 have e1:¬ (s.length:Int) > 65536:=hl
 obtain ⟨ic,hpc,hic⟩:=b4p hcL
 have hat1:=c1h hD.core hL (c:Int) (n:=n+1) (by omega)
 rw [hpc] at hat1
 have lc:=(List.getElem?_eq_some_iff.1 hic).1
 have kc:(ic:Int)<((b0h S).length:Int):=by omega
 obtain ⟨o',hw,hr'⟩:=c5k hrep hic (j:=5) (by omega) (.p (.str s))
 have e3:(b3j (b0h S) S.st av).set ic ((nAV c (S.st c) (av c)).set 5 (.p (.str s)))=b3j (b0h S) (upd S.st c { S.st c with text:=s }) av:=by
  rw [← c3v hD.core.nodup hic];rfl
 rw [e3] at hr'
 have hlv:b0h (textM S c s)=b0h S:=c6f (S:=S) (h:=c) (s:={ S.st c with text:=s }) rfl
 simp only [Int.toNat_natCast]
 refine ⟨g.set q o', ?_,by rw [hlv];exact hD.node _ hr',by rw [hlv];exact DFr.node o'⟩
 rw [b0a T89,b0g rfl rfl]
 simp -implicitDefEqProofs (disch:=omega) only [Rx,simprocAttr,F89,hno,e1,hat1,hob,ho,hix,hw]
theorem h5s (hS:S.Ok R) (hD:DM (b0h S) S.st S.kd nx av p q g) (hL:(b0h S).length≤4194304) (id:Int) (name v:Bs) {n:Nat} (hn:(b0h S).length<n) (hn2:1048577<n) :
  ∃ g',b0f T (n+36) 87 [DP p,.p (.int .i64 id),.p (.str name),.p (.str v)] g=some (.p (.int .i64 (setD S id name v).1),g')∧DM (b0h (setD S id name v).2) (setD S id name v).2.st (setD S id name v).2.kd nx av p q g'∧DFr (b0h S) av p q g (b0h (setD S id name v).2) av q g':=by
 obtain ⟨o,ho,hrep⟩:=hD.core.row
 have hob:=hD.core.obj
 have hix:=fun s i=>hrep.idx b2b s true q i
 have hno:=b9a hD.core hL id (n:=n+33) (by omega)
 unfold setD
 by_cases hf:fitE S id≠0
 ·rw [if_pos hf]
  have e1:(fitE S id==0)=false:=by simpa using hf
  refine ⟨g, ?_,hD,DFr.refl _ _ _ _ _⟩
  rw [b0a T87,b0g rfl rfl]
  generalize fitE S id=e at hno e1 ⊢
  simp -implicitDefEqProofs (disch:=omega) only [Rx,simprocAttr,F87,hno,e1]
 rw [if_neg hf]
 obtain ⟨c,rfl,hcL,hc0⟩:=c1v hf
 simp only [ne_eq,Decidable.not_not] at hf
 rw [hf] at hno
 have hnm:=fun g=>b2m name true g n
 by_cases hm:b2i true name=false
 ·rw [if_pos hm]
  rw [hm] at hnm
  refine ⟨g, ?_,hD,DFr.refl _ _ _ _ _⟩
  rw [b0a T87,b0g rfl rfl]
  simp -implicitDefEqProofs (disch:=omega) only [Rx,simprocAttr,F87,hno,hnm]
 rw [if_neg hm]
 simp only [Bool.not_eq_false] at hm
 have hnl:=c0x hm
 rw [hm] at hnm
 by_cases hl:65536<(v.length:Int)
 ·rw [if_pos hl]
  have e1:(v.length:Int) > 65536:=hl
  refine ⟨g, ?_,hD,DFr.refl _ _ _ _ _⟩
  rw [b0a T87,b0g rfl rfl]
  simp -implicitDefEqProofs (disch:=omega) only [Rx,simprocAttr,F87,hno,hnm,e1]
 rw [if_neg hl]
 have e1:¬ (v.length:Int) > 65536:=hl
 obtain ⟨ic,hpc,hic⟩:=b4p hcL
 have hat1:=c1h hD.core hL (c:Int) (n:=n+34) (by omega)
 rw [hpc] at hat1
 have lc:=(List.getElem?_eq_some_iff.1 hic).1
 have kc:(ic:Int)<((b0h S).length:Int):=by omega
 have rdc:=b4f hrep hic (j:=6) (by omega)
 simp only [nAV] at rdc
 obtain ⟨hcN,hcl⟩:=b1m.1 hcL
 have hal:=hS.attrs c hcN
 have hwi:=fun g=>g5d (S.st c).attrs name v hal (by omega) g (n:=n+33) (by omega) (by omega)
 simp only [Int.toNat_natCast]
 generalize hwa:c0g (S.st c).attrs name v=w at hwi
 have wl:(w.map Attr.pv).length=w.length:=by simp
 by_cases h64:64<(w.length:Int)
 ·rw [if_pos h64]
  have k64:(w.length:Int) > 64:=h64
  refine ⟨g, ?_,hD,DFr.refl _ _ _ _ _⟩
  rw [b0a T87,b0g rfl rfl]
  simp -implicitDefEqProofs (disch:=omega) only [Rx,simprocAttr,F87,hno,hnm,e1,hat1,hob,ho,hix,rdc,hwi,wl,k64]
 rw [if_neg h64]
 have k64:¬ (w.length:Int) > 64:=h64
 obtain ⟨o',hw,hr'⟩:=c5k hrep hic (j:=6) (by omega) (.p (.list (w.map Attr.pv)))
 have e3:(b3j (b0h S) S.st av).set ic ((nAV c (S.st c) (av c)).set 6 (.p (.list (w.map Attr.pv))))=b3j (b0h S) (upd S.st c { S.st c with attrs:=w }) av:=by
  rw [← c3v hD.core.nodup hic];rfl
 rw [e3] at hr'
 have hlv:b0h (setM S c w)=b0h S:=c6f (S:=S) (h:=c) (s:={ S.st c with attrs:=w }) rfl
 refine ⟨g.set q o', ?_,by rw [hlv];exact hD.node _ hr',by rw [hlv];exact DFr.node o'⟩
 rw [b0a T87,b0g rfl rfl]
 simp -implicitDefEqProofs (disch:=omega) only [Rx,simprocAttr,F87,hno,hnm,e1,hat1,hob,ho,hix,rdc,hwi,wl,k64,hw]
theorem h8b (hS:S.Ok R) (hD:DM (b0h S) S.st S.kd nx av p q g) (hL:(b0h S).length≤4194304) (id:Int) (name:Bs) {n:Nat} (hn:(b0h S).length<n) (hn2:1048577<n) :
  ∃ g',b0f T (n+3) 88 [DP p,.p (.int .i64 id),.p (.str name)] g=some (.p (.int .i64 (delD S id name).1),g')∧DM (b0h (delD S id name).2) (delD S id name).2.st (delD S id name).2.kd nx av p q g'∧DFr (b0h S) av p q g (b0h (delD S id name).2) av q g':=by
 obtain ⟨o,ho,hrep⟩:=hD.core.row
 have hob:=hD.core.obj
 have hix:=fun s i=>hrep.idx b2b s true q i
 have hno:=b9a hD.core hL id (n:=n) (by omega)
 unfold delD
 by_cases hf:fitE S id≠0
 ·rw [if_pos hf]
  have e1:(fitE S id==0)=false:=by simpa using hf
  refine ⟨g, ?_,hD,DFr.refl _ _ _ _ _⟩
  rw [b0a T88,b0g rfl rfl]
  generalize fitE S id=e at hno e1 ⊢
  simp -implicitDefEqProofs (disch:=omega) only [Rx,simprocAttr,F88,hno,e1]
 rw [if_neg hf]
 obtain ⟨c,rfl,hcL,hc0⟩:=c1v hf
 simp only [ne_eq,Decidable.not_not] at hf
 rw [hf] at hno
 obtain ⟨ic,hpc,hic⟩:=b4p hcL
 have hat1:=c1h hD.core hL (c:Int) (n:=n+1) (by omega)
 rw [hpc] at hat1
 have lc:=(List.getElem?_eq_some_iff.1 hic).1
 have kc:(ic:Int)<((b0h S).length:Int):=by omega
 have rdc:=b4f hrep hic (j:=6) (by omega)
 simp only [nAV] at rdc
 obtain ⟨hcN,hcl⟩:=b1m.1 hcL
 have hal:=hS.attrs c hcN
 have hwi:=fun g=>d3e (S.st c).attrs name hal g (n:=n+1) (by omega)
 simp only [Int.toNat_natCast]
 generalize hwa:b3t (S.st c).attrs name=w at hwi
 have wl:(w.map Attr.pv).length=w.length:=by simp
 by_cases hlt:w.length<(S.st c).attrs.length
 rotate_left
 ·rw [if_neg hlt]
  have ed:decide (w.length<(S.st c).attrs.length)=false:=by simpa using hlt
  rw [ed] at hwi
  refine ⟨g, ?_,hD,DFr.refl _ _ _ _ _⟩
  rw [b0a T88,b0g rfl rfl]
  simp -implicitDefEqProofs (disch:=omega) only [Rx,simprocAttr,F88,hno,hat1,hob,ho,hix,rdc,hwi]
 rw [if_pos hlt]
 have ed:decide (w.length<(S.st c).attrs.length)=true:=by simpa using hlt
 rw [ed] at hwi
 obtain ⟨o',hw,hr'⟩:=c5k hrep hic (j:=6) (by omega) (.p (.list (w.map Attr.pv)))
 have e3:(b3j (b0h S) S.st av).set ic ((nAV c (S.st c) (av c)).set 6 (.p (.list (w.map Attr.pv))))=b3j (b0h S) (upd S.st c { S.st c with attrs:=w }) av:=by
  rw [← c3v hD.core.nodup hic];rfl
 rw [e3] at hr'
 have hlv:b0h (setM S c w)=b0h S:=c6f (S:=S) (h:=c) (s:={ S.st c with attrs:=w }) rfl
 refine ⟨g.set q o', ?_,by rw [hlv];exact hD.node _ hr',by rw [hlv];exact DFr.node o'⟩
 rw [b0a T88,b0g rfl rfl]
 simp -implicitDefEqProofs (disch:=omega) only [Rx,simprocAttr,F88,hno,hat1,hob,ho,hix,rdc,hwi,hw]
end
end Tryz
end Go.TA


end
section
/- The document's answer: a node is made; any operation. -/
namespace Go.TA
theorem c6w (S:MS) (x:GOp):b0h (S.create x)=b0h S++[S.N]:=by
 unfold b0h
 simp only [MS.create,List.range_succ,List.filter_append,List.filter_cons,List.filter_nil,b0l,if_true]
 congr 1
 refine List.filter_congr fun k hk => ?_
 have:=List.mem_range.1 hk
 rw [b0k (by omega)]
theorem DM.push {L : List Nat} {st : Nat → b3p} {kd : Nat → List Int} {nx : Int} {av : Nat → AV} {p q : Nat} {g : List AObj} (h : DM L st kd nx av p q g) {N : Nat} (hN : N ∉ L) (s : b3p) (nx' : Int) {o' : AObj} (hr : b3y 7 (b3j (L ++ [N]) (upd st N s) (upd av N .nils)) o') : DM (L ++ [N]) (upd st N s) (upd kd N []) nx' (upd av N .nils) p q ((g.set q o').set p (.cells 2 [[.own true q (L.length + 1), .p (.int .i64 nx')]])) := by
  have hp:=(List.getElem?_eq_some_iff.1 h.core.obj).1
  obtain ⟨o,ho,_⟩:=h.core.row
  have hq:=(List.getElem?_eq_some_iff.1 ho).1
  have hmem:∀ k,k ∈ L++[N]→k=N∨(k ∈ L∧k≠N):=fun k hk=>by
    rcases List.mem_append.1 hk with h1 | h1
    · exact .inr ⟨h1,fun e=>hN (e ▸ h1)⟩
    · simp at h1;exact .inl h1
  refine ⟨⟨?_,⟨o', ?_,hr⟩,h.core.pq, ?_⟩,fun k hk => ?_,fun k hk => ?_,fun k k' hk hk' hne => ?_⟩
  · rw [List.getElem?_set,if_pos rfl,if_pos (by rw [List.length_set];exact hp)];simp
  · rw [List.getElem?_set,if_neg h.core.pq,List.getElem?_set,if_pos rfl,if_pos hq]
  · rw [List.nodup_append]
    refine ⟨h.core.nodup,by simp,fun a ha b hb e => ?_⟩
    simp at hb;subst hb;subst e;exact hN ha
  · rcases hmem k hk with rfl | ⟨h1,h2⟩
    · rw [b0l,b0l];exact .none
    · rw [b0k h2,b0k h2]
      refine (h.kids k h1).keep fun r hr => ?_
      rw [List.getElem?_set,if_neg (fun e=>(h.away k h1).1 (by rw [e];exact hr)),List.getElem?_set,if_neg (fun e=>(h.away k h1).2 (by rw [e];exact hr))]
  · rcases hmem k hk with rfl | ⟨h1,h2⟩
    · rw [b0l];simp [b1z]
    · rw [b0k h2];exact h.away k h1
  · rcases hmem k hk with rfl | ⟨h1,h2⟩
    · left;rw [b0l];rfl
    · rw [b0k h2]
      rcases hmem k' hk' with rfl | ⟨h3,h4⟩
      · rw [b0l]
        cases hr:b1z (av k) with
        | none=>exact .inl rfl
        | some q=>exact .inr (by simp [b1z])
      · rw [b0k h4];exact h.disj k k' h1 h3 hne
theorem DFr.push {L:List Nat} {av:Nat→AV} {p q:Nat} {g:List AObj} {N:Nat} (hN:N ∉ L) (o o':AObj):DFr L av p q g (L++[N]) (upd av N .nils) q ((g.set q o).set p o') where
 len:=by simp
 keep j hj hp hq hn:=by rw [List.getElem?_set,if_neg (fun e=>hp e.symm),List.getElem?_set,if_neg (fun e=>hq e.symm)]
 row:=.inl rfl
 refs k hk j hj _:=by
  rcases List.mem_append.1 hk with h1 | h1
  ·have:k≠N:=fun e=>hN (e ▸ h1)
   rw [b0k this] at hj;exact ⟨k,h1,hj⟩
  ·simp at h1;subst h1;rw [b0l] at hj;cases hj
namespace Tryz
noncomputable def doD (S:MS) (x:GOp):Int × Int × MS :=
 if x.kind=1 then (if b1n S.N x=0 then ((S.N:Int),0,S.create x) else (0,b1n S.N x,S))
 else if x.kind=2 then (0,b7h S x.node x.up x.before)
 else if x.kind=3 then (0,c7n S x.node x.before)
 else if x.kind=4 then (0,b7e S x.node)
 else if x.kind=5 then (0,setD S x.node x.name x.text)
 else if x.kind=6 then (0,delD S x.node x.name)
 else if x.kind=7 then (0,c7l S x.node x.text)
 else (0,0,S)
section
variable {R:Nat} {S:MS} {av:Nat→AV} {p q:Nat} {g:List AObj}
theorem g1w (hD:DM (b0h S) S.st S.kd S.N av p q g) (hL:(b0h S).length≤4194304) (x:GOp) (hs:b1u x.attrs) {n:Nat} (hn:x.attrs.length<n) (hn2:1048576<n) :
    ∃ av' g', b0f T (n + 37) 83 [DP p, .p (.str x.tag), .p (.str x.key), .p (.str x.text), .p (.list (x.attrs.map Attr.pv))] g = some (if b1n S.N x = 0 then .tuple [.p (.int .i64 S.N), .p (.int .i64 0)] else .tuple [.p (.int .i64 0), .p (.int .i64 (b1n S.N x))], g')
      ∧ DM (b0h (if b1n S.N x=0 then S.create x else S)) (if b1n S.N x=0 then S.create x else S).st (if b1n S.N x=0 then S.create x else S).kd (if b1n S.N x=0 then S.create x else S).N av' p q g'∧DFr (b0h S) av p q g (b0h (if b1n S.N x=0 then S.create x else S)) av' q g':=by
  obtain ⟨o,ho,hrep⟩:=hD.core.row
  have hob:=hD.core.obj
  have hnm:=fun g=>b2m x.tag false g (n+1)
  have hat:=fun g=>g2d x.attrs hs g (n:=n) (by omega) hn2
  have bad:∀ e:Int,b1n S.N x=e→e≠0→b0f T (n+37) 83 [DP p,.p (.str x.tag),.p (.str x.key),.p (.str x.text),.p (.list (x.attrs.map Attr.pv))] g=some (.tuple [.p (.int .i64 0),.p (.int .i64 e)],g) →
      ∃ av' g',b0f T (n+37) 83 [DP p,.p (.str x.tag),.p (.str x.key),.p (.str x.text),.p (.list (x.attrs.map Attr.pv))] g=some (if b1n S.N x=0 then .tuple [.p (.int .i64 S.N),.p (.int .i64 0)] else .tuple [.p (.int .i64 0),.p (.int .i64 (b1n S.N x))],g')
      ∧ DM (b0h (if b1n S.N x=0 then S.create x else S)) (if b1n S.N x=0 then S.create x else S).st (if b1n S.N x=0 then S.create x else S).kd (if b1n S.N x=0 then S.create x else S).N av' p q g'∧DFr (b0h S) av p q g (b0h (if b1n S.N x=0 then S.create x else S)) av' q g':=fun e he hne hr=>by
    rw [he,if_neg hne,if_neg hne]
    exact ⟨av,g,hr,hD,DFr.refl _ _ _ _ _⟩
  by_cases h7:b2i false x.tag=false
  · refine bad 7 (by simp [b1n,h7]) (by decide) ?_
    rw [h7] at hnm
    rw [b0a T83,b0g rfl rfl]
    simp -implicitDefEqProofs (disch:=omega) only [Rx,simprocAttr,F83,hnm]
  simp only [Bool.not_eq_false] at h7
  rw [h7] at hnm
  by_cases h3:65536<(x.key.length:Int)
  · refine bad 3 (by simp only [b1n,h7,Bool.true_eq_false,if_false,if_pos (Or.inl h3:65536<(x.key.length:Int)∨65536<(x.text.length:Int))]) (by decide) ?_
    have k3:(x.key.length:Int) > 65536:=h3
    rw [b0a T83,b0g rfl rfl]
    simp -implicitDefEqProofs (disch:=omega) only [Rx,simprocAttr,F83,hnm,k3]
  have k3:¬ (x.key.length:Int) > 65536:=h3
  by_cases h4:65536<(x.text.length:Int)
  · refine bad 3 (by simp only [b1n,h7,Bool.true_eq_false,if_false,if_pos (Or.inr h4:65536<(x.key.length:Int)∨65536<(x.text.length:Int))]) (by decide) ?_
    have k4:(x.text.length:Int) > 65536:=h4
    rw [b0a T83,b0g rfl rfl]
    simp -implicitDefEqProofs (disch:=omega) only [Rx,simprocAttr,F83,hnm,k3,k4]
  have k4:¬ (x.text.length:Int) > 65536:=h4
  have h34:¬ (65536<(x.key.length:Int)∨65536<(x.text.length:Int)):=fun h=>h.elim h3 h4
  by_cases h5:b2o x.attrs≠0
  · refine bad (b2o x.attrs) (by simp only [b1n,h7,Bool.true_eq_false,if_false,if_neg h34,if_pos h5]) h5 ?_
    have k5:(b2o x.attrs==0)=false:=by simpa using h5
    generalize b2o x.attrs=e at hat k5
    rw [b0a T83,b0g rfl rfl]
    simp -implicitDefEqProofs (disch:=omega) only [Rx,simprocAttr,F83,hnm,k3,k4,hat,k5]
  simp only [ne_eq,Decidable.not_not] at h5
  rw [h5] at hat
  by_cases h6:4294967295<(S.N:Int)
  · refine bad 21 (by simp only [b1n,h7,Bool.true_eq_false,if_false,if_neg h34,h5,ne_eq,not_true_eq_false,if_pos h6]) (by decide) ?_
    have k6:(S.N:Int) > 4294967295:=h6
    rw [b0a T83,b0g rfl rfl]
    simp -implicitDefEqProofs (disch:=omega) only [Rx,simprocAttr,F83,hnm,k3,k4,hat,hob,k6]
  have k6:¬ (S.N:Int) > 4294967295:=h6
  have hz:b1n S.N x=0:=by simp only [b1n,h7,Bool.true_eq_false,if_false,if_neg h34,h5,ne_eq,not_true_eq_false,if_neg h6]
  rw [hz,if_pos rfl,if_pos rfl]
  have hNL:S.N ∉ b0h S:=fun h=>by have:=(b1m.1 h).1;omega
  obtain ⟨o',happ,hr'⟩:=hrep.app (bytes:=112) b2b (by omega) (c:=nAV S.N ⟨true, -1,x.tag,x.key,x.text,x.attrs⟩ .nils) rfl rfl
  rw [d1u hNL] at hr'
  have hDp:=hD.push hNL ⟨true, -1,x.tag,x.key,x.text,x.attrs⟩ ((S.N:Int)+1) hr'
  have hFp:=DFr.push (av:=av) (p:=p) (q:=q) (g:=g) hNL o' (.cells 2 [[.own true q ((b0h S).length+1),.p (.int .i64 ((S.N:Int)+1))]])
  refine ⟨upd av S.N .nils,_, ?_,by rw [c6w];exact hDp,by rw [c6w];exact hFp⟩
  have hpl:=(List.getElem?_eq_some_iff.1 hob).1
  have hob2:(g.set q o')[p]? = some (.cells 2 [[.own true q (b0h S).length,.p (.int .i64 S.N)]]):=by
    rw [List.getElem?_set,if_neg (fun e=>hD.core.pq e.symm)];exact hob
  have hA:∀ X:AObj,((g.set q o').set p X)[p]? = some X:=fun X=>by rw [List.getElem?_set,if_pos rfl,if_pos (by rw [List.length_set];exact hpl)]
  have hss:∀ X Y:AObj,((g.set q o').set p X).set p Y=(g.set q o').set p Y:=fun X Y=>by simp
  have e9:(S.N:Int)+1 - 1=S.N:=by omega
  generalize hG:g.set q o'=G at hob2 hA hss
  simp only [nAV,List.map_nil] at happ
  rw [b0a T83,b0g rfl rfl]
  simp -implicitDefEqProofs (disch:=omega) only [Rx,simprocAttr,F83,hnm,k3,k4,hat,hob,ho,k6,happ,hG,hob2,hA,hss,e9]
end
end Tryz
end Go.TA


end
section
/- The document's answer, of rows. -/
namespace Go.TA
structure d0r (g0:List AObj) (L:List Nat) (av:Nat→AV) (g:List AObj):Prop where
 len:g0.length≤g.length
 keep:∀ j,j<g0.length→g[j]? = g0[j]?
 refs:∀ h,h ∈ L→∀ r,b1z (av h)=some r→g0.length≤r
theorem DM.grow {L : List Nat} {st : Nat → b3p} {kd : Nat → List Int} {nx : Int} {av : Nat → AV} {p q : Nat} {g : List AObj} (h : DM L st kd nx av p q g) {c r : Nat} (hc : c ∈ L) (ha : av c = .own true r (kd c).length) (k : Int) {o' : AObj} (hr : b3y 7 (b3j L st (upd av c (.own true r ((kd c).length + 1)))) o') : DM L st (upd kd c (kd c ++ [k])) nx (upd av c (.own true r ((kd c).length + 1))) p q ((g.set r (.pcells 1 (b0j (kd c ++ [k])))).set q o') := by
  have hro:b1z (av c)=some r:=by rw [ha];rfl
  have hrp:=(h.away c hc).1
  have hrq:=(h.away c hc).2
  rw [hro] at hrp hrq
  simp only [ne_eq,Option.some.injEq] at hrp hrq
  have hrl:=(h.kids c hc).ref_lt hro
  obtain ⟨o,ho,_⟩:=h.core.row
  have hql:=(List.getElem?_eq_some_iff.1 ho).1
  have hrn:∀ n,b1z (.own true r n)=some r:=fun n=>rfl
  refine ⟨⟨?_,⟨o', ?_,hr⟩,h.core.pq,h.core.nodup⟩,fun y hy => ?_,fun y hy => ?_,fun y y' hy hy' hne => ?_⟩
  · rw [List.getElem?_set,if_neg (fun e=>h.core.pq e.symm),List.getElem?_set,if_neg hrp];exact h.core.obj
  · rw [List.getElem?_set,if_pos rfl,if_pos (by rw [List.length_set];exact hql)]
  · by_cases e:y=c
    · subst e
      rw [b0l,b0l]
      have:=KG.own (g:=(g.set r (.pcells 1 (b0j (kd y++[k])))).set q o') (r:=r) (ks:=kd y++[k]) (by rw [List.getElem?_set,if_neg (fun e=>hrq e.symm),List.getElem?_set,if_pos rfl,if_pos hrl])
      simpa using this
    · rw [b0k e,b0k e]
      refine (h.kids y hy).keep fun r' hr' => ?_
      rw [List.getElem?_set,if_neg (fun e=>(h.away y hy).2 (by rw [e];exact hr')),List.getElem?_set,if_neg]
      intro e2
      rcases h.disj y c hy hc e with h1 | h1
      · rw [h1] at hr';cases hr'
      · exact h1 (by rw [hr',hro,e2])
  · by_cases e:y=c
    · subst e;rw [b0l,hrn];simp [hrp,hrq]
    · rw [b0k e];exact h.away y hy
  · have e0:∀ n,b1z (.own true r n)=b1z (av c):=fun n=>by rw [hro];rfl
    by_cases e:y=c
    · subst e
      rw [b0l,b0k (fun e=>hne e.symm),e0]
      exact h.disj y y' hy hy' hne
    · rw [b0k e]
      by_cases e':y'=c
      · subst e'
        rw [b0l,e0]
        exact h.disj y y' hy hy' hne
      · rw [b0k e'];exact h.disj y y' hy hy' hne
theorem DM.first {L : List Nat} {st : Nat → b3p} {kd : Nat → List Int} {nx : Int} {av : Nat → AV} {p q : Nat} {g : List AObj} (h : DM L st kd nx av p q g) {c : Nat} (hc : c ∈ L) (k : Int) {o' : AObj} (hr : b3y 7 (b3j L st (upd av c (.own true g.length 1))) o') : DM L st (upd kd c [k]) nx (upd av c (.own true g.length 1)) p q ((g ++ [AObj.pcells 1 (b0j [k])]).set q o') := by
  obtain ⟨o,ho,_⟩:=h.core.row
  have hql:=(List.getElem?_eq_some_iff.1 ho).1
  have hpl:=(List.getElem?_eq_some_iff.1 h.core.obj).1
  have hrn:b1z (.own true g.length 1)=some g.length:=rfl
  refine ⟨⟨?_,⟨o', ?_,hr⟩,h.core.pq,h.core.nodup⟩,fun y hy => ?_,fun y hy => ?_,fun y y' hy hy' hne => ?_⟩
  · rw [List.getElem?_set,if_neg (fun e=>h.core.pq e.symm),List.getElem?_append_left hpl];exact h.core.obj
  · rw [List.getElem?_set,if_pos rfl,if_pos (by rw [List.length_append];omega)]
  · by_cases e:y=c
    · subst e
      rw [b0l,b0l]
      exact KG.own (ks:=[k]) (by rw [List.getElem?_set,if_neg (by omega)];simp)
    · rw [b0k e,b0k e]
      refine (h.kids y hy).keep fun r' hr' => ?_
      have:=(h.kids y hy).ref_lt hr'
      rw [List.getElem?_set,if_neg (fun e=>(h.away y hy).2 (by rw [e];exact hr')),List.getElem?_append_left this]
  · by_cases e:y=c
    · subst e;rw [b0l,hrn];simp;omega
    · rw [b0k e];exact h.away y hy
  · by_cases e:y=c
    · subst e
      rw [b0l,b0k (fun e=>hne e.symm),hrn]
      cases hr:b1z (av y') with
      | none=>exact .inr (by simp)
      | some r =>
        right
        have:=(h.kids y' hy').ref_lt hr
        simp only [ne_eq,Option.some.injEq];omega
    · rw [b0k e]
      by_cases e':y'=c
      · subst e'
        rw [b0l,hrn]
        cases hr:b1z (av y) with
        | none=>exact .inl rfl
        | some r =>
          right
          have:=(h.kids y hy).ref_lt hr
          simp only [ne_eq,Option.some.injEq];omega
      · rw [b0k e'];exact h.disj y y' hy hy' hne
namespace Tryz
def newD (l:List GRow) (p i:Nat) (g:List AObj):St:=⟨[(0,.p (.list (l.map GRow.pv))),(3,DP p),(8,.p (.int .i64 l.length)),(9,.p (.int .i64 i))],[],g⟩
theorem h1o {C : b0n} {N : Nat} (l : List GRow) (hl : l.length ≤ 1048576) (hs : b1r l l.length) (hN : l.length < N) (g0 : List AObj) (av0 : Nat → AV) (g1 : List AObj) (p q : Nat) (hD0 : DM (List.range 1) (st0 l) (kd0 l 0) 1 av0 p q g1) (hav0 : ∀ h, h ∈ List.range 1 → ∀ ks, av0 h ≠ .p ks) (hB0 : d0r g0 (List.range 1) av0 g1) (hp : g0.length ≤ p) (hq : g0.length ≤ q) :
    ∃ r,b0t C N (.loop h5d) (newD l p 0 g1)=some r∧∃ av g,r=(.exit 0,⟨[(0,.p (.list (l.map GRow.pv))),(3,DP p)],[],g⟩)∧DM (List.range (l.length+1)) (st0 l) (kd0 l l.length) 1 av p q g∧d0r g0 (List.range (l.length+1)) av g:=by
  refine b1i (σ := Nat × (Nat→AV) × List AObj) (S:=fun s=>newD l p s.1 s.2.2) (I:=fun s=>s.1≤l.length∧DM (List.range (s.1+1)) (st0 l) (kd0 l s.1) 1 s.2.1 p q s.2.2∧(∀ h,h ∈ List.range (s.1+1)→∀ ks,s.2.1 h ≠ .p ks)∧d0r g0 (List.range (s.1+1)) s.2.1 s.2.2) (μ := fun s=>l.length - s.1)
    (Q:=fun r=>∃ av g,r=(.exit 0,⟨[(0,.p (.list (l.map GRow.pv))),(3,DP p)],[],g⟩)∧DM (List.range (l.length+1)) (st0 l) (kd0 l l.length) 1 av p q g∧d0r g0 (List.range (l.length+1)) av g) ?_ (0,av0,g1) ⟨by omega,hD0,hav0,hB0⟩ (by simp only;omega)
  rintro ⟨i,av,g⟩ ⟨h1,hD,h3,hB⟩
  simp only at h1 hD h3 hB ⊢
  by_cases hi:i<l.length
  · left
    obtain ⟨x,hx⟩:=b0m hi
    have hu:=hs i x hi hx
    obtain ⟨u,hue⟩:∃ u:Nat,x.up=(u:Int):=⟨x.up.toNat,by omega⟩
    have hg:=b0s (f:=GRow.pv) hx
    have k1:(i:Int)<(l.length:Int):=by omega
    have hst:st0 l (i+1)=b5o x:=by simp [st0,hx]
    obtain ⟨o,ho,hrep⟩:=hD.core.row
    have hob:=hD.core.obj
    have hrl:(List.range (i+1)).length=i+1:=by simp
    rw [hrl] at hob
    have hNL:i+1 ∉ List.range (i+1):=by simp
    obtain ⟨o1,happ,hr1⟩:=hrep.app (n:=i+1) (bytes:=112) (by rw [b2b,hrl]) (by omega) (c:=nAV (i+1) (b5o x) .nils) rfl rfl
    rw [d1u hNL] at hr1
    have hD1:=hD.push hNL (b5o x) 1 hr1
    rw [hrl] at hD1
    have hD2:DM (List.range (i+1+1)) (st0 l) (upd (kd0 l i) (i+1) []) 1 (upd av (i+1) .nils) p q ((g.set q o1).set p (.cells 2 [[.own true q (i+1+1),.p (.int .i64 1)]])):=by
      rw [List.range_succ]
      refine hD1.congr fun k hk=>⟨?_,rfl⟩
      by_cases e:k=i+1
      · subst e;rw [b0l,hst]
      · rw [b0k e]
    have hB2:d0r g0 (List.range (i+1+1)) (upd av (i+1) .nils) ((g.set q o1).set p (.cells 2 [[.own true q (i+1+1),.p (.int .i64 1)]])):=by
      refine ⟨by simpa using hB.len,fun j hj => ?_,fun h hh r hr => ?_⟩
      · rw [List.getElem?_set,if_neg (by omega),List.getElem?_set,if_neg (by omega)];exact hB.keep j hj
      · by_cases e:h=i+1
        · subst e;rw [b0l] at hr;cases hr
        · rw [b0k e] at hr
          exact hB.refs h (by have:=List.mem_range.1 hh;exact List.mem_range.2 (by omega)) r hr
    have h32:∀ h,h ∈ List.range (i+1+1)→∀ ks,upd av (i+1) .nils h ≠ .p ks:=fun h hh ks=>by
      by_cases e:h=i+1
      · subst e;rw [b0l];simp
      · rw [b0k e];exact h3 h (by have:=List.mem_range.1 hh;exact List.mem_range.2 (by omega)) ks
    have hpl:=(List.getElem?_eq_some_iff.1 hob).1
    have hob1:(g.set q o1)[p]? = some (.cells 2 [[.own true q (i+1),.p (.int .i64 1)]]):=by
      rw [List.getElem?_set,if_neg (fun e=>hD.core.pq e.symm)];exact hob
    generalize hG:g.set q o1=G at hD2 hB2 hob1
    generalize hG2:G.set p (.cells 2 [[.own true q (i+1+1),.p (.int .i64 1)]])=G2 at hD2 hB2
    generalize hav2:upd av (i+1) .nils=av2 at hD2 hB2 h32
    have hrl2:(List.range (i+1+1)).length=i+1+1:=by simp
    obtain ⟨o2,ho2,hrep2⟩:=hD2.core.row
    have hob2:=hD2.core.obj
    rw [hrl2] at hob2
    have hix2:=fun s i=>hrep2.idx (by rw [b2b,hrl2]) s true q i
    have hul:u<i+1+1:=by omega
    have huL:u ∈ List.range (i+1+1):=List.mem_range.2 hul
    have hiu:(List.range (i+1+1))[u]? = some u:=List.getElem?_range hul
    have ku:(u:Int)<((i+1+1:Nat):Int):=by omega
    have rdu:=b4f hrep2 hiu (j:=2) (by omega)
    rw [hrl2] at rdu
    simp only [nAV] at rdu
    have hK:=hD2.kids u huL
    have hkd:∀ h,h ∈ List.range (i+1+1)→upd (upd (kd0 l i) (i+1) []) u (upd (kd0 l i) (i+1) [] u++[(i:Int)+1]) h=kd0 l (i+1) h:=by
      intro h hh
      have hnew:upd (kd0 l i) (i+1) [] h=kd0 l i h:=by
        by_cases e:h=i+1
        · subst e;rw [b0l,h2i (hs.mono (by omega)) (by omega)]
        · rw [b0k e]
      rw [c1t hx,hue]
      by_cases e:h=u
      · subst e
        rw [b0l,hnew,if_pos rfl]
      · rw [b0k e,hnew,if_neg (by omega)]
    have hkl:(upd (kd0 l i) (i+1) [] u).length≤1048576:=by
      by_cases e:u=i+1
      · rw [e,b0l];simp
      · rw [b0k e]
        simp only [kd0,List.length_map]
        have:=List.length_filter_le (fun k=>((l[k]?).map (fun x=>x.up==(u:Int))).getD false) (List.range i)
        simp only [List.length_range] at this
        omega
    generalize hkd2:upd (kd0 l i) (i+1) []=kd2 at hD2 hK hkd hkl
    have hwr:=fun a=>c5k hrep2 hiu (j:=2) (by omega) a
    have hql:=(List.getElem?_eq_some_iff.1 ho2).1
    have hp2:=(List.getElem?_eq_some_iff.1 hob2).1
    simp only [nAV,b5o,hue] at happ
    have c1:((i+1:Nat):Int)=(i:Int)+1:=by omega
    rw [c1] at happ
    rcases hK.inv with ⟨hav,hk0⟩ | ⟨r,hav,hr⟩ | hav
    · rw [hav] at rdu
      obtain ⟨o3,hw,hr3⟩:=hwr (.own true G2.length 1)
      rw [c8r List.nodup_range hiu] at hr3
      rw [hrl2] at hw
      have hD3:=hD2.first huL ((i:Int)+1) hr3
      refine ⟨(i+1,upd av2 u (.own true G2.length 1),(G2++[AObj.pcells 1 (b0j [(i:Int)+1])]).set q o3), ?_,⟨by simp only;omega,hD3.congr fun h hh=>⟨rfl,by rw [← hkd h hh,hk0];rfl⟩,fun h hh ks => ?_, ?_,fun j hj => ?_,fun h hh r hr => ?_⟩,by simp only;omega⟩
      · have hlast:(G2++[AObj.pcells 1 []])[G2.length]? = some (.pcells 1 []):=by simp
        have hset:∀ X,(G2++[AObj.pcells 1 []]).set G2.length X=G2++[X]:=fun X=>by simp [List.set_append]
        have hob3:∀ X,(G2++[X])[p]? = some (.cells 2 [[.own true q (i+1+1),.p (.int .i64 1)]]):=fun X=>by rw [List.getElem?_append_left hp2];exact hob2
        have ho3:∀ X,(G2++[X])[q]? = some o2:=fun X=>by rw [List.getElem?_append_left hql];exact ho2
        have ei:b0j [(i:Int)+1]=[[.int .i64 ((i:Int)+1)]]:=rfl
        rw [ei]
        simp only [newD]
        simp -implicitDefEqProofs (disch:=omega) only [Rx,simprocAttr,h5d,k1,hg,GRow.pv,b0b,hob,ho,happ,hG,hob1,hG2,hob2,ho2,hix2,hue,rdu,hset,hob3,ho3,hw]
      · by_cases e:h=u
        · subst e;simp [upd]
        · simp only;rw [b0k e];exact h32 h hh ks
      · have:=hB2.len;simp;omega
      · have:=hB2.len
        simp only
        rw [List.getElem?_set,if_neg (by omega),List.getElem?_append_left (by omega)];exact hB2.keep j hj
      · simp only at hr
        by_cases e:h=u
        · subst e
          rw [b0l] at hr
          simp only [b1z,Option.some.injEq] at hr
          have:=hB2.len;omega
        · rw [b0k e] at hr;exact hB2.refs h hh r hr
    · rw [hav] at rdu
      obtain ⟨o3,hw,hr3⟩:=hwr (.own true r ((kd2 u).length+1))
      rw [c8r List.nodup_range hiu] at hr3
      rw [hrl2] at hw
      have hD3:=hD2.grow huL hav ((i:Int)+1) hr3
      have hro:b1z (av2 u)=some r:=by rw [hav];rfl
      have hrb:=hB2.refs u huL r hro
      refine ⟨(i+1,upd av2 u (.own true r ((kd2 u).length+1)),(G2.set r (.pcells 1 (b0j (kd2 u++[(i:Int)+1])))).set q o3), ?_,⟨by simp only;omega,hD3.congr fun h hh=>⟨rfl,by rw [← hkd h hh]⟩,fun h hh ks => ?_, ?_,fun j hj => ?_,fun h hh r' hr' => ?_⟩,by simp only;omega⟩
      · have hrp:=(hD2.away u huL).1
        have hrq:=(hD2.away u huL).2
        rw [hro] at hrp hrq
        simp only [ne_eq,Option.some.injEq] at hrp hrq
        have hob3:∀ X,(G2.set r X)[p]? = some (.cells 2 [[.own true q (i+1+1),.p (.int .i64 1)]]):=fun X=>by rw [List.getElem?_set,if_neg hrp];exact hob2
        have ho3:∀ X,(G2.set r X)[q]? = some o2:=fun X=>by rw [List.getElem?_set,if_neg hrq];exact ho2
        have il:=b0v (kd2 u)
        have os:=b4a (kd2 u) ((i:Int)+1)
        have ol:(b0j (kd2 u++[(i:Int)+1])).length=(kd2 u).length+1:=by rw [b0v];simp
        generalize kd2 u++[(i:Int)+1]=ks2 at os ol
        simp only [newD]
        simp -implicitDefEqProofs (disch:=omega) only [Rx,simprocAttr,h5d,k1,hg,GRow.pv,b0b,hob,ho,happ,hG,hob1,hG2,hob2,ho2,hix2,hue,rdu,hr,il,os,ol,hob3,ho3,hw]
      · by_cases e:h=u
        · subst e;simp [upd]
        · simp only;rw [b0k e];exact h32 h hh ks
      · have:=hB2.len;simp;omega
      · have:=hB2.len
        simp only
        rw [List.getElem?_set,if_neg (by omega),List.getElem?_set,if_neg (by omega)];exact hB2.keep j hj
      · simp only at hr'
        by_cases e:h=u
        · subst e
          rw [b0l] at hr'
          simp only [b1z,Option.some.injEq] at hr'
          omega
        · rw [b0k e] at hr';exact hB2.refs h hh r' hr'
    · exact absurd hav (h32 u huL _)
  · right
    obtain rfl:i=l.length:=by omega
    have k1:¬ (l.length:Int)<(l.length:Int):=by omega
    refine ⟨_, ?_, ?_,av,g,rfl,hD,hB⟩
    · simp only [newD]
      simp -implicitDefEqProofs (disch:=omega) only [Rx,simprocAttr,h5d,k1]
    · simp
theorem h1p (nx:Int) (g:List AObj) (n:Nat):b0f T (n+1) 49 [.p (.int .i64 nx)] g=some (DP (g.length+1),g++[.cells 7 [nAV 0 b7c .nils]]++[.cells 2 [[.own true g.length 1,.p (.int .i64 nx)]]]):=by
 rw [b0a T49,b0g rfl rfl]
 have e:(g++[AObj.cells 7 [nAV 0 b7c .nils]]).length=g.length+1:=by simp
 simp only [nAV,b7c,List.map_nil,Int.natCast_zero] at e ⊢
 simp -implicitDefEqProofs (disch:=omega) only [Rx,simprocAttr,F49,e]
theorem h4m (l:List GRow):b0h (S0 l)=List.range (l.length+1):=by
  unfold b0h
  refine List.filter_eq_self.2 fun c hc => ?_
  have hc:=List.mem_range.1 hc
  simp only [S0] at hc ⊢
  cases c with
  | zero=>rfl
  | succ j =>
    obtain ⟨x,hx⟩:=b0m (show j<l.length by omega)
    simp [st0,hx,b5o]
theorem h6q (l:List GRow) (hl:l.length≤1048576) (hs:b1r l l.length) (g:List AObj) {n:Nat} (hn:l.length<n) :
  ∃ av g',b0f T (n+2) 19 [.p (.list (l.map GRow.pv))] g=some (DP (g.length+1),g')∧DM (b0h (S0 l)) (S0 l).st (S0 l).kd (S0 l).N av (g.length+1) g.length g'∧d0r g (b0h (S0 l)) av g':=by
 have hn20:=h1p 1 g n
 have hr1:List.range 1=[0]:=rfl
 have hD0:DM (List.range 1) (st0 l) (kd0 l 0) 1 (fun _ => .nils) (g.length+1) g.length (g++[.cells 7 [nAV 0 b7c .nils]]++[.cells 2 [[.own true g.length 1,.p (.int .i64 1)]]]):=by
  refine ⟨⟨?_,⟨.cells 7 [nAV 0 b7c .nils], ?_,.inl rfl⟩,by omega,List.nodup_range⟩,fun h hh => ?_,fun h hh=>by simp [b1z],fun h h' hh hh' hne => .inl rfl⟩
  ·rw [List.getElem?_append_right (by simp)];simp
  ·rw [List.append_assoc,List.getElem?_append_right (Nat.le_refl _)];simp
  ·exact .none
 have hB0:d0r g (List.range 1) (fun _ => .nils) (g++[.cells 7 [nAV 0 b7c .nils]]++[.cells 2 [[.own true g.length 1,.p (.int .i64 1)]]]):=⟨by simp <;> omega,fun j hj=>by rw [List.append_assoc,List.getElem?_append_left hj],fun h hh r hr=>by cases hr⟩
 obtain ⟨r,hr,av,g2,rfl,hD,hB⟩:=h1o (C:=b0f T (n+1)) (N:=n+1) l hl hs (by omega) g _ _ (g.length+1) g.length hD0 (fun h hh ks=>by simp) hB0 (by omega) (by omega)
 have hpl:=(List.getElem?_eq_some_iff.1 hD.core.obj).1
 have hob:=hD.core.obj
 have hll:(List.range (l.length+1)).length=l.length+1:=by simp
 rw [hll] at hob
 refine ⟨av,g2.set (g.length+1) (.cells 2 [[.own true g.length (l.length+1),.p (.int .i64 ((l.length:Int)+1))]]), ?_, ?_, ?_⟩
 ·generalize g++[AObj.cells 7 [nAV 0 b7c .nils]]++[.cells 2 [[.own true g.length 1,.p (.int .i64 1)]]]=g1 at hn20 hr
  have ll:(l.map GRow.pv).length=l.length:=by simp
  simp only [newD,Int.natCast_zero] at hr
  rw [b0a T19,b0g rfl rfl]
  simp -implicitDefEqProofs (disch:=omega) only [Rx,simprocAttr,F19,hn20,hr,hob,ll]
 ·rw [h4m]
  have hne:=hD.core.pq
  refine ⟨⟨?_, ?_,hne,hD.core.nodup⟩,fun h hh=>(hD.kids h hh).keep fun r hr => ?_,hD.away,hD.disj⟩
  ·rw [List.getElem?_set,if_pos rfl,if_pos hpl,hll];simp [S0]
  ·obtain ⟨o,h1,h2⟩:=hD.core.row
   exact ⟨o,by rw [List.getElem?_set,if_neg hne];exact h1,h2⟩
  ·rw [List.getElem?_set,if_neg (fun e=>(hD.away h hh).1 (by rw [e];exact hr))]
 ·rw [h4m]
  refine ⟨by simpa using hB.len,fun j hj => ?_,hB.refs⟩
  rw [List.getElem?_set,if_neg (by omega)];exact hB.keep j hj
end Tryz
end Go.TA


end
section
/- The document's answer: any operation. -/
namespace Go.TA.Tryz
section
variable {R:Nat} {S:MS} {av:Nat→AV} {p q:Nat} {g:List AObj}
theorem h2k (S:MS) (id up b:Int):(b7h S id up b).2.N=S.N:=by
 unfold b7h;repeat' split
 all_goals rfl
theorem j0r (S:MS) (id b:Int):(c7n S id b).2.N=S.N:=by
 unfold c7n;repeat' split
 all_goals first | rfl | simp [b2h,b5i]
theorem h0j (S:MS) (id:Int):(b7e S id).2.N=S.N:=by
 unfold b7e;split
 ·rfl
 ·simp [endM,b5i]
theorem j2s (S:MS) (id:Int) (name v:Bs):(setD S id name v).2.N=S.N:=by
 unfold setD;repeat' split
 all_goals rfl
theorem j3o (S:MS) (id:Int) (name:Bs):(delD S id name).2.N=S.N:=by
 unfold delD;repeat' split
 all_goals rfl
theorem h9t (S:MS) (id:Int) (s:Bs):(c7l S id s).2.N=S.N:=by
 unfold c7l;repeat' split
 all_goals rfl
theorem j1o (hS:S.Ok R) (hD:DM (b0h S) S.st S.kd S.N av p q g) (hL:(b0h S).length≤4194304) (x:GOp) (hs:b1u x.attrs) {n:Nat} (hn:(b0h S).length<n) (hR:R+3<n) (hx:x.attrs.length<n) (hn2:1048577<n) :
  ∃ av' q' g',b0f T (n+38) 52 [DP p,.p (.agg x.pv)] g=some (.tuple [.p (.int .i64 (doD S x).1),.p (.int .i64 (doD S x).2.1)],g')∧DM (b0h (doD S x).2.2) (doD S x).2.2.st (doD S x).2.2.kd (doD S x).2.2.N av' p q' g'∧DFr (b0h S) av p q g (b0h (doD S x).2.2) av' q' g':=by
 unfold doD
 by_cases h1:x.kind=1
 ·rw [if_pos h1]
  have e1:(x.kind==1)=true:=by simpa using h1
  obtain ⟨av',g',hc,hD',hF⟩:=g1w hD hL x hs (n:=n) (by omega) (by omega)
  by_cases hz:b1n S.N x=0
  ·rw [if_pos hz] at hc hD' hF ⊢
   refine ⟨av',q,g', ?_,hD',hF⟩
   rw [b0a T52,b0g rfl rfl]
   simp -implicitDefEqProofs (disch:=omega) only [Rx,simprocAttr,F52,GOp.pv,b0b,e1,hc]
  ·rw [if_neg hz] at hc hD' hF ⊢
   refine ⟨av',q,g', ?_,hD',hF⟩
   generalize b1n S.N x=e at hc
   rw [b0a T52,b0g rfl rfl]
   simp -implicitDefEqProofs (disch:=omega) only [Rx,simprocAttr,F52,GOp.pv,b0b,e1,hc]
 rw [if_neg h1]
 have e1:(x.kind==1)=false:=by simpa using h1
 by_cases h2:x.kind=2
 ·rw [if_pos h2]
  have e2:(x.kind==2)=true:=by simpa using h2
  obtain ⟨av',g',hc,hD',hF⟩:=g1h hS hD hL x.node x.up x.before (n:=n+33) (by omega) (by omega)
  refine ⟨av',q,g', ?_,by rw [h2k];exact hD',hF⟩
  generalize b7h S x.node x.up x.before=z at hc
  rw [b0a T52,b0g rfl rfl]
  simp -implicitDefEqProofs (disch:=omega) only [Rx,simprocAttr,F52,GOp.pv,b0b,e1,e2,hc]
 rw [if_neg h2]
 have e2:(x.kind==2)=false:=by simpa using h2
 by_cases h3:x.kind=3
 ·rw [if_pos h3]
  have e3:(x.kind==3)=true:=by simpa using h3
  obtain ⟨av',g',hc,hD',hF⟩:=h1s hS hD hL x.node x.before (n:=n+33) (by omega)
  refine ⟨av',q,g', ?_,by rw [j0r];exact hD',hF⟩
  generalize c7n S x.node x.before=z at hc
  rw [b0a T52,b0g rfl rfl]
  simp -implicitDefEqProofs (disch:=omega) only [Rx,simprocAttr,F52,GOp.pv,b0b,e1,e2,e3,hc]
 rw [if_neg h3]
 have e3:(x.kind==3)=false:=by simpa using h3
 by_cases h4:x.kind=4
 ·rw [if_pos h4]
  have e4:(x.kind==4)=true:=by simpa using h4
  obtain ⟨av',q',g',hc,hD',hF⟩:=g0i hS hD hL x.node (n:=n+33) (by omega) (by omega)
  refine ⟨av',q',g', ?_,by rw [h0j];exact hD',hF⟩
  generalize b7e S x.node=z at hc
  rw [b0a T52,b0g rfl rfl]
  simp -implicitDefEqProofs (disch:=omega) only [Rx,simprocAttr,F52,GOp.pv,b0b,e1,e2,e3,e4,hc]
 rw [if_neg h4]
 have e4:(x.kind==4)=false:=by simpa using h4
 by_cases h5:x.kind=5
 ·rw [if_pos h5]
  have e5:(x.kind==5)=true:=by simpa using h5
  obtain ⟨g',hc,hD',hF⟩:=h5s hS hD hL x.node x.name x.text (n:=n+1) (by omega) (by omega)
  refine ⟨av,q,g', ?_,by rw [j2s];exact hD',hF⟩
  generalize setD S x.node x.name x.text=z at hc
  rw [b0a T52,b0g rfl rfl]
  simp -implicitDefEqProofs (disch:=omega) only [Rx,simprocAttr,F52,GOp.pv,b0b,e1,e2,e3,e4,e5,hc]
 rw [if_neg h5]
 have e5:(x.kind==5)=false:=by simpa using h5
 by_cases h6:x.kind=6
 ·rw [if_pos h6]
  have e6:(x.kind==6)=true:=by simpa using h6
  obtain ⟨g',hc,hD',hF⟩:=h8b hS hD hL x.node x.name (n:=n+34) (by omega) (by omega)
  refine ⟨av,q,g', ?_,by rw [j3o];exact hD',hF⟩
  generalize delD S x.node x.name=z at hc
  rw [b0a T52,b0g rfl rfl]
  simp -implicitDefEqProofs (disch:=omega) only [Rx,simprocAttr,F52,GOp.pv,b0b,e1,e2,e3,e4,e5,e6,hc]
 rw [if_neg h6]
 have e6:(x.kind==6)=false:=by simpa using h6
 by_cases h7:x.kind=7
 ·rw [if_pos h7]
  have e7:(x.kind==7)=true:=by simpa using h7
  obtain ⟨g',hc,hD',hF⟩:=g9q hD hL x.node x.text (n:=n+34) (by omega)
  refine ⟨av,q,g', ?_,by rw [h9t];exact hD',hF⟩
  generalize c7l S x.node x.text=z at hc
  rw [b0a T52,b0g rfl rfl]
  simp -implicitDefEqProofs (disch:=omega) only [Rx,simprocAttr,F52,GOp.pv,b0b,e1,e2,e3,e4,e5,e6,e7,hc]
 rw [if_neg h7]
 have e7:(x.kind==7)=false:=by simpa using h7
 refine ⟨av,q,g, ?_,hD,DFr.refl _ _ _ _ _⟩
 rw [b0a T52,b0g rfl rfl]
 simp -implicitDefEqProofs (disch:=omega) only [Rx,simprocAttr,F52,GOp.pv,b0b,e1,e2,e3,e4,e5,e6,e7]
end
end Go.TA.Tryz


end
section
/- The document's answer does what a machine does. -/
namespace Go.TA.Tryz
structure j4g (x:GOp):Prop where
 kind:1≤x.kind∧x.kind≤7
 tag:x.kind=1→b2i false x.tag=true
 name:x.kind=5∨x.kind=6→b2i true x.name=true
 key:(x.key.length:Int)≤65536
 text:(x.text.length:Int)≤65536
 attrs:b2o x.attrs=0
 hs:0≤x.node∧x.node≤4294967295∧0≤x.up∧x.up≤4294967295∧0≤x.before∧x.before≤4294967295
 none:b5v x=false
theorem h2s {x:GOp} (h:b0u x=0):j4g x:=by
 unfold b0u at h
 split at h
 ·omega
 split at h
 ·omega
 split at h
 ·omega
 split at h
 ·omega
 split at h
 ·omega
 split at h
 ·omega
 split at h
 ·omega
 split at h
 ·omega
 split at h
 ·omega
 split at h
 ·omega
 rename_i h1 h2 h3 h4 h5 h6 h7 h8 h9 h10
 simp only [Bool.not_eq_false,Bool.not_eq_true] at h3 h4 h5 h6 h7 h8
 simp only [hOk,Bool.and_eq_true,decide_eq_true_eq] at h3 h4 h5
 refine ⟨⟨by omega,by omega⟩,fun hk => ?_,fun hk => ?_,by omega,by omega,h,⟨h3.1,h3.2,h4.1,h4.2,h5.1,h5.2⟩,h6⟩
 ·simpa [b2c,hk] using h7
 ·rcases hk with hk | hk
  ·simpa [b1g,hk] using h8
  ·simpa [b1g,hk] using h8
theorem h7k {S:MS} {h:Int} (h0:h≠0):fitE S h=if b1j S h=true then 0 else 13:=by simp [fitE,h0]
theorem j1p {S:MS} {x:GOp} (h:b0u x=0) (hN:S.N≤4294967295):(doD S x).2=doM S x:=by
 have hf:=h2s h
 unfold doD doM
 by_cases h1:x.kind=1
 ·rw [if_pos h1,if_pos h1]
  have hz:b1n S.N x=0:=by
   have:=hf.key
   have:=hf.text
   simp only [b1n,hf.tag h1,Bool.true_eq_false,if_false,hf.attrs,ne_eq,not_true_eq_false]
   rw [if_neg (by omega),if_neg (by omega)]
  rw [if_pos hz]
 rw [if_neg h1,if_neg h1]
 by_cases h0:x.node=0
 ·rw [if_pos h0]
  have f0:fitE S x.node=14:=by simp [fitE,h0]
  by_cases h2:x.kind=2
  ·simp only [if_pos h2,b7h,f0];rfl
  rw [if_neg h2]
  by_cases h3:x.kind=3
  ·simp only [if_pos h3,c7n,f0];rfl
  rw [if_neg h3]
  by_cases h4:x.kind=4
  ·simp only [if_pos h4,b7e,f0];rfl
  rw [if_neg h4]
  by_cases h5:x.kind=5
  ·simp only [if_pos h5,setD,f0];rfl
  rw [if_neg h5]
  by_cases h6:x.kind=6
  ·simp only [if_pos h6,delD,f0];rfl
  rw [if_neg h6]
  have h7:x.kind=7:=by have:=hf.kind;omega
  simp only [if_pos h7,c7l,f0];rfl
 rw [if_neg h0]
 have fn:=h7k (S:=S) h0
 by_cases h2:x.kind=2
 ·rw [if_pos h2,if_pos h2]
  unfold b7h b2s
  rw [fn]
  cases hl:b1j S x.node <;> simp
 rw [if_neg h2,if_neg h2]
 by_cases h3:x.kind=3
 ·rw [if_pos h3,if_pos h3]
  unfold c7n b6t
  rw [fn]
  cases hl:b1j S x.node <;> simp
 rw [if_neg h3,if_neg h3]
 by_cases h4:x.kind=4
 ·rw [if_pos h4,if_pos h4]
  unfold b7e
  rw [fn]
  cases hl:b1j S x.node <;> simp
 rw [if_neg h4,if_neg h4]
 unfold b3i
 by_cases h5:x.kind=5
 ·have:=hf.text
  have hn:=hf.name (.inl h5)
  rw [if_pos h5,if_pos h5]
  unfold setD
  rw [fn]
  cases hl:b1j S x.node
  ·simp
  ·simp only [if_true,ne_eq,not_true_eq_false,if_false,hn,Bool.true_eq_false]
   rw [if_neg (by omega)]
 rw [if_neg h5,if_neg h5]
 by_cases h6:x.kind=6
 ·rw [if_pos h6,if_pos h6]
  unfold delD
  rw [fn]
  cases hl:b1j S x.node <;> simp
 rw [if_neg h6,if_neg h6]
 have h7:x.kind=7:=by have:=hf.kind;omega
 rw [if_pos h7,if_pos h7]
 unfold c7l
 rw [fn]
 have:=hf.text
 cases hl:b1j S x.node
 ·simp
 ·simp only [if_true,ne_eq,not_true_eq_false,if_false,Bool.true_eq_false]
  rw [if_neg (by omega)]
section
variable {R:Nat} {S:MS} {av:Nat→AV} {p q:Nat} {g:List AObj}
theorem h0n (hS:S.Ok R) (hD:DM (b0h S) S.st S.kd S.N av p q g) (hL:(b0h S).length≤4194304) (hN:S.N≤4294967295) (x:GOp) (hs:b1u x.attrs) {n:Nat} (hn:(b0h S).length<n) (hR:R+3<n) (hx:x.attrs.length<n) (hn2:1048577<n) :
  ∃ av' q' g',b0f T (n+39) 25 [DP p,.p (.agg x.pv)] g=some (.p (.int .i64 (doE S x).1),g')∧DM (b0h (doE S x).2) (doE S x).2.st (doE S x).2.kd (doE S x).2.N av' p q' g'∧DFr (b0h S) av p q g (b0h (doE S x).2) av' q' g':=by
 have hck:=fun g=>d6o x hs g (n:=n+1) (by omega) (by omega)
 unfold doE
 by_cases h:b0u x=0
 ·rw [if_pos h]
  rw [h] at hck
  obtain ⟨av',q',g',hc,hD',hF⟩:=j1o hS hD hL x hs hn hR hx hn2
  have e:=j1p (S:=S) h hN
  rw [e] at hc hD' hF
  refine ⟨av',q',g', ?_,hD',hF⟩
  rw [b0a T25,b0g rfl rfl]
  generalize (doD S x).1=z at hc
  generalize doM S x=y at hc
  simp only [GOp.pv,b0b] at hc hck
  simp -implicitDefEqProofs (disch:=omega) only [Rx,simprocAttr,F25,GOp.pv,b0b,hck,hc]
 ·rw [if_neg h]
  have e1:(b0u x==0)=false:=by simpa using h
  refine ⟨av,q,g, ?_,hD,DFr.refl _ _ _ _ _⟩
  rw [b0a T25,b0g rfl rfl]
  generalize b0u x=e at hck e1 ⊢
  simp only [GOp.pv,b0b] at hck
  simp -implicitDefEqProofs (disch:=omega) only [Rx,simprocAttr,F25,GOp.pv,b0b,hck,e1]
end
end Go.TA.Tryz


end
section
/- The document's answer runs a script. -/
namespace Go.TA.Tryz
theorem g5r {R : Nat} {S : MS} (hS : S.Ok R) (L : List GOp) (hL : ∀ x ∈ L, x.attrs.length ≤ 1048576 ∧ b1u x.attrs) (hN : S.N + L.length ≤ 4194303) (hLl : L.length ≤ 1048576) (av : Nat → AV) (p q : Nat) (g : List AObj) (hD : DM (b0h S) S.st S.kd S.N av p q g) {F : Nat} (hF : S.N + L.length + bnd R L.length + bnd R L.length + 1048700 < F) :
    ∃ av' q' g', b0f T (F + 1) 20 [DP p, .p (.list (L.map GOp.pv))] g = some (.tuple [.p (.int .i64 (runM S L 0).1), .p (.int .i64 (runM S L 0).2.1)], g')
      ∧ DM (b0h (runM S L 0).2.2) (runM S L 0).2.2.st (runM S L 0).2.2.kd (runM S L 0).2.2.N av' p q' g'∧DFr (b0h S) av p q g (b0h (runM S L 0).2.2) av' q' g':=by
  have key:=b1i (C:=b0f T F) (N:=F) (B:=h5c) (σ := Nat × MS × (Nat→AV) × Nat × List AObj) (S:=fun s=>⟨[(0,DP p),(1,.p (.list (L.map GOp.pv))),(9,.p (.int .i64 L.length)),(10,.p (.int .i64 s.1))],[],s.2.2.2.2⟩)
    (I:=fun s=>s.1≤L.length∧s.2.1.Ok (bnd R s.1)∧DM (b0h s.2.1) s.2.1.st s.2.1.kd s.2.1.N s.2.2.1 p s.2.2.2.1 s.2.2.2.2∧s.2.1.N≤S.N+s.1∧runM S L 0=runM s.2.1 (L.drop s.1) s.1∧DFr (b0h S) av p q g (b0h s.2.1) s.2.2.1 s.2.2.2.1 s.2.2.2.2) (μ := fun s=>L.length - s.1)
    (Q:=fun z=>∃ av' q' g',(((runM S L 0).2.1=0∧(runM S L 0).1=L.length∧z=(.exit 0,⟨[(1,.p (.list (L.map GOp.pv)))],[],g'⟩))∨z=(.ret,⟨[(4,.p (.int .i64 (runM S L 0).1)),(5,.p (.int .i64 (runM S L 0).2.1))],[],g'⟩))
      ∧ DM (b0h (runM S L 0).2.2) (runM S L 0).2.2.st (runM S L 0).2.2.kd (runM S L 0).2.2.N av' p q' g'∧DFr (b0h S) av p q g (b0h (runM S L 0).2.2) av' q' g') ?_ (0,S,av,q,g) ⟨by simp,hS,hD,by simp,by simp,DFr.refl _ _ _ _ _⟩ (by simp only;omega)
  · obtain ⟨z,hz,av',q',g',hz2,h2⟩:=key
    refine ⟨av',q',g', ?_,h2⟩
    have ll:(L.map GOp.pv).length=L.length:=by simp
    rw [b0a T20,b0g rfl rfl]
    simp only [Int.natCast_zero] at hz
    rcases hz2 with ⟨z1,z2,rfl⟩ | rfl
    · rw [z1,z2]
      simp -implicitDefEqProofs (disch:=omega) only [Rx,simprocAttr,F20,ll,hz]
    · simp -implicitDefEqProofs (disch:=omega) only [Rx,simprocAttr,F20,ll,hz]
  rintro ⟨i,S1,av1,q1,g1⟩ ⟨h1,h2,h3,h4,h5,h6⟩
  simp only at h1 h2 h3 h4 h5 h6 ⊢
  have hb:=b9w R h1
  by_cases hi:i<L.length
  · obtain ⟨x,hx⟩:∃ x,L[i]? = some x:=⟨_,List.getElem?_eq_getElem hi⟩
    obtain ⟨hxm,hxs⟩:=hL x (List.mem_of_getElem? hx)
    have k1:(i:Int)<(L.length:Int):=by omega
    have hg:=b0s (f:=GOp.pv) hx
    have hll:=c9m S1
    obtain ⟨av2,q2,g2,hd,hD2,hfr⟩:=h0n h2 h3 (by omega) (by omega) x hxs (n:=F - 39) (by omega) (by omega) (by omega) (by omega)
    rw [show F - 39+39=F by omega] at hd
    obtain ⟨hok,hn1,hn2⟩:=h3k h2 x (by omega)
    have hr:=d6f hx S1
    by_cases e:(doE S1 x).1=0
    · left
      rw [if_pos e] at hr
      rw [hr] at h5
      refine ⟨(i+1,(doE S1 x).2,av2,q2,g2), ?_,⟨by simp only;omega,hok,hD2,by simp only;omega,h5,h6.trans hfr⟩,by simp only;omega⟩
      rw [e] at hd
      simp only [GOp.pv,b0b] at hd
      simp -implicitDefEqProofs (disch:=omega) only [Rx,simprocAttr,h5c,k1,hg,GOp.pv,b0b,hd]
    · right
      rw [if_neg e] at hr
      rw [hr] at h5
      rw [h5]
      simp only
      refine ⟨_, ?_, ?_,av2,q2,g2,.inr rfl,hD2,h6.trans hfr⟩
      · have e1:((doE S1 x).1==0)=false:=by simpa using e
        generalize (doE S1 x).1=z at hd e1
        simp only [GOp.pv,b0b] at hd
        simp -implicitDefEqProofs (disch:=omega) only [Rx,simprocAttr,h5c,k1,hg,GOp.pv,b0b,hd,e1]
      · simp
  · right
    obtain rfl:i=L.length:=by omega
    have k1:¬ (L.length:Int)<(L.length:Int):=by omega
    have hr:runM S1 (L.drop L.length) L.length=(L.length,0,S1):=by rw [List.drop_length];rfl
    rw [hr] at h5
    rw [h5]
    simp only
    refine ⟨_, ?_, ?_,av1,q1,g1,.inl ⟨trivial,trivial,rfl⟩,h3,h6⟩
    · simp -implicitDefEqProofs (disch:=omega) only [Rx,simprocAttr,h5c,k1]
    · simp
end Go.TA.Tryz


end
section
/- Whether a script is valid: the program, and the document's answer. -/
namespace Go.TA.Tryz
noncomputable def b9o (l:List GRow) (L:List GOp):MS:=(runM (S0 l) L 0).2.2
noncomputable def b8o (l:List GRow) (L:List GOp) (left:Int):Int:=endE (b9o l L) (bnd l.length L.length) L left
noncomputable def b6c (l:List GRow) (L:List GOp):List GRow:=b2j (b9o l L) (bnd l.length L.length)
noncomputable def b0y (l:List GRow) (L:List GOp) (left:Int):Nat × Int :=
 if b0r l≠0 then (0,b0r l) else if (b2d L 0).2≠0 then b2d L 0 else if (runM (S0 l) L 0).2.1≠0 then ((runM (S0 l) L 0).1,(runM (S0 l) L 0).2.1)
 else if b8o l L left≠0 then (L.length,b8o l L left) else (0,0)
noncomputable def b3k (l:List GRow) (L:List GOp) (left:Int):List GRow:=if (b0y l L left).2=0 then b6c l L else []
theorem c8d (l:List GRow) (hsm:Rows.mid 1048577 l) (L:List GOp) (hL:∀ x ∈ L,smallOp x) (hl:l.length≤500000) (hLl:L.length≤500000) (left:Int) (g:List AObj) {F:Nat} (hF:bnd l.length L.length+bnd l.length L.length+6000000<F) :
  b0f T (F+1) 27 [.p (.list (l.map GRow.pv)),.p (.list (L.map GOp.pv)),.p (.int .i64 left)] g=some (.tuple [.p (.list ((b3k l L left).map GRow.pv)),.p (.int .i64 (b0y l L left).1),.p (.int .i64 (b0y l L left).2)],g):=by
 have hlb:l.length≤bnd l.length L.length:=by
  have:=b9w l.length (Nat.zero_le L.length)
  exact this
 rw [b0a T27,run_pure rfl rfl rfl]
 have eV:b0y l L left=if b0r l≠0 then (0,b0r l) else if (b2d L 0).2≠0 then b2d L 0 else if (runM (S0 l) L 0).2.1≠0 then ((runM (S0 l) L 0).1,(runM (S0 l) L 0).2.1)
  else if b8o l L left≠0 then (L.length,b8o l L left) else (0,0):=rfl
 unfold b3k
 by_cases h1:b0r l=0
 rotate_left
 ·have hnew:=h6r l hsm (Nat.le_refl _) h1 (n:=F - l.length - 44) (by omega)
  rw [show F - l.length - 44+l.length+44=F by omega] at hnew
  have e1:(b0r l==0)=false:=by simpa using h1
  rw [eV,if_pos h1]
  generalize b0r l=e at *
  simp -implicitDefEqProofs (disch:=omega) only [Rx,simprocAttr,F27,hnew,e1,h1,Int.natCast_zero]
 rw [if_neg (by simpa using h1)] at eV
 have hs:b5x l:=b3x (b5s h1).1
 have hS0:=g8n hs hsm (Nat.le_refl _)
 obtain ⟨av,rest,hnew,hM,_⟩:=h1m l hsm (Nat.le_refl _) h1 (n:=F - l.length - 44) (by omega)
 rw [show F - l.length - 44+l.length+44=F by omega] at hnew
 have hf:=g6w L (fun x hx=>(hL x hx).1) (by omega) [] (n:=F - 39) (by omega)
 rw [show F - 39+39=F by omega] at hf
 by_cases h2:(b2d L 0).2=0
 rotate_left
 ·rw [if_pos h2] at eV
  have e1:((b2d L 0).2==0)=false:=by simpa using h2
  rw [eV]
  generalize (b2d L 0).1=k at *
  generalize (b2d L 0).2=e at *
  simp only [b0o] at hnew
  simp -implicitDefEqProofs (disch:=omega) only [Rx,simprocAttr,F27,hnew,hf,e1,h2]
 rw [if_neg (by simpa using h2)] at eV
 rw [h2] at hf
 have hN0:(S0 l).N=l.length+1:=rfl
 obtain ⟨av2,rest2,R',hrm,hM2,_,_,_,_⟩:=h6s hS0 L (fun x hx=>(hL x hx).1) (by omega) av rest hM (F:=F - 1) (by omega)
 rw [show F - 1+1=F by omega] at hrm
 have hmg:b0o (S0 l).N (S0 l).st av rest=b0o (l.length+1) (st0 l) av rest:=rfl
 rw [hmg] at hrm
 generalize b0o (l.length+1) (st0 l) av rest=g1 at hnew hrm
 by_cases h3:(runM (S0 l) L 0).2.1=0
 rotate_left
 ·rw [if_pos h3] at eV
  have e1:((runM (S0 l) L 0).2.1==0)=false:=by simpa using h3
  rw [eV]
  simp only
  generalize (runM (S0 l) L 0).1=k at *
  generalize (runM (S0 l) L 0).2.1=e at *
  generalize b0o (runM (S0 l) L 0).2.2.N (runM (S0 l) L 0).2.2.st av2 rest2=g2 at hrm
  generalize (b2d L 0).1=k0 at hf
  simp -implicitDefEqProofs (disch:=omega) only [Rx,simprocAttr,F27,hnew,hf,hrm,e1,h3]
 rw [if_neg (by simpa using h3)] at eV
 rw [h3] at hrm
 obtain ⟨q1,q2,q3⟩:=b6n L hS0 (c2c hsm (Nat.le_refl _)) hL 0
 obtain ⟨rest3,he,hq⟩:=h7r q1 q2 (by omega) L (by omega) left av2 rest2 hM2 (F:=F - 1) (by omega)
 rw [show F - 1+1=F by omega] at he
 have hrl:((b2j (runM (S0 l) L 0).2.2 (bnd l.length L.length)).map GRow.pv).length=(b2j (runM (S0 l) L 0).2.2 (bnd l.length L.length)).length:=by simp
 have hE:b8o l L left=endE (runM (S0 l) L 0).2.2 (bnd l.length L.length) L left:=rfl
 have hR:b6c l L=b2j (runM (S0 l) L 0).2.2 (bnd l.length L.length):=rfl
 rw [← hE, ← hR] at he
 rw [← hR] at hrl hq
 generalize hX:(b6c l L).map GRow.pv=X at *
 generalize (b6c l L).length=k at he hrl
 generalize (b2d L 0).1=k0 at hf
 generalize (runM (S0 l) L 0).1=k1 at hrm
 simp only [b0o] at hrm he
 have ll:(L.map GOp.pv).length=L.length:=by simp
 by_cases h4:b8o l L left=0
 ·rw [if_neg (by simpa using h4)] at eV
  rw [eV]
  rw [h4,if_pos rfl] at he
  simp only [if_pos,hX]
  simp -implicitDefEqProofs (disch:=omega) only [Rx,simprocAttr,F27,hnew,hf,hrm,he,hq,hrl,Int.natCast_zero]
 ·rw [if_pos h4] at eV
  rw [eV]
  simp only
  have e1:(b8o l L left==0)=false:=by simpa using h4
  rw [if_neg h4] at he
  generalize b8o l L left=e at *
  simp -implicitDefEqProofs (disch:=omega) only [Rx,simprocAttr,F27,hnew,hf,hrm,he,ll,e1,h4]
end Go.TA.Tryz


end
section
/- A machine and the document's answer beside each other in memory. Plain. -/
namespace Go.TA
structure Both (S:MS) (g:List AObj) (av:Nat→AV) (rest:List AObj) (avD:Nat→AV) (p q:Nat):Prop where
 is:g=b0o S.N S.st av rest
 mok:MOk S.N av S.kd rest
 dm:DM (b0h S) S.st S.kd S.N avD p q g
 p2:2≤p
 q2:2≤q
 refs2:∀ h,h ∈ b0h S→∀ r,b1z (avD h)=some r→2≤r
 apart:∀ h,h<S.N→∀ r,b1z (av h)=some r→r≠p∧r≠q∧∀ h',h' ∈ b0h S→b1z (avD h')≠some r
theorem DM.onto {L:List Nat} {st:Nat→b3p} {kd:Nat→List Int} {nx:Int} {av:Nat→AV} {p q:Nat} {g g':List AObj} (h:DM L st kd nx av p q g) (hp:g'[p]? = g[p]?) (hq:g'[q]? = g[q]?) (hr:∀ k,k ∈ L→∀ r,b1z (av k)=some r→g'[r]? = g[r]?):DM L st kd nx av p q g' where
 core:=⟨by rw [hp];exact h.core.obj,by rw [hq];exact h.core.row,h.core.pq,h.core.nodup⟩
 kids k hk:=(h.kids k hk).keep fun r e=>hr k hk r e
 away:=h.away
 disj:=h.disj
theorem DM.p_lt {L:List Nat} {st:Nat→b3p} {kd:Nat→List Int} {nx:Int} {av:Nat→AV} {p q:Nat} {g:List AObj} (h:DM L st kd nx av p q g):p<g.length:=(List.getElem?_eq_some_iff.1 h.core.obj).1
theorem DM.q_lt {L:List Nat} {st:Nat→b3p} {kd:Nat→List Int} {nx:Int} {av:Nat→AV} {p q:Nat} {g:List AObj} (h:DM L st kd nx av p q g):q<g.length:=by
 obtain ⟨o,ho,_⟩:=h.core.row
 exact (List.getElem?_eq_some_iff.1 ho).1
theorem j0t {A B:AObj} {g:List AObj} (h0:g[0]? = some A) (h1:g[1]? = some B):g=A::B::g.drop 2:=by
  match g,h0,h1 with
  | a :: b :: r, h0, h1 =>
    simp only [List.getElem?_cons_zero,List.getElem?_cons_succ,Option.some.injEq] at h0 h1
    simp [h0,h1]
theorem Both.step {S S' : MS} {g : List AObj} {av : Nat → AV} {rest : List AObj} {avD : Nat → AV} {p q : Nat} (h : Both S g av rest avD p q) {av' : Nat → AV} {rest' : List AObj} (hf : Fr S.N av rest S'.N av' rest') (hm : MOk S'.N av' S'.kd rest') {avD' : Nat → AV} {q' : Nat} {g' : List AObj} (hd : DM (b0h S') S'.st S'.kd S'.N avD' p q' g') (hfd : DFr (b0h S) avD p q (b0o S'.N S'.st av' rest') (b0h S') avD' q' g') :
    ∃ rest2,Both S' g' av' rest2 avD' p q':=by
  have hg:g.length=rest.length+2:=by rw [h.is];simp [b0o]
  have hlen:(b0o S'.N S'.st av' rest').length=rest'.length+2:=by simp [b0o]
  have hlr:=hf.len
  have hap:∀ k,k<S'.N→∀ r,b1z (av' k)=some r→r≠p∧r≠q∧(∀ h',h' ∈ b0h S→b1z (avD h')≠some r)∧r<rest'.length+2:=fun k hk r hr=>by
    have hlt:=(hm.kids k hk).ref_lt hr
    have h2:2≤r:=by
      rcases (hm.kids k hk).inv with ⟨e,_⟩ | ⟨i,e,_⟩ | e
      · rw [e] at hr;cases hr
      · rw [e] at hr;simp only [b1z,Option.some.injEq] at hr;omega
      · rw [e] at hr;cases hr
    obtain ⟨i,rfl⟩:∃ i,r=i+1+1:=⟨r - 2,by omega⟩
    by_cases hi:i<rest.length
    · obtain ⟨k0,hk0,e0⟩:=hf.refs k hk i hr hi
      obtain ⟨a1,a2,a3⟩:=h.apart k0 hk0 _ e0
      exact ⟨a1,a2,a3,by omega⟩
    · have hp:=h.dm.p_lt
      have hq:=h.dm.q_lt
      refine ⟨by omega,by omega,fun h' hh' e => ?_,by omega⟩
      have:=(h.dm.kids h' hh').ref_lt e
      omega
  have keep:∀ j,j<rest'.length+2→j≠p→j≠q→(∀ h',h' ∈ b0h S→b1z (avD h')≠some j)→g'[j]? = (b0o S'.N S'.st av' rest')[j]? := fun j hj=>hfd.keep j (by omega)
  have hp2:=h.p2
  have hq2:=h.q2
  have e0:g'[0]? = some (.cells 7 (b0z S'.N S'.st av')):=by
    rw [keep 0 (by omega) (by omega) (by omega) fun h' hh' e=>by have:=h.refs2 h' hh' 0 e;omega];rfl
  have e1:g'[1]? = some (.cells 1 [[.own true 0 S'.N]]):=by
    rw [keep 1 (by omega) (by omega) (by omega) fun h' hh' e=>by have:=h.refs2 h' hh' 1 e;omega];rfl
  have his:=j0t e0 e1
  refine ⟨g'.drop 2,his,⟨fun k hk => ?_,hm.disj⟩,hd,h.p2, ?_,fun k hk r hr => ?_,fun k hk r hr => ?_⟩
  · rcases (hm.kids k hk).inv with ⟨e,e2⟩ | ⟨i,e,hi⟩ | e
    · rw [e,e2];exact .none
    · have hr:b1z (av' k)=some (i+1+1):=by rw [e];rfl
      obtain ⟨a1,a2,a3,a4⟩:=hap k hk _ hr
      rw [e]
      refine .own ?_
      rw [List.getElem?_drop,show 2+i=i+1+1 by omega,keep _ a4 a1 a2 a3]
      simpa [b0o] using hi
    · rw [e];exact .list
  · rcases hfd.row with e | e
    · omega
    · omega
  · by_cases hlt:r<(b0o S'.N S'.st av' rest').length
    · obtain ⟨k0,hk0,e⟩:=hfd.refs k hk r hr hlt
      exact h.refs2 k0 hk0 r e
    · omega
  · obtain ⟨a1,a2,a3,a4⟩:=hap k hk r hr
    refine ⟨a1, ?_,fun h' hh' e => ?_⟩
    · rcases hfd.row with e | e <;> omega
    · by_cases hlt:r<(b0o S'.N S'.st av' rest').length
      · obtain ⟨k0,hk0,e2⟩:=hfd.refs h' hh' r e hlt
        exact a3 k0 hk0 e2
      · omega
theorem Both.more {S:MS} {g:List AObj} {av:Nat→AV} {rest:List AObj} {avD:Nat→AV} {p q:Nat} (h:Both S g av rest avD p q) (X:List AObj):Both S (g++X) av (rest++X) avD p q where
 is:=by rw [h.is];simp [b0o]
 mok:=⟨fun k hk=>(h.mok.kids k hk).more _,h.mok.disj⟩
 dm:=h.dm.onto (List.getElem?_append_left h.dm.p_lt) (List.getElem?_append_left h.dm.q_lt) fun k hk r hr=>List.getElem?_append_left ((h.dm.kids k hk).ref_lt hr)
 p2:=h.p2
 q2:=h.q2
 refs2:=h.refs2
 apart:=h.apart
end Go.TA


end
section
/- Whether a script is valid: the document's answer. -/
namespace Go.TA.Tryz
theorem DM.more {L:List Nat} {st:Nat→b3p} {kd:Nat→List Int} {nx:Int} {av:Nat→AV} {p q:Nat} {g:List AObj} (h:DM L st kd nx av p q g) (X:List AObj):DM L st kd nx av p q (g++X) :=
 h.onto (List.getElem?_append_left h.p_lt) (List.getElem?_append_left h.q_lt) fun k hk r hr=>List.getElem?_append_left ((h.kids k hk).ref_lt hr)
theorem g6k {R:Nat} {S:MS} (hS:S.Ok R):(b0h S)[0]? = some 0:=by
 obtain ⟨k,hk⟩:∃ k,S.N=k+1:=⟨S.N - 1,by have:=hS.pos;omega⟩
 unfold b0h
 rw [hk,List.range_succ_eq_map,List.filter_cons,if_pos hS.top.1]
 rfl
theorem c3q (l:List GRow) (hsm:Rows.mid 1048577 l) (L:List GOp) (hL:∀ x ∈ L,smallOp x) (hl:l.length≤500000) (hLl:L.length≤500000) (left:Int) (g:List AObj) {F:Nat} (hF:bnd l.length L.length+bnd l.length L.length+6000000<F) :
  b0f T (F+1) 28 [.p (.list (l.map GRow.pv)),.p (.list (L.map GOp.pv)),.p (.int .i64 left)] g=some (.tuple [.p (.list ((b3k l L left).map GRow.pv)),.p (.int .i64 (b0y l L left).1),.p (.int .i64 (b0y l L left).2)],g):=by
 have hlb:l.length≤bnd l.length L.length:=b9w l.length (Nat.zero_le L.length)
 rw [b0a T28,run_pure rfl rfl rfl]
 have eV:b0y l L left=if b0r l≠0 then (0,b0r l) else if (b2d L 0).2≠0 then b2d L 0 else if (runM (S0 l) L 0).2.1≠0 then ((runM (S0 l) L 0).1,(runM (S0 l) L 0).2.1)
  else if b8o l L left≠0 then (L.length,b8o l L left) else (0,0):=rfl
 unfold b3k
 have hck:=c3m l hsm (Nat.le_refl _) (n:=F - 38) (by omega) []
 rw [show F - 38+38=F by omega] at hck
 by_cases h1:b0r l=0
 rotate_left
 ·have e1:(b0r l==0)=false:=by simpa using h1
  rw [eV,if_pos h1]
  generalize b0r l=e at *
  simp -implicitDefEqProofs (disch:=omega) only [Rx,simprocAttr,F28,hck,e1,h1,Int.natCast_zero]
 rw [if_neg (by simpa using h1)] at eV
 rw [h1] at hck
 have hs:b5x l:=b3x (b5s h1).1
 have hS0:=g8n hs hsm (Nat.le_refl _)
 have hf:=g6v L (fun x hx=>⟨(hL x hx).1,(hL x hx).2.1⟩) (by omega) [] (n:=F - 38) (by omega)
 rw [show F - 38+38=F by omega] at hf
 by_cases h2:(b2d L 0).2=0
 rotate_left
 ·rw [if_pos h2] at eV
  have e1:((b2d L 0).2==0)=false:=by simpa using h2
  rw [eV]
  generalize (b2d L 0).1=k at *
  generalize (b2d L 0).2=e at *
  simp -implicitDefEqProofs (disch:=omega) only [Rx,simprocAttr,F28,hck,hf,e1,h2]
 rw [if_neg (by simpa using h2)] at eV
 rw [h2] at hf
 have hN0:(S0 l).N=l.length+1:=rfl
 obtain ⟨avD,g2,hnd,hDM,_⟩:=h6q l (by omega) hs.1 [] (n:=F - 2) (by omega)
 rw [show F - 2+2=F by omega] at hnd
 simp only [List.length_nil,Nat.zero_add] at hnd hDM
 obtain ⟨avD2,q2,g3,hrd,hD2,_⟩:=g5r hS0 L (fun x hx=>⟨(hL x hx).1,(hL x hx).2.1⟩) (by omega) (by omega) avD _ _ _ hDM (F:=F - 1) (by omega)
 rw [show F - 1+1=F by omega] at hrd
 by_cases h3:(runM (S0 l) L 0).2.1=0
 rotate_left
 ·rw [if_pos h3] at eV
  have e1:((runM (S0 l) L 0).2.1==0)=false:=by simpa using h3
  rw [eV]
  simp only
  generalize (runM (S0 l) L 0).1=k at *
  generalize (runM (S0 l) L 0).2.1=e at *
  generalize (b2d L 0).1=k0 at hf
  simp -implicitDefEqProofs (disch:=omega) only [Rx,simprocAttr,F28,hck,hf,hnd,hrd,e1,h3]
 rw [if_neg (by simpa using h3)] at eV
 rw [h3] at hrd
 obtain ⟨hok,hsmS,hNS⟩:=b6n L hS0 (c2c hsm (Nat.le_refl _)) hL 0
 have eL:b9o l L=(runM (S0 l) L 0).2.2:=rfl
 rw [← eL] at hok hsmS hNS hD2
 generalize (b2d L 0).1=k0 at hf
 generalize (runM (S0 l) L 0).1=k1 at hrd
 have eE:b8o l L left=if 0<(b3r (b9o l L)).length then 19 else if 1<tops (b6c l L) then 20 else if b0r (b6c l L)≠0 then b0r (b6c l L) else if (b2g L 1:Int)≤left then 0 else 21:=rfl
 have hlive:=c9m (b9o l L)
 have hlo:=g6j hD2 (by omega) (n:=F - 1) (by omega)
 rw [show F - 1+1=F by omega] at hlo
 have hll:=d2f (b9o l L)
 have hD3:=DM.more hD2 [.pcells 1 (b0j (b3r (b9o l L)))]
 obtain ⟨o,ho,hrep⟩:=hD3.core.row
 have hob:=hD3.core.obj
 have h0:=g6k hok
 have rd2:=b4f hrep h0 (j:=2) (by omega)
 have hix:=fun s i=>hrep.idx b2b s true q2 i
 have hK:=hD3.kids 0 (List.mem_of_getElem? h0)
 have htop:tops (b6c l L)=((b9o l L).kd 0).length:=d5r _ _
 have htl:=d9u (b6c l L)
 have hpos:0<(b0h (b9o l L)).length:=(List.getElem?_eq_some_iff.1 h0).1
 have hrd2:=h8s hok (by omega) hD3 (by omega) (n:=F - bnd l.length L.length - 2) (by omega)
 rw [show F - bnd l.length L.length - 2+bnd l.length L.length+2=F by omega] at hrd2
 have hRR:b6c l L=b2j (b9o l L) (bnd l.length L.length):=rfl
 have hlen:=c0k hok (bnd l.length L.length)
 have hsm2:=b9j hok hsmS (by omega) (bnd l.length L.length)
 rw [← hRR] at hrd2 hlen hsm2
 have hck2:=c3m (b6c l L) hsm2 (Nat.le_refl _) (n:=F - 38) (by omega) []
 rw [show F - 38+38=F by omega] at hck2
 have htm:=d5s L (by omega) 1 [] (n:=F - 1) (by omega)
 rw [show F - 1+1=F by omega] at htm
 have ll:(L.map GOp.pv).length=L.length:=by simp
 have hrl:((b6c l L).map GRow.pv).length=(b6c l L).length:=by simp
 simp only [nAV] at rd2
 generalize b3r (b9o l L)=lo at *
 generalize hX:(b6c l L).map GRow.pv=X at *
 generalize hg4:g3++[AObj.pcells 1 (b0j lo)]=g4 at *
 have q5:(g4++[AObj.pcells 6 X])[g4.length]? = some (.pcells 6 X):=by simp
 rw [htop] at eE htl
 generalize htp:((b9o l L).kd 0).length=tp at eE htl
 have fin:∀ K:AV,o.rd 1 (b0h (b9o l L)).length 0 2 7 false=some K→((K = .nils∧tp=0)∨(∃ r,K = .own true r tp)∨∃ Y:List (List PV),K = .p (.list Y)∧Y.length=tp) →
   rg (br (b0f T F) F28 (b0t (b0f T F) F F28.body (b4b [.p (.list (l.map GRow.pv)),.p (.list (L.map GOp.pv)),.p (.int .i64 left)] []))) g=some (.tuple [.p (.list ((if (b0y l L left).2=0 then b6c l L else []).map GRow.pv)),.p (.int .i64 (b0y l L left).1),.p (.int .i64 (b0y l L left).2)],g):=by
  intro K hK2 hcase
  generalize (b0h (b9o l L)).length=nl at *
  generalize b3j (b0h (b9o l L)) (b9o l L).st avD2=rd at *
  by_cases c1:0<lo.length
  ·have e:b8o l L left=19:=by rw [eE,if_pos c1]
   rw [e,if_pos (by decide)] at eV
   rw [eV]
   simp -implicitDefEqProofs (disch:=omega) only [Rx,simprocAttr,F28,hck,hf,hnd,hrd,hlo,ll]
  by_cases c2:1<tp
  ·have e:b8o l L left=20:=by rw [eE,if_neg c1,if_pos c2]
   rw [e,if_pos (by decide)] at eV
   rw [eV]
   rcases hcase with ⟨rfl,k0⟩ | ⟨r,rfl⟩ | ⟨Y,rfl,k0⟩
   ·omega
   ·simp -implicitDefEqProofs (disch:=omega) only [Rx,simprocAttr,F28,hck,hf,hnd,hrd,hlo,hob,ho,hix,hK2,ll]
   ·simp -implicitDefEqProofs (disch:=omega) only [Rx,simprocAttr,F28,hck,hf,hnd,hrd,hlo,hob,ho,hix,hK2,ll,k0]
  by_cases c3:b0r (b6c l L)=0
  rotate_left
  ·have e:b8o l L left=b0r (b6c l L):=by rw [eE,if_neg c1,if_neg c2,if_pos c3]
   rw [if_pos (by rw [e];exact c3),e] at eV
   rw [eV]
   have c3':(b0r (b6c l L)==0)=false:=by simpa using c3
   generalize b0r (b6c l L)=e at hck2 c3 c3'
   rcases hcase with ⟨rfl,k0⟩ | ⟨r,rfl⟩ | ⟨Y,rfl,k0⟩
   ·simp -implicitDefEqProofs (disch:=omega) only [Rx,simprocAttr,F28,hck,hf,hnd,hrd,hlo,hob,ho,hix,hK2,hrd2,hck2,q5,hrl,ll,c3,c3']
   ·simp -implicitDefEqProofs (disch:=omega) only [Rx,simprocAttr,F28,hck,hf,hnd,hrd,hlo,hob,ho,hix,hK2,hrd2,hck2,q5,hrl,ll,c3,c3']
   ·simp -implicitDefEqProofs (disch:=omega) only [Rx,simprocAttr,F28,hck,hf,hnd,hrd,hlo,hob,ho,hix,hK2,hrd2,hck2,q5,hrl,ll,k0,c3,c3']
  rw [c3] at hck2
  generalize b2g L 1=t1 at *
  by_cases c4:(t1:Int)≤left
  ·have e:b8o l L left=0:=by rw [eE,if_neg c1,if_neg c2,if_neg (by simpa using c3),if_pos c4]
   rw [e,if_neg (by decide)] at eV
   rw [eV]
   simp only [if_pos,hX]
   have c4':¬ left<(t1:Int):=by omega
   rcases hcase with ⟨rfl,k0⟩ | ⟨r,rfl⟩ | ⟨Y,rfl,k0⟩
   ·simp -implicitDefEqProofs (disch:=omega) only [Rx,simprocAttr,F28,hck,hf,hnd,hrd,hlo,hob,ho,hix,hK2,hrd2,hck2,htm,q5,hrl,ll,c4',Int.natCast_zero]
   ·simp -implicitDefEqProofs (disch:=omega) only [Rx,simprocAttr,F28,hck,hf,hnd,hrd,hlo,hob,ho,hix,hK2,hrd2,hck2,htm,q5,hrl,ll,c4',Int.natCast_zero]
   ·simp -implicitDefEqProofs (disch:=omega) only [Rx,simprocAttr,F28,hck,hf,hnd,hrd,hlo,hob,ho,hix,hK2,hrd2,hck2,htm,q5,hrl,ll,k0,c4',Int.natCast_zero]
  ·have e:b8o l L left=21:=by rw [eE,if_neg c1,if_neg c2,if_neg (by simpa using c3),if_neg c4]
   rw [e,if_pos (by decide)] at eV
   rw [eV]
   have c4':left<(t1:Int):=by omega
   rcases hcase with ⟨rfl,k0⟩ | ⟨r,rfl⟩ | ⟨Y,rfl,k0⟩
   ·simp -implicitDefEqProofs (disch:=omega) only [Rx,simprocAttr,F28,hck,hf,hnd,hrd,hlo,hob,ho,hix,hK2,hrd2,hck2,htm,q5,hrl,ll,c4']
   ·simp -implicitDefEqProofs (disch:=omega) only [Rx,simprocAttr,F28,hck,hf,hnd,hrd,hlo,hob,ho,hix,hK2,hrd2,hck2,htm,q5,hrl,ll,c4']
   ·simp -implicitDefEqProofs (disch:=omega) only [Rx,simprocAttr,F28,hck,hf,hnd,hrd,hlo,hob,ho,hix,hK2,hrd2,hck2,htm,q5,hrl,ll,k0,c4']
 refine fin _ rd2 ?_
 rcases hK.inv with ⟨hav,hk0⟩ | ⟨r,hav,_⟩ | hav
 ·exact .inl ⟨hav,by rw [← htp,hk0];rfl⟩
 ·exact .inr (.inl ⟨r,by rw [← htp];exact hav⟩)
 ·exact .inr (.inr ⟨_,hav,by rw [b0v,htp]⟩)
end Go.TA.Tryz


end
section
/- Two scripts together: what the program makes of them. -/
namespace Go.TA.Tryz
def g2i (n:Nat) (f:Nat) (caps:List AV) (fn:Int→Int) (ok:Int→Prop) (g:List AObj):Prop:=∀ X h,ok h→b0f T n f (.p (.int .i64 h)::caps) (g++X)=some (.p (.int .i64 (fn h)),g++X)
def okH (ok:Int→Prop) (x:GOp):Prop:=ok x.node∧ok x.up∧ok x.before
theorem g7u (l:List Attr) (h:l.length≤1048577) (n:Nat) (hn:0<n):b0f T n 37 [.p (.list (l.map Attr.pv))] []=some (.own true 0 l.length,[.pcells 2 (l.map Attr.pv)]):=by
 obtain ⟨k,rfl⟩:∃ k,n=k+1:=⟨n - 1,by omega⟩
 exact b5q l h [] k
theorem d5y (L:List GOp) (hL:∀ x ∈ L,x.attrs.length≤1048576) (hlen:L.length≤1048576) {f:Nat} {caps:List AV} {fn:Int→Int} {ok:Int→Prop} {g:List AObj} {n:Nat} (hno:b0p caps=true) (hme:∀ ks,b3d ks caps=false) (hsl:AV.sameL caps caps=true) (hf:g2i n f caps fn ok g) (hok:∀ x ∈ L,okH ok x) (hn:L.length<n) (X:List AObj) :
  b0f T (n+1) 93 [.p (.list (L.map GOp.pv)),.func f caps] (g++X)=some (.own true (g++X).length L.length,g++X++[.pcells 9 ((L.map (b0i fn)).map GOp.pv)]):=by
 have ll:(L.map GOp.pv).length=L.length:=by simp
 have hlast:∀ Y Z:List AObj,∀ o:AObj,(Y++[o])[Y.length]? = some o:=fun Y Z o=>by simp
 generalize hG:g++X=G
 have hset:∀ o o':AObj,(G++[o]).set G.length o'=G++[o']:=fun o o'=>by simp [List.set_append]
 have hat:∀ o:AObj,(G++[o])[G.length]? = some o:=fun o=>by simp
 have hf':∀ o h,ok h→b0f T n f (.p (.int .i64 h)::caps) (G++[o])=some (.p (.int .i64 (fn h)),G++[o]):=fun o h hh=>by
  have:=hf (X++[o]) h hh
  rw [← List.append_assoc,hG] at this
  exact this
 have key:=b1k (C:=b0f T n) (N:=n) (B:=h8t) (σ := Nat) (S:=fun i=>⟨[(1,.func f caps),(5,.own true G.length i),(11,.p (.list (L.map GOp.pv))),(12,.p (.int .i64 L.length)),(13,.p (.int .i64 i))],[],G++[.pcells 9 (((L.take i).map (b0i fn)).map GOp.pv)]⟩)
  (I:=fun i=>i≤L.length) (μ := fun i=>L.length - i) (Φ := fun i=>(.exit 0,⟨[(5,.own true G.length L.length)],[],G++[.pcells 9 ((L.map (b0i fn)).map GOp.pv)]⟩)) ?_ 0 (by omega) (by omega)
 ·simp only [List.take_zero,List.map_nil,Int.natCast_zero] at key
  have hl2:L.length*120≤140737488355328:=by omega
  rw [b0a T93,b0g rfl rfl]
  simp -implicitDefEqProofs (disch:=omega) only [Rx,simprocAttr,F93,ll,key,hme,List.replicate_zero]
 intro i hi
 by_cases h:i<L.length
 ·left
  obtain ⟨x,hx⟩:=b0m h
  have hg:=b0s (f:=GOp.pv) hx
  have hxm:=List.mem_of_getElem? hx
  have k1:(i:Int)<(L.length:Int):=by omega
  obtain ⟨o1,o2,o3⟩:=hok x hxm
  have c1:=fun o=>hf' o x.node o1
  have c2:=fun o=>hf' o x.up o2
  have c3:=fun o=>hf' o x.before o3
  have hcl:=g7u x.attrs (by have:=hL x hxm;omega) n (by omega)
  have hs:((L.take (i+1)).map (b0i fn)).map GOp.pv=((L.take i).map (b0i fn)).map GOp.pv++[(b0i fn x).pv]:=by
   rw [List.take_add_one,hx]
   simp
  have hli:(((L.take i).map (b0i fn)).map GOp.pv).length=i:=by simp;omega
  refine ⟨i+1, ?_,by omega,by omega,rfl⟩
  rw [hs]
  generalize ((L.take i).map (b0i fn)).map GOp.pv=A at hli
  simp only [GOp.pv,b0b,b0i] at hg ⊢
  simp -implicitDefEqProofs (disch:=omega) only [Rx,simprocAttr,h8t,k1,ll,hg,hno,hme,c1,c2,c3,hcl,hat,hset,hli,List.length_append]
 ·right
  obtain rfl:i=L.length:=by omega
  have k1:¬ (L.length:Int)<(L.length:Int):=by omega
  refine ⟨?_,by simp⟩
  rw [List.take_length]
  simp -implicitDefEqProofs (disch:=omega) only [Rx,simprocAttr,h8t,k1,hme]
end Go.TA.Tryz


end
section
/- Two scripts together: the program. -/
namespace Go.TA.Tryz
noncomputable def midR (l:List GRow) (s:List GOp):List GRow:=b3k l s 1048576
noncomputable def b3c (l:List GRow) (s t:List GOp):Nat × Int :=
 if (b0y l s 1048576).2≠0 then b0y l s 1048576 else if (b0y (midR l s) t 1048576).2≠0 then (s.length+(b0y (midR l s) t 1048576).1,(b0y (midR l s) t 1048576).2) else (0,0)
noncomputable def b4c (l:List GRow) (s t:List GOp):List GOp:=if (b3c l s t).2=0 then s++t.map (b0i (b3a (midR l s) ((l.length:Int)+b2g s 1))) else []
theorem c5l (l:List GRow) (hsm:Rows.mid 1048577 l) (L:List GOp) (hL:∀ x ∈ L,smallOp x) (hl:l.length≤500000) (hLl:L.length≤500000) (left:Int):Rows.mid 1048577 (b3k l L left)∧(b3k l L left).length≤l.length+L.length+1:=by
 unfold b3k
 split
 ·rename_i h
  by_cases h1:b0r l=0
  ·have hs:b5x l:=b3x (b5s h1).1
   have hS0:=g8n hs hsm (Nat.le_refl _)
   obtain ⟨q1,q2,q3⟩:=b6n L hS0 (c2c hsm (Nat.le_refl _)) hL 0
   have hN0:(S0 l).N=l.length+1:=rfl
   have hlen:=c0k q1 (bnd l.length L.length)
   have hsm2:=b9j q1 q2 (by omega) (bnd l.length L.length)
   refine ⟨hsm2, ?_⟩
   show (b2j (runM (S0 l) L 0).2.2 (bnd l.length L.length)).length≤l.length+L.length+1
   omega
  ·rw [b0y,if_pos h1] at h
   exact absurd h h1
 ·exact ⟨⟨by simp,by simp⟩,by simp⟩
theorem c5m {l:List GRow} {L:List GOp} {left:Int} (h:(b0y l L left).2=0):∀ x ∈ L,b0u x=0:=by
 unfold b0y at h
 split at h
 ·rename_i h1;exact absurd h h1
 split at h
 ·rename_i h1;exact absurd h h1
 ·rename_i h1
  exact (g6x (by simpa using h1)).2
theorem d7t:∀ (L:List GOp) (i:Nat),(b2d L i).1≤i+L.length
  | [],i=>by simp [b2d]
  | x :: l, i => by
    rw [b2d]
    have:=d7t l (i+1)
    split
    · simp only [List.length_cons];omega
    · simp only;omega
theorem h0a:∀ (L:List GOp) (S:MS) (i:Nat),(runM S L i).1≤i+L.length
  | [],S,i=>by simp [runM]
  | x :: l, S, i => by
    rw [runM]
    have:=h0a l (doE S x).2 (i+1)
    split
    · simp only [List.length_cons];omega
    · simp only;omega
theorem d5p (l:List GRow) (L:List GOp) (left:Int):(b0y l L left).1≤L.length:=by
 have h1:=d7t L 0
 have h2:=h0a L (S0 l) 0
 unfold b0y
 split
 ·simp
 split
 ·omega
 split
 ·simp only;omega
 split <;> simp
def g3y (h:Int):Prop:=0≤h∧h≤4294967295
theorem c5z {x:GOp} (h:b0u x=0):okH g3y x:=by
 unfold b0u at h
 split at h
 ·simp at h
 split at h
 ·simp at h
 split at h
 ·simp at h
 split at h
 ·simp at h
 split at h
 ·simp at h
 rename_i h1 h2 h3
 simp only [hOk,Bool.not_eq_false,Bool.and_eq_true,decide_eq_true_eq] at h1 h2 h3
 exact ⟨⟨by omega,by omega⟩,⟨by omega,by omega⟩,⟨by omega,by omega⟩⟩
def memT (mid:List GRow) (made:Int):List AObj:=[.pcells 6 [],.cells 1 [[.p (.list (mid.map GRow.pv))]],.pcells 1 [[.int .i64 made]]]
def g7x:List AV:=[.ptr true 1 1 1 0 0,.ptr true 2 1 1 0 0]
theorem h0u (mid:List GRow) (hmid:mid.length≤1048576) (made:Int) (hm:0≤made) (hm2:made≤4194304) (n:Nat):g2i (n+1) 91 g7x (b3a mid made) g3y (memT mid made):=by
 intro X h hh
 have ml:(mid.map GRow.pv).length=mid.length:=by simp
 obtain ⟨h1,h2⟩:=hh
 rw [b0a T91,b0g rfl rfl]
 by_cases h0:h=0
 ·subst h0
  have e:b3a mid made 0=0:=rfl
  rw [e]
  simp -implicitDefEqProofs (disch:=omega) only [Rx,simprocAttr,F91,g7x,memT]
 have e0:(h==0)=false:=by simpa using h0
 by_cases hle:h≤(mid.length:Int)
 ·obtain ⟨k,rfl⟩:∃ k:Nat,h=(k:Int)+1:=⟨(h - 1).toNat,by omega⟩
  obtain ⟨x,hx⟩:=b0m (show k<mid.length by omega)
  have hg:=b0s (f:=GRow.pv) hx
  have e1:(k:Int)+1 - 1=(k:Int):=by omega
  have e:b3a mid made ((k:Int)+1)=x.id:=by
   unfold b3a
   rw [if_neg h0,if_pos hle,e1,Int.toNat_natCast,hx];rfl
  have k1:(k:Int)<(mid.length:Int):=by omega
  rw [e]
  simp -implicitDefEqProofs (disch:=omega) only [Rx,simprocAttr,F91,g7x,memT,e0,hle,ml,hg,GRow.pv,e1,k1]
 ·have e:b3a mid made h=made+h - (mid.length:Int):=by
   unfold b3a
   rw [if_neg h0,if_neg hle]
  rw [e]
  simp -implicitDefEqProofs (disch:=omega) only [Rx,simprocAttr,F91,g7x,memT,e0,hle,ml]
theorem h5t (g:List AObj) (n:Nat):g2i (n+1) 92 [] (fun h=>h) (fun _=>True) g:=by
 intro X h _
 rw [b0a T92,run_pure rfl rfl rfl]
 simp -implicitDefEqProofs (disch:=omega) only [Rx,simprocAttr,F92]
theorem h9r (l:List GRow) (hsm:Rows.mid 1048577 l) (s t:List GOp) (hs:∀ x ∈ s,smallOp x) (ht:∀ x ∈ t,smallOp x) (hl:l.length≤200000) (hsl:s.length≤200000) (htl:t.length≤200000) (g:List AObj) {F:Nat}
  (hF:bnd l.length s.length+bnd l.length s.length+6000001<F) (hF2:bnd (midR l s).length t.length+bnd (midR l s).length t.length+6000001<F) :
  b0f T (F+1) 58 [.p (.list (l.map GRow.pv)),.p (.list (s.map GOp.pv)),.p (.list (t.map GOp.pv))] g=some (.tuple [.p (.list ((b4c l s t).map GOp.pv)),.p (.int .i64 (b3c l s t).1),.p (.int .i64 (b3c l s t).2)],g):=by
 obtain ⟨hmid,hml⟩:=c5l l hsm s hs (by omega) (by omega) 1048576
 have eM:midR l s=b3k l s 1048576:=rfl
 rw [← eM] at hmid hml
 have hv1:=c8d l hsm s hs (by omega) (by omega) 1048576 [] (F:=F - 1) (by omega)
 have hv2:=c8d (midR l s) hmid t ht (by omega) (by omega) 1048576 [] (F:=F - 1) (by omega)
 rw [show F - 1+1=F by omega] at hv1 hv2
 rw [← eM] at hv1
 have eC:b3c l s t=if (b0y l s 1048576).2≠0 then b0y l s 1048576 else if (b0y (midR l s) t 1048576).2≠0 then (s.length+(b0y (midR l s) t 1048576).1,(b0y (midR l s) t 1048576).2) else (0,0):=rfl
 have ls:(s.map GOp.pv).length=s.length:=by simp
 have lt:(t.map GOp.pv).length=t.length:=by simp
 have lr:(l.map GRow.pv).length=l.length:=by simp
 have hcount:=d8l s (by omega) [] (n:=F - 1) (by omega)
 rw [show F - 1+1=F by omega] at hcount
 have htm:=c1m s 1
 rw [b0a T58,run_pure rfl rfl rfl]
 unfold b4c
 by_cases h1:(b0y l s 1048576).2=0
 rotate_left
 ·have e1:((b0y l s 1048576).2==0)=false:=by simpa using h1
  rw [eC,if_pos h1]
  generalize (b0y l s 1048576).1=a at *
  generalize (b0y l s 1048576).2=e at *
  generalize (midR l s).map GRow.pv=M at *
  simp -implicitDefEqProofs (disch:=omega) only [Rx,simprocAttr,F58,hv1,e1,h1]
 rw [if_neg (by simpa using h1)] at eC
 rw [h1] at hv1
 generalize (b0y l s 1048576).1=a0 at hv1
 by_cases h2:(b0y (midR l s) t 1048576).2=0
 rotate_left
 ·have e1:((b0y (midR l s) t 1048576).2==0)=false:=by simpa using h2
  have hat:(b0y (midR l s) t 1048576).1≤1048576:=by have:=d5p (midR l s) t 1048576;omega
  rw [eC,if_pos h2]
  generalize (b0y (midR l s) t 1048576).1=a at *
  generalize (b0y (midR l s) t 1048576).2=e at *
  generalize (midR l s).map GRow.pv=M at *
  simp -implicitDefEqProofs (disch:=omega) only [Rx,simprocAttr,F58,hv1,hv2,ls,e1,h2]
 rw [if_neg (by simpa using h2)] at eC
 have hop:=c5m h2
 rw [h2] at hv2
 generalize (b0y (midR l s) t 1048576).1=a1 at hv2
 have hmade:((l.length:Int)+b2g s 1)≤4194304:=by omega
 have ha1:=h0u (midR l s) (by omega) ((l.length:Int)+b2g s 1) (by omega) hmade (F - 2)
 have hsh2:=d5y t (fun x hx=>(ht x hx).1) (by omega) (by decide) (fun ks=>by simp [g7x,b3d,mentions]) (by decide) ha1 (fun x hx=>c5z (hop x hx)) (by omega) [.pcells 9 (s.map GOp.pv)]
 have ha2:=h5t (memT (midR l s) ((l.length:Int)+b2g s 1)) (F - 2)
 have hsh1:=d5y s (fun x hx=>(hs x hx).1) (by omega) (by decide) (fun ks=>rfl) (by decide) ha2 (fun x hx=>⟨trivial,trivial,trivial⟩) (by omega) []
 rw [show F - 2+1+1=F by omega] at hsh1 hsh2
 rw [eC,if_pos rfl,List.map_append]
 rw [g5l] at hsh1
 have lt2:((t.map (b0i (b3a (midR l s) ((l.length:Int)+b2g s 1)))).map GOp.pv).length=t.length:=by simp
 have ha9:(s.map GOp.pv).all (fun x=>x.length==9)=true:=by simp [List.all_eq_true,GOp.pv]
 have hb9:((t.map (b0i (b3a (midR l s) ((l.length:Int)+b2g s 1)))).map GOp.pv).all (fun x=>x.length==9)=true:=by simp [List.all_eq_true,GOp.pv]
 have hm2:memT (midR l s) ((l.length:Int)+b2g s 1)=[.pcells 6 [],.cells 1 [[.p (.list ((midR l s).map GRow.pv))]],.pcells 1 [[.int .i64 ((l.length:Int)+b2g s 1)]]]:=rfl
 rw [hm2] at hsh1 hsh2
 generalize (t.map (b0i (b3a (midR l s) ((l.length:Int)+b2g s 1)))).map GOp.pv=Y at *
 generalize s.map GOp.pv=X at *
 generalize (midR l s).map GRow.pv=M at *
 generalize b2g s 1=t1 at *
 simp only [g7x,List.append_nil,List.cons_append,List.nil_append,List.length_cons,List.length_nil] at hsh1 hsh2
 have hcap:(s.length+t.length)*120≤140737488355328:=by omega
 have hbig:¬ (1048576:Int)<((s.length+t.length:Nat):Int):=by omega
 simp -implicitDefEqProofs (disch:=omega) only [Rx,simprocAttr,F58,hv1,hv2,hcount,hsh1,hsh2,ls,lr,lt2,hb9,hcap,List.length_append]
end Go.TA.Tryz


end
section
/- IDs are not looked at. -/
namespace Go.TA.Tryz
def b4l (x:GRow):GRow:={ x with id:=0 }
theorem g5e (l:List GRow) (x:Nat):upAt (l.map b4l) x=upAt l x:=by
 simp only [upAt,List.getElem?_map,Option.map_map]
 rfl
theorem d8y (l:List GRow):∀ f x,anc (l.map b4l) f x=anc l f x
 | 0,_=>rfl
 | f+1,0=>rfl
 | f+1,x+1=>by simp only [anc,g5e,d8y l f]
theorem d0e (l:List GRow) (x:Nat):b3o (l.map b4l) x=b3o l x:=d8y l x x
theorem c0b (l:List GRow):∀ (r:List GRow) (i:Nat),b1l (l.map b4l) i (r.map b4l)=b1l l i r
  | [],_=>rfl
  | x :: r, i => by
    simp only [List.map_cons,b1l,c0b l r]
    congr 1
    simp only [b3q,b3s,d0e]
    rfl
theorem d6k (l:List GRow) (i:Nat) (x:GRow):b3n (l.map b4l) i (b4l x)=b3n l i x:=by
 have hd:dupB (l.map b4l) i (b4l x)=dupB l i x:=by
  simp only [dupB, ← List.map_take,List.any_map]
  rfl
 simp only [b3n,d0e,hd]
 rfl
theorem c4s (l:List GRow):∀ (r:List GRow) (i:Nat),b2w (l.map b4l) i (r.map b4l)=b2w l i r
 | [],_=>rfl
 | x::r,i=>by simp only [List.map_cons,b2w,d6k,c4s l r]
theorem b4w (l:List GRow):b0r (l.map b4l)=b0r l:=by
 simp only [b0r,b4h,c0b,c4s]
 rfl
end Go.TA.Tryz


end
section
/- Two scripts together are valid, and come to what they come to one behind the other. -/
namespace Go.TA.Tryz
theorem d2j:∀ (L:List GOp) (i:Nat),(∀ x ∈ L,b0u x=0)→b2d L i=(0,0)
  | [],i,h=>rfl
  | x :: l, i, h => by
    rw [b2d,if_pos (h x (by simp))]
    exact d2j l (i+1) fun y hy=>h y (by simp [hy])
theorem c8e {l:List GRow} {L:List GOp} {left:Int} (h:(b0y l L left).2=0):b0r l=0∧(∀ x ∈ L,b0u x=0)∧(runM (S0 l) L 0).2.1=0∧b8o l L left=0∧b3k l L left=b6c l L:=by
 have hr:b3k l L left=b6c l L:=by unfold b3k;rw [if_pos h]
 have ho:=c5m h
 unfold b0y at h
 split at h
 ·rename_i h1;exact absurd h h1
 split at h
 ·rename_i h1;exact absurd h h1
 split at h
 ·rename_i h1;exact absurd h h1
 split at h
 ·rename_i h1;exact absurd h h1
 rename_i h1 h2 h3 h4
 exact ⟨by simpa using h1,ho,by simpa using h3,by simpa using h4,hr⟩
theorem d5o {l:List GRow} {L:List GOp} {left:Int} (h1:b0r l=0) (h2:∀ x ∈ L,b0u x=0) (h3:(runM (S0 l) L 0).2.1=0) (h4:b8o l L left=0):(b0y l L left)=(0,0)∧b3k l L left=b6c l L:=by
 have e:b0y l L left=(0,0):=by
  unfold b0y
  rw [if_neg (by simpa using h1),if_neg (by rw [d2j L 0 h2];simp),if_neg (by simpa using h3),if_neg (by simpa using h4)]
 exact ⟨e,by unfold b3k;rw [e,if_pos rfl]⟩
theorem d8c {S:MS} {R:Nat} {L:List GOp} {left:Int} (h:endE S R L left=0):b3r S=[]∧¬ 1<tops (b2j S R)∧b0r (b2j S R)=0∧(b2g L 1:Int)≤left:=by
 unfold endE at h
 split at h
 ·simp at h
 split at h
 ·simp at h
 split at h
 ·rename_i h1;exact absurd h h1
 split at h
 ·rename_i h1 h2 h3 h4
  exact ⟨List.eq_nil_of_length_eq_zero (by omega),h2,by simpa using h3,h4⟩
 ·simp at h
theorem h2y {S:MS} {R:Nat} {L:List GOp} {left:Int} (h1:b3r S=[]) (h2:¬ 1<tops (b2j S R)) (h3:b0r (b2j S R)=0) (h4:(b2g L 1:Int)≤left):endE S R L left=0:=by
 unfold endE
 rw [if_neg (by rw [h1];simp),if_neg h2,if_neg (by simpa using h3),if_pos h4]
theorem d1m (φ : Nat→Nat) (l:List GRow):(l.map (reId φ)).map b4l=l.map b4l:=by
 rw [List.map_map];rfl
theorem g9o (φ : Nat→Nat) (l:List GRow):tops (l.map (reId φ))=tops l:=by
 unfold tops
 rw [List.countP_map];rfl
theorem d8p (φ : Nat→Nat) (l:List GRow):b0r (l.map (reId φ))=b0r l:=by
 rw [← b4w,d1m,b4w]
theorem c8n {f:Int→Int} {x:GOp} (h:smallOp x):smallOp (b0i f x):=h
theorem d8n (l:List GRow) (hsm:Rows.mid 1048577 l) (s t:List GOp) (hs:∀ x ∈ s,smallOp x) (ht:∀ x ∈ t,smallOp x) (hl:l.length≤200000) (hsl:s.length≤200000) (htl:t.length≤200000) {k1 k2:Int}
  (h1:(b0y l s k1).2=0) (hm:midR l s=b3k l s k1) (h2:(b0y (midR l s) t k2).2=0) {left:Int} (hleft:(b2g (s++t.map (b0i (b3a (midR l s) ((l.length:Int)+b2g s 1)))) 1:Int)≤left) :
  b0y l (s++t.map (b0i (b3a (midR l s) ((l.length:Int)+b2g s 1)))) left=(0,0)∧∃ φ,b3k l (s++t.map (b0i (b3a (midR l s) ((l.length:Int)+b2g s 1)))) left=(b3k (midR l s) t k2).map (reId φ):=by
 obtain ⟨a1,a2,a3,a4,a5⟩:=c8e h1
 obtain ⟨b1,b2,b3,b4,b5⟩:=c8e h2
 rw [a5] at hm
 have hs0:b5x l:=b3x (b5s a1).1
 have hS0:=g8n hs0 hsm (Nat.le_refl _)
 obtain ⟨hok,hsml,hN⟩:=b6n s hS0 (c2c hsm (Nat.le_refl _)) hs 0
 obtain ⟨kN,k0⟩:=d6e s hS0 (fun x hx=>⟨a2 x hx,by have:=(hs x hx).1;omega⟩) 0 a3
 obtain ⟨e1,e2,e3,e4⟩:=d8c a4
 have hN0:(S0 l).N=l.length+1:=rfl
 have htm:=c1m s 1
 have hst0:(runM (S0 l) s 0).2.2.st 0=b7c:=k0
 have hmid:midR l s=b2j (runM (S0 l) s 0).2.2 (bnd l.length s.length):=hm
 have hmm:Rows.mid 1048577 (midR l s):=by rw [hmid];exact b9j hok hsml (by omega) _
 have hml:=c0k hok (bnd l.length s.length)
 rw [← hmid] at hml
 have hsim:=g9w hok hst0 e1
 have hgood:=d1s hok (bnd l.length s.length)
 have hid:∀ x ∈ midR l s,0≤x.id:=fun x hx=>by
  rw [hmid] at hx
  obtain ⟨i,hi⟩:=List.getElem?_of_mem hx
  obtain ⟨c,g⟩:=hgood i x hi
  rw [g.id];omega
 rw [← hmid] at hsim
 have hmade:((l.length:Int)+b2g s 1)=(((runM (S0 l) s 0).2.2.N - 1:Nat):Int):=by omega
 have hshift:t.map (b0i (b3a (midR l s) ((l.length:Int)+b2g s 1)))=t.map (b0i (img (phi (midR l s) ((runM (S0 l) s 0).2.2.N - 1)))):=by
  refine List.map_congr_left fun x hx => ?_
  obtain ⟨q1,q2,q3⟩:=c5z (b2 x hx)
  rw [hmade]
  unfold b0i
  rw [c5y hid _ q1.1,c5y hid _ q2.1,c5y hid _ q3.1]
 rw [hshift] at hleft ⊢
 generalize hφ : phi (midR l s) ((runM (S0 l) s 0).2.2.N - 1) = φ at *
 have hsm2:b5x (midR l s):=b3x (b5s b1).1
 have hM0:=g8n hsm2 hmm (Nat.le_refl _)
 obtain ⟨r1,r2,r3⟩:=g9x t hsim hM0 (by omega) (fun x hx=>⟨b2 x hx,by have:=(ht x hx).1;omega⟩) 0 (0+s.length) b3
 obtain ⟨mok,_,_⟩:=b6n t hM0 (c2c hmm (Nat.le_refl _)) ht 0
 have happ:=g2w s (t.map (b0i (img φ))) (S0 l) 0 a3
 have hop:∀ x ∈ s++t.map (b0i (img φ)),b0u x=0:=fun x hx=>by
  rcases List.mem_append.1 hx with h | h
  ·exact a2 x h
  ·exact r3 x h
 have hsmall:∀ x ∈ s++t.map (b0i (img φ)),smallOp x:=fun x hx=>by
  rcases List.mem_append.1 hx with h | h
  ·exact hs x h
  ·obtain ⟨y,hy,rfl⟩:=List.mem_map.1 h
   exact c8n (ht y hy)
 obtain ⟨sok,_,_⟩:=b6n (s++t.map (b0i (img φ))) hS0 (c2c hsm (Nat.le_refl _)) hsmall 0
 have hrun:(runM (S0 l) (s++t.map (b0i (img φ))) 0).2.1=0:=by rw [happ];exact r1
 have hS:(runM (S0 l) (s++t.map (b0i (img φ))) 0).2.2=(runM (runM (S0 l) s 0).2.2 (t.map (b0i (img φ))) (0+s.length)).2.2:=by rw [happ]
 rw [← hS] at r2
 obtain ⟨f1,f2,f3,f4⟩:=d8c b4
 have hrows:b6c l (s++t.map (b0i (img φ)))=(b6c (midR l s) t).map (reId φ):=by
  have d1:=d1t sok (Nat.le_add_right (bnd l.length (s++t.map (b0i (img φ))).length) (bnd (midR l s).length t.length))
  have d2:=d1t mok (Nat.le_add_left (bnd (midR l s).length t.length) (bnd l.length (s++t.map (b0i (img φ))).length))
  have d3:=r2.rows mok (bnd l.length (s++t.map (b0i (img φ))).length+bnd (midR l s).length t.length)
  rw [d1,d2] at d3
  exact d3
 have hlast:b8o l (s++t.map (b0i (img φ))) left=0:=by
  refine h2y (r2.loose mok f1) ?_ ?_ hleft
  ·show ¬ 1<tops (b6c l (s++t.map (b0i (img φ))))
   rw [hrows,g9o];exact f2
  ·show b0r (b6c l (s++t.map (b0i (img φ))))=0
   rw [hrows,d8p];exact f3
 obtain ⟨v1,v2⟩:=d5o (left:=left) a1 hop hrun hlast
 exact ⟨v1, φ,by rw [v2,hrows,b5]⟩
end Go.TA.Tryz


end
