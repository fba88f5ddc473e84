/- Part 15 of 15 of a proof; joined from VkpKeptR, VkpIntsEq, VkpSame28, VkpKeptLaw, VkpValidKeptFin. The law ValidKept, for every input of bulk at most 1048576: the call returns true, and nothing that was there has changed. -/
import Derived.Test.YtbgbmdjfogohnaaGreatDoorVk1
import Derived.Test.YtbgbmdjfogohnaaGreatDoorVk14
import Derived.Test.YtbgbmdjfogohnaaGreatDoorVk6
import Derived.Test.YtbgbmdjfogohnaaGreatDoorVk10
import Derived.Test.YtbgbmdjfogohnaaGreatDoorVk11
import Derived.Test.YtbgbmdjfogohnaaGreatDoorCards
import Derived.Test.YtbgbmdjfogohnaaGreatDoorTie
import Derived.WalkKit
import Derived.ProofKit
import Derived.OpenShut
import Derived.JoinedCond
import Derived.Deep.DeepHandedRow
import Derived.Lib.LaidTab
set_option linter.unusedSimpArgs false
set_option linter.unusedVariables false
set_option linter.defProp false
set_option maxRecDepth 100000
set_option maxHeartbeats 8000000
section
/- What a script leaves of the first nodes, by the document's answer. -/
namespace Go.TA
theorem keptI_step {X:List GRow} {k:Nat} {x:GRow} (i:Nat) (h:X[k]? = some x):keptI (X.take (k+1)) i=keptI (X.take k) i++if x.id=(i:Int)+1 then [(i:Int)+1] else []:=by
 unfold keptI
 rw [List.take_add_one,h,List.filter_append,List.map_append]
 congr 1
 simp only [Option.toList_some,List.filter_cons,List.filter_nil,beq_iff_eq]
 split <;> rfl
theorem keptR_step (X:List GRow) (i:Nat):keptR (i+1) X=keptR i X++keptI X i:=by
 unfold keptR
 rw [List.range_succ,List.flatMap_append]
 simp
theorem keptI_len {X:List GRow} (hn:(X.map GRow.id).Nodup) (i k:Nat):(keptI (X.take k) i).length≤1:=by
  have hs:((X.take k).map GRow.id).Nodup:=((List.take_sublist k X).map GRow.id).nodup hn
  have h:=keptI_lt hs i
  match hm:keptI (X.take k) i,h with
  | [],_=>simp
  | [a],_=>simp
  | a :: b :: r, h =>
    have ha:=keptI_mem (X:=X.take k) (i:=i) (v:=a) (by rw [hm];simp)
    have hb:=keptI_mem (X:=X.take k) (i:=i) (v:=b) (by rw [hm];simp)
    have:=(List.pairwise_cons.1 h).1 b (by simp)
    omega
theorem keptR_len {X:List GRow} (hn:(X.map GRow.id).Nodup) (m:Nat):(keptR m X).length≤m:=by
  induction m with
  | zero=>simp [keptR]
  | succ m ih =>
    have:=keptI_len hn m X.length
    rw [List.take_length] at this
    rw [keptR_step,List.length_append];omega
namespace Tryz
theorem kept_in {n N : Nat} (X : List GRow) (hX : X.length ≤ 4194304) (hid : ∀ x ∈ X, 0 ≤ x.id ∧ x.id ≤ 4194304) (hn : (X.map GRow.id).Nodup) (m i : Nat) (hi : i < m) (hm : m ≤ 4194304) (c : List Int) (hc : c.length ≤ i) (hN : X.length < N) :
    aexec (acall T n) N (.loop B43x1) ⟨[(5,.p (.list (X.map GRow.pv))),(8,.own false 1000 c.length),(9,.p (.int .i64 i)),(21,.p (.int .i64 m)),(22,.p (.int .i64 i)),(26,.p (.int .i64 X.length)),(27,.p (.int .i64 ((0:Nat):Int)))],[(1000,.pcells 1 (intsPV c))],[]⟩
      = some (.exit 2,⟨[(5,.p (.list (X.map GRow.pv))),(8,.own false 1000 (c++keptI X i).length),(21,.p (.int .i64 m)),(22,.p (.int .i64 i))],[(1000,.pcells 1 (intsPV (c++keptI X i)))],[]⟩):=by
  have xl:(X.map GRow.pv).length=X.length:=by simp
  obtain ⟨r,hr,rfl⟩:=loop_inv (C:=acall T n) (N:=N) (B:=B43x1) (σ := Nat) (S:=fun k=>⟨[(5,.p (.list (X.map GRow.pv))),(8,.own false 1000 (c++keptI (X.take k) i).length),(9,.p (.int .i64 i)),(21,.p (.int .i64 m)),(22,.p (.int .i64 i)),(26,.p (.int .i64 X.length)),(27,.p (.int .i64 k))],[(1000,.pcells 1 (intsPV (c++keptI (X.take k) i)))],[]⟩)
    (I:=fun k=>k≤X.length) (μ := fun k=>X.length - k) (Q:=fun r=>r=(.exit 2,⟨[(5,.p (.list (X.map GRow.pv))),(8,.own false 1000 (c++keptI X i).length),(21,.p (.int .i64 m)),(22,.p (.int .i64 i))],[(1000,.pcells 1 (intsPV (c++keptI X i)))],[]⟩)) (fun k hk=>by
    by_cases h1:k<X.length
    · left
      obtain ⟨x,hx⟩:=get_some h1
      have hg:=getD_map (f:=GRow.pv) hx
      have k1:(k:Int)<(X.length:Int):=by omega
      have hb:=hid x (List.mem_of_getElem? hx)
      have hkl:=keptI_len hn i k
      have hal:(c++keptI (X.take k) i).length≤4194305:=by rw [List.length_append];omega
      have il:=intsPV_len (c++keptI (X.take k) i)
      refine ⟨k+1, ?_,by omega,by omega⟩
      rw [keptI_step i hx, ← List.append_assoc]
      by_cases e:x.id=(i:Int)+1
      · rw [if_pos e]
        have e1:(x.id==(i:Int)+1)=true:=by simpa using e
        have os1:=intsPV_snoc (c++keptI (X.take k) i) ((i:Int)+1)
        have ol1:(intsPV (c++keptI (X.take k) i++[(i:Int)+1])).length=(c++keptI (X.take k) i).length+1:=by rw [intsPV_len,List.length_append];rfl
        have ol3:(c++keptI (X.take k) i++[(i:Int)+1]).length=(c++keptI (X.take k) i).length+1:=by rw [List.length_append];rfl
        rw [ol3]
        generalize c++keptI (X.take k) i++[(i:Int)+1]=acc1 at os1 ol1
        generalize c++keptI (X.take k) i=acc at *
        simp -implicitDefEqProofs (disch:=omega) only [Rx,simprocAttr,B43x1,k1,xl,hg,GRow.pv,e1,il,os1,ol1]
      · rw [if_neg e,List.append_nil]
        have e1:(x.id==(i:Int)+1)=false:=by simpa using e
        generalize c++keptI (X.take k) i=acc at *
        simp -implicitDefEqProofs (disch:=omega) only [Rx,simprocAttr,B43x1,k1,xl,hg,GRow.pv,e1]
    · right
      obtain rfl:k=X.length:=by omega
      have k1:¬ (X.length:Int)<(X.length:Int):=by omega
      refine ⟨_, ?_, ?_,rfl⟩
      · rw [List.take_length]
        generalize c++keptI X i=acc at *
        simp -implicitDefEqProofs (disch:=omega) only [Rx,simprocAttr,B43x1,k1]
      · simp) 0 (by omega) (by omega)
  have e0:keptI (X.take 0) i=[]:=rfl
  rw [e0,List.append_nil] at hr
  exact hr
theorem keptRef_run (l:List GRow) (hsm:Rows.mid 1048577 l) (L:List GOp) (hL:∀ x ∈ L,smallOp x) (hl:l.length≤500000) (hLl:L.length≤500000) (hX:(validR l L 1048576).length≤4194304) (hid:∀ x ∈ validR l L 1048576,0≤x.id∧x.id≤4194304) (hn:((validR l L 1048576).map GRow.id).Nodup) (g:List AObj) {F:Nat} (hF:bnd l.length L.length+bnd l.length L.length+7000000<F) :
  acall T (F+1) 43 [.p (.list (l.map GRow.pv)),.p (.list (L.map GOp.pv))] g=some (.p (.list (intsPV (if (validE l L 1048576).2=0 then keptR l.length (validR l L 1048576) else []))),g):=by
 have hv:=valid_ref l hsm L hL hl hLl 1048576 [] (F:=F - 1) (by omega)
 rw [show F - 1+1=F by omega] at hv
 rw [acall_code T43,run_pure rfl rfl rfl]
 generalize validR l L 1048576=X at *
 generalize (validE l L 1048576).1=a at *
 generalize (validE l L 1048576).2=e at *
 have xl:(X.map GRow.pv).length=X.length:=by simp
 have ll:(l.map GRow.pv).length=l.length:=by simp
 by_cases h1:e=0
 rotate_left
 ·have e1:(e==0)=false:=by simpa using h1
  simp -implicitDefEqProofs (disch:=omega) only [Rx,simprocAttr,F43,hv,e1,h1,intsPV]
 subst h1
 have key:=loop_inv (C:=acall T F) (N:=F) (B:=B43x0) (σ := Nat) (S:=fun i=>⟨[(5,.p (.list (X.map GRow.pv))),(8,.own false 1000 (keptR i X).length),(21,.p (.int .i64 l.length)),(22,.p (.int .i64 i))],[(1000,.pcells 1 (intsPV (keptR i X)))],[]⟩)
  (I:=fun i=>i≤l.length) (μ := fun i=>l.length - i) (Q:=fun r=>r=(.exit 0,⟨[(8,.own false 1000 (keptR l.length X).length)],[(1000,.pcells 1 (intsPV (keptR l.length X)))],[]⟩)) ?_ 0 (by omega) (by omega)
 ·obtain ⟨r,hr,rfl⟩:=key
  have hkl:=keptR_len hn l.length
  have il:=intsPV_len (keptR l.length X)
  rw [if_pos rfl]
  have e0:keptR 0 X=[]:=rfl
  rw [e0] at hr
  simp only [List.length_nil,Int.natCast_zero,show intsPV []=[] from rfl] at hr
  generalize keptR l.length X=q0 at *
  simp -implicitDefEqProofs (disch:=omega) only [Rx,simprocAttr,F43,hv,ll,hr,il]
 intro i hi
 by_cases h1:i<l.length
 ·left
  have k1:(i:Int)<(l.length:Int):=by omega
  have hkl:=keptR_len hn i
  have hin:=kept_in (n:=F) (N:=F) X hX hid hn l.length i h1 (by omega) (keptR i X) hkl (by omega)
  rw [← keptR_step] at hin
  simp only [Int.natCast_zero] at hin
  refine ⟨i+1, ?_,by omega,by omega⟩
  generalize keptR (i+1) X=q1 at *
  generalize keptR i X=q0 at *
  simp -implicitDefEqProofs (disch:=omega) only [Rx,simprocAttr,B43x0,k1,xl,hin]
 ·right
  obtain rfl:i=l.length:=by omega
  have k1:¬ (l.length:Int)<(l.length:Int):=by omega
  refine ⟨_, ?_, ?_,rfl⟩
  ·generalize keptR l.length X=q0 at *
   simp -implicitDefEqProofs (disch:=omega) only [Rx,simprocAttr,B43x0,k1]
  ·simp
end Tryz
end Go.TA


end
section
/- Rows, and numbers, held against themselves. -/
namespace Go.TA.Tryz
theorem intsEq_run (l:List Int) (hl:l.length≤8589934592) (g:List AObj) {n:Nat} (hn:l.length<n):acall T (n+1) 32 [.p (.list (intsPV l)),.p (.list (intsPV l))] g=some (.p (.bool true),g):=by
 have ll:=intsPV_len l
 have hl:=loop_rule' (C:=acall T n) (N:=n) (B:=B32x0) (σ := Nat) (S:=fun i=>⟨[(0,.p (.list (intsPV l))),(1,.p (.list (intsPV l))),(12,.p (.int .i64 l.length)),(13,.p (.int .i64 i))],[],[]⟩) (I:=fun i=>i≤l.length) (μ := fun i=>l.length - i) (Φ := fun i=>(.exit 0,⟨[],[],[]⟩)) ?_ 0 (by omega) (by omega)
 ·rw [acall_code T32,run_pure rfl rfl rfl]
  simp only [Int.natCast_zero] at hl
  simp -implicitDefEqProofs (disch:=omega) only [Rx,simprocAttr,F32,hl,ll]
 intro i hi
 by_cases h:i<l.length
 ·left
  have hg:=intsPV_get (List.getElem?_eq_getElem h)
  have k1:(i:Int)<(l.length:Int):=by omega
  refine ⟨i+1, ?_,by omega,by omega,rfl⟩
  simp -implicitDefEqProofs (disch:=omega) only [Rx,simprocAttr,B32x0,k1,ll,hg]
 ·right
  obtain rfl:i=l.length:=by omega
  have k1:¬ (l.length:Int)<(l.length:Int):=by omega
  refine ⟨?_,by simp⟩
  simp -implicitDefEqProofs (disch:=omega) only [Rx,simprocAttr,B32x0,k1]
end Go.TA.Tryz


end
section
/- The examples that the statements contain, run. -/
namespace Go.TA.Tryz
theorem same28 (n:Nat):acall T (n+60) 41 [] []=some (.p (.bool true),[]):=by kernel_rfl
end Go.TA.Tryz


end
section
/- The law ValidKept, in the machine. -/
namespace Go.TA.Tryz
theorem validR_facts (l:List GRow) (hsm:Rows.mid 1048577 l) (L:List GOp) (hL:∀ x ∈ L,smallOp x) (hl:l.length≤500000) (hLl:L.length≤500000) (left:Int) :
  Rows.mid 1048577 (validR l L left)∧(∀ x ∈ validR l L left,1≤x.id∧x.id≤1048576)∧((validR l L left).map GRow.id).Nodup∧((validE l L left).2=0→check13 (validR l L left)=0):=by
 by_cases h:(validE l L left).2=0
 rotate_left
 ·have hr:validR l L left=[]:=by unfold validR;rw [if_neg h]
  rw [hr]
  exact ⟨⟨by simp,by simp⟩,by simp,by simp,fun h2=>absurd h2 h⟩
 have hr:validR l L left=rowsM (runM (S0 l) L 0).2.2 (bnd l.length L.length):=by unfold validR;rw [if_pos h];rfl
 have hc:check13 l=0:=by
  by_cases h1:check13 l=0
  ·exact h1
  ·unfold validE at h;rw [if_pos h1] at h;exact absurd h h1
 have hs:sound l:=formed_sound (check13_ok hc).1
 have hS0:=S0_ok hs hsm (Nat.le_refl _)
 obtain ⟨q1,q2,q3⟩:=runM_facts L hS0 (S0_small hsm (Nat.le_refl _)) hL 0
 have hN0:(S0 l).N=l.length+1:=rfl
 have hp:=below_post q1 (bnd l.length L.length+1) [] 0 0 q1.pos pre_nil
 rw [hr]
 refine ⟨rowsM_small q1 q2 (by omega) _,fun x hx => ?_,hp.nodup,fun _ => ?_⟩
 ·obtain ⟨more,hm,ho⟩:=hp.more
  have hm':rowsM (runM (S0 l) L 0).2.2 (bnd l.length L.length)=more:=by simpa [rowsM] using hm
  rw [hm'] at hx
  obtain ⟨c,e,c1,c2,_⟩:=ho x hx
  omega
 ·have hE:lastE l L left=0:=by
   unfold validE at h
   split at h
   ·rename_i h1;exact absurd h h1
   split at h
   ·rename_i h1;exact absurd h h1
   split at h
   ·rename_i h1;exact absurd h h1
   split at h
   ·rename_i h1;exact absurd h h1
   rename_i h4
   simpa using h4
  unfold lastE endE at hE
  split at hE
  ·simp at hE
  split at hE
  ·simp at hE
  split at hE
  ·rename_i h1;exact absurd hE h1
  rename_i h3
  exact Classical.not_not.1 h3
theorem once_in {n N : Nat} (X : List GRow) (hX : X.length ≤ 4194304) (hn : (X.map GRow.id).Nodup) (i : Nat) (hi : i < X.length) (hN : X.length < N) :
    aexec (acall T n) N (.loop B7x1) ⟨[(5,.p (.list (X.map GRow.pv))),(8,.p (.int .i64 i)),(45,.p (.int .i64 X.length)),(46,.p (.int .i64 i)),(49,.p (.int .i64 i)),(50,.p (.int .i64 ((0:Nat):Int)))],[],[]⟩
      = some (.exit 2,⟨[(5,.p (.list (X.map GRow.pv))),(45,.p (.int .i64 X.length)),(46,.p (.int .i64 i))],[],[]⟩):=by
  have xl:(X.map GRow.pv).length=X.length:=by simp
  obtain ⟨y,hy⟩:=get_some hi
  have hgy:=getD_map (f:=GRow.pv) hy
  exact loop_rule' (C := acall T n) (N := N) (B := B7x1) (σ := Nat) (S := fun k => ⟨[(5, .p (.list (X.map GRow.pv))), (8, .p (.int .i64 i)), (45, .p (.int .i64 X.length)), (46, .p (.int .i64 i)), (49, .p (.int .i64 i)), (50, .p (.int .i64 k))], [], []⟩)
    (I:=fun k=>k≤i) (μ := fun k=>i - k) (Φ := fun k=>(.exit 2,⟨[(5,.p (.list (X.map GRow.pv))),(45,.p (.int .i64 X.length)),(46,.p (.int .i64 i))],[],[]⟩)) (fun k hk=>by
    by_cases h1:k<i
    · left
      obtain ⟨x,hx⟩:=get_some (show k<X.length by omega)
      have hg:=getD_map (f:=GRow.pv) hx
      have k1:(k:Int)<(i:Int):=by omega
      have hne:x.id≠y.id:=fun e=>by
        have e1:(X.map GRow.id)[k]? = some x.id:=by rw [List.getElem?_map,hx];rfl
        have e2:(X.map GRow.id)[i]? = some x.id:=by rw [List.getElem?_map,hy,e];rfl
        have:=(List.getElem?_inj (by simpa using show k<X.length by omega) hn).1 (e1.trans e2.symm)
        omega
      have e1:(x.id==y.id)=false:=by simpa using hne
      refine ⟨k+1, ?_,by omega,by omega,rfl⟩
      simp -implicitDefEqProofs (disch:=omega) only [Rx,simprocAttr,B7x1,k1,xl,hg,hgy,GRow.pv,e1]
    · right
      obtain rfl:k=i:=by omega
      have k1:¬ (k:Int)<(k:Int):=by omega
      refine ⟨?_,by simp⟩
      simp -implicitDefEqProofs (disch:=omega) only [Rx,simprocAttr,B7x1,k1]) 0 (by omega) (by omega)
theorem once_run {n N:Nat} (X:List GRow) (hX:X.length≤4194304) (hn:(X.map GRow.id).Nodup) (hN:X.length<N) :
  aexec (acall T n) N (.loop B7x0) ⟨[(5,.p (.list (X.map GRow.pv))),(45,.p (.int .i64 X.length)),(46,.p (.int .i64 ((0:Nat):Int)))],[],[]⟩
   = some (.exit 0,⟨[(5,.p (.list (X.map GRow.pv)))],[],[]⟩):=by
 have xl:(X.map GRow.pv).length=X.length:=by simp
 exact loop_rule' (C:=acall T n) (N:=N) (B:=B7x0) (σ := Nat) (S:=fun i=>⟨[(5,.p (.list (X.map GRow.pv))),(45,.p (.int .i64 X.length)),(46,.p (.int .i64 i))],[],[]⟩)
  (I:=fun i=>i≤X.length) (μ := fun i=>X.length - i) (Φ := fun i=>(.exit 0,⟨[(5,.p (.list (X.map GRow.pv)))],[],[]⟩)) (fun i hi=>by
  by_cases h1:i<X.length
  ·left
   have k1:(i:Int)<(X.length:Int):=by omega
   have hin:=once_in (n:=n) (N:=N) X hX hn i h1 hN
   simp only [Int.natCast_zero] at hin
   refine ⟨i+1, ?_,by omega,by omega,rfl⟩
   simp -implicitDefEqProofs (disch:=omega) only [Rx,simprocAttr,B7x0,k1,hin]
  ·right
   obtain rfl:i=X.length:=by omega
   have k1:¬ (X.length:Int)<(X.length:Int):=by omega
   refine ⟨?_,by simp⟩
   simp -implicitDefEqProofs (disch:=omega) only [Rx,simprocAttr,B7x0,k1]) 0 (by omega) (by omega)
theorem validKept_run (l:List GRow) (L:List GOp) (hsm:Rows.small 1048577 l) (hL:∀ x ∈ L,smallOp x) (hLl:L.length≤1048575) :
    ∃ n,acall T n 7 [.p (.list (l.map GRow.pv)),.p (.list (L.map GOp.pv))] []=some (.p (.bool true),[]):=by
  have hlen:=hsm.len
  obtain ⟨F,hF⟩:∃ F,F=bnd l.length L.length+bnd l.length L.length+9000000:=⟨_,rfl⟩
  refine ⟨F+1, ?_⟩
  have hsame:=same28 (F - 60)
  rw [show F - 60+60=F by omega] at hsame
  have hfr:=fewR_run l 120 [] hsm (Nat.le_refl _) (by omega) (by omega) (m:=F - 1) (by omega)
  have hfo:=few_run L 150 [] (n:=F - 1) (fun y hy=>⟨hL y hy,by have:=(hL y hy).1;omega⟩) (by omega) (by omega) (by omega) (by omega)
  rw [show F - 1+1=F by omega] at hfr hfo
  rw [acall_code T7,run_pure rfl rfl rfl]
  cases h1:fewRows l 120 with
  | false =>
    rw [h1] at hfr
    simp -implicitDefEqProofs (disch:=omega) only [Rx,simprocAttr,F7,hfr,hsame]
  | true=>
  rw [h1] at hfr
  cases h2:fewOps L 150 with
  | false =>
    rw [h2] at hfo
    simp -implicitDefEqProofs (disch:=omega) only [Rx,simprocAttr,F7,hfr,hfo,hsame]
  | true=>
  rw [h2] at hfo
  have l1:=fewRows_len h1
  have l2:=fewOps_len h2
  have ll:(L.map GOp.pv).length=L.length:=by simp
  obtain ⟨a1,a2,a3,a4⟩:=validR_facts l hsm.mid L hL (by omega) (by omega) 1048576
  obtain ⟨b1,b2,b3,b4⟩:=validR_facts l hsm.mid L hL (by omega) (by omega) L.length
  have a0:=a1.len
  have b0:=b1.len
  have hk1:=kept_run l hsm.mid L hL (by omega) (by omega) (by omega) [] (F:=F - 1) (by omega)
  have hk2:=keptRef_run l hsm.mid L hL (by omega) (by omega) (by omega) (fun x hx=>by have:=a2 x hx;omega) a3 [] (F:=F - 1) (by omega)
  rw [kept_eq a3 fun x hx=>(a2 x hx).1] at hk1
  have hkl:=keptR_len a3 l.length
  have hv:=valid_gen l hsm.mid L hL (by omega) (by omega) L.length [] (F:=F - 1) (by omega)
  have hKl:(if (validE l L 1048576).2=0 then keptR l.length (validR l L 1048576) else []).length≤500000:=by
    split
    · omega
    · simp
  have hie:=intsEq_run (if (validE l L 1048576).2=0 then keptR l.length (validR l L 1048576) else []) (by omega) [] (n:=F - 1) (by omega)
  rw [show F - 1+1=F by omega] at hk1 hk2 hv hie
  have hck:=check13_mid (validR l L L.length) b1 (Nat.le_refl _) (n:=F - 38) (by omega) []
  rw [show F - 38+38=F by omega] at hck
  have hon:=once_run (n:=F) (N:=F) (validR l L L.length) (by omega) b3 (by omega)
  have hrE:(validE l L L.length).2≠0→validR l L L.length=[]:=fun h=>by unfold validR;rw [if_neg h]
  generalize (if (validE l L 1048576).2=0 then keptR l.length (validR l L 1048576) else [])=K at *
  generalize validR l L L.length=X at *
  generalize (validE l L L.length).1=a at *
  generalize (validE l L L.length).2=e at *
  have xl:(X.map GRow.pv).length=X.length:=by simp
  by_cases h3:e=0
  rotate_left
  · have e1:(e==0)=false:=by simpa using h3
    have hx0:=hrE h3
    subst hx0
    simp only [List.map_nil] at hv
    simp -implicitDefEqProofs (disch:=omega) only [Rx,simprocAttr,F7,hfr,hfo,hk1,hk2,hie,hv,ll,e1,hsame]
  subst h3
  rw [b4 rfl] at hck
  simp only [Int.natCast_zero] at hon
  simp -implicitDefEqProofs (disch:=omega) only [Rx,simprocAttr,F7,hfr,hfo,hk1,hk2,hie,hv,ll,xl,hon,hck,hsame]
end Go.TA.Tryz


end
section
/- The law ValidKept, for every input of bulk at most 1048576: the call returns true, and nothing that was there has changed. -/
namespace Go.Proofs.YtbgbmdjfogohnaaGreatDoor.validKept
open Go.ChangeShapes Go.WideShapes Go.ChangeAt Go.RowKit Go.TA
theorem own:ownKnob Tryz.prog.godebug=none:=by kernel_rfl
theorem kids:Kids Tryz.prog (· < Tryz.prog.types.size):=kids_rows (by kernel_rfl) (by kernel_rfl)
theorem full:∀ t e,t<Tryz.prog.types.size→Tryz.prog.underlying t=some (.slice e)→0<Tryz.prog.cellsOf e:=slices_full_of Tryz.prog (by kernel_rfl)
theorem bulk {H:Type}:Bulk (H:=H) Rows.uptoBulk Rows.uptoBulkAll where
 str bs:=by simp [Rows.uptoBulk]
 lit l:=by cases l <;> simp [Rows.uptoBulk]
 nil:=by simp [Rows.uptoBulk]
 slice a b:=by simp [Rows.uptoBulk]
 agg a:=by simp [Rows.uptoBulk]
 nilA:=by simp [Rows.uptoBulkAll]
 consA d r:=by simp [Rows.uptoBulkAll]
theorem laidVars_tail {P:Program} {w:World} {x:String × DataW Unit} {r:List (String × DataW Unit)} {ps:List MemPlace} (h:DataW.LaidVars P w (x::r) ps):∃ qs,DataW.LaidVars P w r qs:=by
 obtain ⟨n,d⟩:=x
 obtain ⟨g,t,cs,fuel,p,q,_,_,_,_,hq,_⟩:=h
 exact ⟨q,hq⟩
theorem tab_of_vars {P:Program} {W:World} {name:String} {k:IntKind} {zs:List Int} {rest:List (String × DataW Unit)} {ps:List MemPlace} {g:Nat} {t e:TypeId} {n:Nat}
  (hg:P.globalNamed name=some g) (hty:(P.globals[g]?).map (·.type)=some t) (ht:P.underlying t=some (.array n e)) (he:P.underlying e=some (.int k)) (hce:P.cellsOf e=1) (hct:P.cellsOf t=n)
  (h:DataW.LaidVars P W ((name,Lib.tabData k zs)::rest) ps):Lib.TabIs P W name k zs:=by
 obtain ⟨g',t',cs,fuel,p,q,hg',ht',hvar,hd,_,_⟩:=h
 obtain rfl:=Option.some.inj (hg.symm.trans hg')
 obtain rfl:=Option.some.inj (hty.symm.trans ht')
 unfold Lib.TabIs
 rw [hvar, ← Lib.cells_of_tab ht he hce hct hd]
theorem table {W:World} (h:laidMetH Tryz.prog Rows.validKeptRow.laid W):Lib.TabIs Tryz.prog W "internal/strconv.uint64pow10" .u64 Lib.pow10Tab:=by
 have h':laidMet Tryz.prog Rows.validKeptRow.laid W:=h
 obtain ⟨ps,hv,_⟩:=h'
 obtain ⟨qs,hv⟩:=laidVars_tail hv
 obtain ⟨qs,hv⟩:=laidVars_tail hv
 exact tab_of_vars (g:=0) (t:=288) (e:=238) (n:=20) (rest:=[]) (by kernel_rfl) (by kernel_rfl) (by kernel_rfl) (by kernel_rfl) (by kernel_rfl) (by kernel_rfl) hv
def types:List TypeId:=[22,36,23,40,3,9,34,82]
theorem closed:closedB Tryz.prog 9 types=true:=by decide +kernel
theorem shRows:shOf Tryz.prog 9 22=some [.sl 36]:=by decide +kernel
theorem shRow:shOf Tryz.prog 9 36=some (rowSh 82):=by decide +kernel
theorem shOps:shOf Tryz.prog 9 23=some [.sl 40]:=by decide +kernel
theorem shOp:shOf Tryz.prog 9 40=some (opSh 82):=by decide +kernel
theorem shAttr:shOf Tryz.prog 9 82=some [.str,.str]:=by decide +kernel
theorem params:Tryz.f7.params.toList=[22,23]:=by kernel_rfl
theorem bulk_ops:∀ (L:List GOp),(∀ x ∈ L,bulkL x.pv≤bulkLL (L.map GOp.pv))∧9*L.length≤bulkLL (L.map GOp.pv)
  | []=>by simp [bulkLL]
  | a :: l => by
    obtain ⟨h1,h2⟩:=bulk_ops l
    have:=bulk_op a
    simp only [List.map_cons,bulkLL,List.length_cons]
    refine ⟨fun b hb => ?_,by omega⟩
    rcases List.mem_cons.1 hb with rfl | hb
    · omega
    · have:=h1 b hb;omega
theorem contract (H:Type) (enc:TypeId × Value→H) (W:World) (base:Nat) (args:Array Value) (ds gs:List (DataW H)) (before:List MemPlace)
  (hval:∀ (j:Nat) t v,Tryz.f7.params[j]? = some t→args[j]? = some v→Value.okWide Tryz.prog W .any base t v)
  (hW:DataW.Whole enc Tryz.prog Tryz.f7.params.toList Rows.validKeptSpec.vars false W args.toList ds gs before) (hk:Rows.uptoSmall H (ds++gs)=true) (hL:laidMetH Tryz.prog Rows.validKeptRow.laid W) :
  Calls Tryz.prog 7 args W fun e W'=>∃ v,e = .returned v∧Rows.validKeptSpec.post enc Tryz.prog Tryz.f7 false true false false W args v W':=by
 have hW':=hW
 obtain ⟨p,q,hA,hV,rfl,_,_⟩:=hW'
 obtain ⟨rfl,rfl⟩:=trodVars_none hV
 rw [List.append_nil] at hk
 have hbound:Rows.uptoBulkAll ds≤1048576:=of_decide_eq_true hk
 have hlen:=trod_len hA
 rw [params] at hA hlen
 obtain ⟨pss,h1,h2,h3,h4⟩:=args_rel (gs:=types) (D0:=9) kids full bulk closed hA (by decide) (fun j t v hj hv=>⟨_,_,hval j t v (by rw [← Array.getElem?_toList,params];exact hj) (by simpa using hv)⟩)
 match pss,h1 with
 | [ps1,ps2],h1=>
 obtain ⟨⟨shs1,hs1,hok1⟩,⟨shs2,hs2,hok2⟩,_⟩:=h1
 rw [shRows] at hs1
 rw [shOps] at hs2
 simp only [Option.some.injEq] at hs1 hs2
 subst hs1 hs2
 obtain ⟨xs1,r1,rfl,hx1,hr1⟩:=dec_list shRow hok1
 obtain rfl:=dec_nil hr1
 obtain ⟨l1,rfl,hl1⟩:=dec_rows shAttr hx1
 obtain ⟨xs2,r2,rfl,hx2,hr2⟩:=dec_list shOp hok2
 obtain rfl:=dec_nil hr2
 obtain ⟨l2,rfl,hl2⟩:=dec_ops shAttr hx2
 have hb1:bulkLL (l1.map GRow.pv)<1048577:=by simp only [bulkLL,bulkL,PV.bulk] at h2;omega
 have hb2:bulkLL (l2.map GOp.pv)≤1048575:=by simp only [bulkLL,bulkL,PV.bulk] at h2;omega
 obtain ⟨fuel,hrun⟩:=Go.TA.Tryz.validKept_run l1 l2 (small_rows hb1 (Nat.le_refl _)) (fun x hx=>(Go.TA.Tryz.smallOp_of (n:=1048576) (by have:=(bulk_ops l2).1 x hx;omega) (Nat.le_refl _)).1) (by have:=(bulk_ops l2).2;omega)
 have ha0:aggT Tryz.prog 22=false:=by decide +kernel
 have ha1:aggT Tryz.prog 23=false:=by decide +kernel
 have hargs:argsOf Tryz.prog [22,23] [[.list (l1.map GRow.pv)],[.list (l2.map GOp.pv)]]=[.list (l1.map GRow.pv),.list (l2.map GOp.pv)]:=by simp [argsOf,argOf,ha0,ha1]
 rw [hargs] at h3 h4
 refine (law_calls_at (ΓW_holds (table hL)) Go.TA.Tryz.mixed (Go.TA.Tryz.T_okW W) (ps:=[.list (l1.map GRow.pv),.list (l2.map GOp.pv)]) hrun (by simpa using h3) h4).mono fun e W' ⟨he,hB⟩=>⟨_,he, ?_⟩
 refine law_post kids full hW rfl (tb:=4) rfl (by kernel_rfl) (by rw [params];decide +kernel) ?_ hB
 match ds,hlen with
 | [d1,d2],_=>rfl
def wargs:Array Value := #[.slice none 0 0,.slice none 0 0]
def put (k:IntKind) (zs:List Int):Obj→Obj
 | .cells _ t frozen => .cells (zs.map fun z=>Value.int k z).toArray t frozen
 | o=>o
def bits32:List Int:=[0,1,28,2,29,14,24,3,30,22,20,15,25,17,4,8,31,27,13,23,21,19,16,7,26,12,18,6,11,5,10,9]
def bits64:List Int:=[0,1,56,2,57,49,28,3,61,58,42,50,38,29,17,4,62,47,59,36,45,43,51,22,53,39,33,30,24,18,12,5,63,55,48,27,60,41,37,16,46,35,44,21,52,32,23,11,54,26,40,15,34,20,31,10,25,14,19,9,13,8,7,6]
noncomputable def laidWorld (os:Os):World :=
 { World.holding Tryz.prog os ⟨#[], #[],[]⟩ with heap:=(((World.holding Tryz.prog os ⟨#[], #[],[]⟩).heap.modify 0 (put .u64 Lib.pow10Tab)).modify 2 (put .u8 bits32)).modify 3 (put .u8 bits64) }
theorem laid_met (os:Os):laidMet Tryz.prog Rows.validKeptRow.laid ((laidWorld os).forCall (fun _ _=>0) ⟨#[],wargs,[]⟩).memory :=
 laidMet_of_run' 8 (by kernel_rfl) (by kernel_rfl)
theorem reads (os:Os) {H:Type} (enc:TypeId × Value→H):∃ places,DataW.whole enc Tryz.prog ((laidWorld os).forCall (fun _ _=>0) ⟨#[],wargs,[]⟩).memory Tryz.f7.params.toList Rows.validKeptSpec.vars false wargs.toList 8=some ([.nil,.nil],[],places) :=
 ⟨[],by kernel_rfl⟩
theorem liftedUpto (os:Os) (started:os.Started) (H:Type) (enc:TypeId × Value→H) (F:Stop.Interp) :
  ReturnsInHanded {} Tryz.checked os 7 .any ((Rows.OpenSpec.upto Rows.validKeptSpec).preRow enc Tryz.prog Tryz.f7 Rows.validKeptUptoRow.domain false Rows.validKeptUptoRow.laid) (((Rows.OpenSpec.upto Rows.validKeptSpec).at F).post enc Tryz.prog Tryz.f7 false true false false):=by
 obtain ⟨places,hx⟩:=reads os enc
 refine returnsInHanded_of_row (C:=Tryz.checked) (s:=Rows.OpenSpec.upto Rows.validKeptSpec) own started (by kernel_rfl) Tryz.func7
  (witness_row_at (enc:=enc) (C:=Tryz.checked) false (laidWorld os) wargs rfl (by kernel_rfl) (by kernel_rfl) (by kernel_rfl)
   (OpenSpec.preRow_of_cond 8 hx (by kernel_rfl) (fun k hk=>by cases hk;kernel_rfl) (by kernel_rfl) (laid_met os))) ?_
 intro W base args ds gs before hval hW _ hcond _ hL _ _
 exact contract H enc W base args ds gs before hval hW (hcond _ rfl) hL
theorem saidUpto:Rows.ValidKeptUptoSaid :=
 OpenClaim.holds_of_cond 7 Tryz.f7 rfl rfl rfl rfl rfl rfl rfl ⟨rfl,rfl,rfl,rfl,rfl⟩ rfl rfl rfl rfl rfl (by kernel_rfl) Tryz.func7 (by kernel_rfl)
  (of_decide_eq_true (by kernel_rfl)) (by unfold Func.isWrapper;first | (rw [if_pos (by decide +kernel)];kernel_rfl) | (rw [if_neg (by decide +kernel)];exact ⟨rfl,rfl⟩))
  (fun os started H enc _ F=>by rw [OpenClaim.pre_eq_preRow];exact liftedUpto os started H enc F)
theorem plain (f:FuncId) (fn:Func) (hf:Tryz.pinned.checked.prog.funcNamed "tendril/tendrillaw28.ValidKept" = some f) (hfn:Tryz.pinned.checked.prog.funcs[f]? = some fn) :
  false=Tryz.pinned.checked.prog.looks []∧∀ (j:Nat) t,fn.params[j]? = some t→Tryz.pinned.checked.prog.wantsStandIn t=false:=by
 obtain rfl:f=7:=Option.some.inj ((show Tryz.prog.funcNamed "tendril/tendrillaw28.ValidKept" = some 7 by kernel_rfl).symm.trans hf) |>.symm
 obtain rfl:fn=Tryz.f7:=(Option.some.inj (Tryz.func7.symm.trans hfn)).symm
 refine ⟨by kernel_rfl,fun j t ht => ?_⟩
 have hm:t ∈ [22,23]:=by
  rw [← params]
  exact Array.mem_toList_iff.2 (Array.mem_of_getElem? ht)
 have hall:[22,23].all (fun t=>Tryz.prog.wantsStandIn t==false)=true:=by kernel_rfl
 exact beq_iff_eq.1 (List.all_eq_true.1 hall t hm)
theorem holds:Rows.ValidKeptUptoCardSaid :=
 Claim7.holds_tied_plain_at .later [] _ _ _ _ saidUpto (fun _ h=>by cases h) (by kernel_rfl) (fun _ h=>by cases h) validKeptUpto_row_tie rfl ⟨rfl,rfl⟩ (by kernel_rfl) rfl plain (by kernel_rfl)
end Go.Proofs.YtbgbmdjfogohnaaGreatDoor.validKept


end
