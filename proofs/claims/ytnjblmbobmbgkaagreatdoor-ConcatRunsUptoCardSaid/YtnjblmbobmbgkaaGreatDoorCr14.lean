/- Part 14 of 16 of a proof; joined from CruMLoose, CruRAt, CruRIns, CruRRead, CruRLoose, CruEndG, CruFirstG, CruPNew, CruRunsNew, CruRMove, CruRRem, CruRWith. Attributes with one more, or without one: the document's answer. -/
import Derived.Test.YtnjblmbobmbgkaaGreatDoorCr1
import Derived.Test.YtnjblmbobmbgkaaGreatDoorCr12
import Derived.Test.YtnjblmbobmbgkaaGreatDoorCr11
import Derived.Test.YtnjblmbobmbgkaaGreatDoorCr7
import Derived.Test.YtnjblmbobmbgkaaGreatDoorCr10
import Derived.Test.YtnjblmbobmbgkaaGreatDoorCr13
import Derived.Test.YtnjblmbobmbgkaaGreatDoorCr6
set_option linter.unusedSimpArgs false
set_option linter.unusedVariables false
section
/- The machine's loose tops, read. -/
set_option maxRecDepth 100000
set_option maxHeartbeats 8000000
namespace Go.TA.Tryz
def looB (S:MS) (h:Nat):Bool:=(S.st h).live && (!(h==0) && decide ((S.st h).up<0))
theorem g5d (S:MS):b3s S=((List.range S.N).filter (looB S)).map fun h:Nat=>(h:Int):=by
 unfold b3s b0h
 rw [List.filter_filter]
 congr 1
 apply List.filter_congr
 intro h _
 simp [looB,Bool.and_comm]
theorem d1u (S:MS):(b3s S).length≤S.N:=by
 have h1:=c8x S
 have h2:=List.length_filter_le (fun h:Nat => !(h==0) && decide ((S.st h).up<0)) (b0h S)
 simp only [b3s,List.length_map]
 omega
theorem h0m (S : MS) (hN : S.N ≤ 4194304) (av : Nat → AV) (rest : List AObj) (hM : MOk S.N av S.kd rest) {n : Nat} (hn : S.N < n) :
    b0g T (n+1) 17 [MP] (b0q S.N S.st av rest)=some (.own true (rest.length+1+1) (b3s S).length,b0q S.N S.st av (rest++[.pcells 1 (b0i (b3s S))])):=by
  have len1:(b0y S.N S.st av).length=S.N:=b2o
  have hlast:∀ X:AObj,(rest++[X])[rest.length]? = some X:=fun X=>by simp
  have hsetX:∀ X Y:AObj,(rest++[X]).set rest.length Y=rest++[Y]:=fun X Y=>by simp [List.set_append]
  rw [g5d]
  generalize hacc:(fun i:Nat=>((List.range i).filter (looB S)).map fun h:Nat=>(h:Int))=acc
  have hal:∀ i,i≤S.N→(acc i).length≤4194304:=fun i hi=>by
    rw [← hacc];simp only [List.length_map]
    have h3:=List.length_filter_le (looB S) (List.range i)
    rw [List.length_range] at h3
    omega
  have key:=b1n (C:=b0g T n) (N:=n) (B:=g1m) (σ := Nat) (S:=fun i=>⟨[(3,.own true (rest.length+1+1) (acc i).length),(12,.own true 0 S.N),(13,.p (.int .i64 S.N)),(14,.p (.int .i64 i))],[],b0q S.N S.st av (rest++[.pcells 1 (b0i (acc i))])⟩)
    (I:=fun i=>i≤S.N) (μ := fun i=>S.N - i) (Q:=fun r=>r=(.exit 0,⟨[(3,.own true (rest.length+1+1) (acc S.N).length)],[],b0q S.N S.st av (rest++[.pcells 1 (b0i (acc S.N))])⟩)) ?_ 0 (by omega) (by omega)
  · obtain ⟨r,hr,rfl⟩:=key
    have e0:acc 0=[]:=by rw [← hacc];simp
    have e1:acc S.N=((List.range S.N).filter (looB S)).map fun h:Nat=>(h:Int):=by rw [← hacc]
    rw [e0,e1] at hr
    generalize ((List.range S.N).filter (looB S)).map (fun h:Nat=>(h:Int))=l1 at hr ⊢
    simp only [List.length_nil,Int.natCast_zero,show b0i []=[] from rfl] at hr
    rw [b0a T17,b0f rfl rfl]
    simp only [b0q] at hr ⊢
    simp -implicitDefEqProofs (disch:=omega) only [Rx,simprocAttr,F17,hr]
  intro i hi
  by_cases h1:i<S.N
  · left
    have k1:(i:Int)<(S.N:Int):=by omega
    have hg:(b0y S.N S.st av).getD i []=b1v (S.st i) (av i):=b2e h1
    have hs:acc (i+1)=acc i++if looB S i=true then [(i:Int)] else []:=by
      rw [← hacc]
      simp only
      rw [List.range_succ,List.filter_append,List.map_append]
      congr 1
      simp only [List.filter_cons,List.filter_nil]
      split <;> rfl
    have hll:=hal i hi
    have il:=b0w (acc i)
    refine ⟨i+1, ?_,by omega,by omega⟩
    rw [hs]
    simp only [b1v] at hg
    by_cases e0:i=0
    · subst e0
      have ep:looB S 0=false:=by simp [looB]
      rw [ep]
      simp only [Bool.false_eq_true,if_false,List.append_nil]
      have e1:¬ (0:Int)<((0:Nat):Int):=by omega
      have k1':(0:Int)<(S.N:Int):=by omega
      generalize acc 0=a0 at hll il
      rcases (hM.kids 0 h1).inv with ⟨hav,_⟩ | ⟨r,hav,_⟩ | hav
      all_goals
        simp only [hav] at hg
        simp only [b0q] at ⊢
        simp -implicitDefEqProofs (disch:=omega) only [Rx,simprocAttr,g1m,k1',hg,len1,Int.natCast_zero,Int.zero_add]
    · have e1:(0:Int)<(i:Int):=by omega
      have e2:(i==0)=false:=by simpa using e0
      cases hlv:(S.st i).live with
      | false =>
        have ep:looB S i=false:=by simp [looB,hlv]
        rw [ep]
        simp only [Bool.false_eq_true,if_false,List.append_nil]
        rw [hlv] at hg
        generalize acc i=a0 at hll il
        rcases (hM.kids i h1).inv with ⟨hav,_⟩ | ⟨r,hav,_⟩ | hav
        all_goals
          simp only [hav] at hg
          simp only [b0q] at ⊢
          simp -implicitDefEqProofs (disch:=omega) only [Rx,simprocAttr,g1m,k1,hg,len1,e1]
      | true =>
        rw [hlv] at hg
        by_cases eu:(S.st i).up<0
        · have ep:looB S i=true:=by simp [looB,hlv,eu,e0]
          rw [ep,if_pos rfl]
          have os1:=b3v (acc i) (i:Int)
          have ol1:(b0i (acc i++[(i:Int)])).length=(acc i).length+1:=by rw [b0w,List.length_append];rfl
          have ol3:(acc i++[(i:Int)]).length=(acc i).length+1:=by rw [List.length_append];rfl
          rw [ol3]
          generalize acc i++[(i:Int)]=acc1 at os1 ol1
          generalize acc i=a0 at hll il os1 ol1
          rcases (hM.kids i h1).inv with ⟨hav,_⟩ | ⟨r,hav,_⟩ | hav
          all_goals
            simp only [hav] at hg
            simp only [b0q] at ⊢
            simp -implicitDefEqProofs (disch:=omega) only [Rx,simprocAttr,g1m,k1,hg,len1,e1,eu,hlast,hsetX,il,os1,ol1]
        · have ep:looB S i=false:=by simp [looB,eu]
          rw [ep]
          simp only [Bool.false_eq_true,if_false,List.append_nil]
          generalize acc i=a0 at hll il
          rcases (hM.kids i h1).inv with ⟨hav,_⟩ | ⟨r,hav,_⟩ | hav
          all_goals
            simp only [hav] at hg
            simp only [b0q] at ⊢
            simp -implicitDefEqProofs (disch:=omega) only [Rx,simprocAttr,g1m,k1,hg,len1,e1,eu]
  · right
    obtain rfl:i=S.N:=by omega
    have k1:¬ (S.N:Int)<(S.N:Int):=by omega
    refine ⟨_, ?_, ?_,rfl⟩
    · simp -implicitDefEqProofs (disch:=omega) only [Rx,simprocAttr,g1m,k1]
    · simp
end Go.TA.Tryz


end
section
/- The document's answer: where a node lies, is there one, is it below another one; rows of kids. -/
set_option maxRecDepth 100000
set_option maxHeartbeats 8000000
namespace Go.TA.Tryz
section
variable {L:List Nat} {st:Nat→b3j} {kd:Nat→List Int} {nx:Int} {av:Nat→AV} {p q:Nat} {g:List AObj}
theorem b3y {o:AObj} (hr:b3t 7 (b3f L st av) o) {i c:Nat} (hi:L[i]? = some c) {j:Nat} (hj:j+1≤7):o.rd 1 L.length i j 7 false=some ((nAV c (st c) (av c)).getD j .bot) :=
 hr.rd1 b1y (List.getElem?_eq_some_iff.1 hi).1 (c3k hi) rfl hj
theorem c0z (hD : DC L st nx av p q g) (hL : L.length ≤ 4194304) (id : Int) {n : Nat} (hn : L.length < n) :
    b0g T (n+1) 80 [DP p,.p (.int .i64 id)] g=some (.p (.int .i64 (posL L id)),g):=by
  obtain ⟨o,ho,hrep⟩:=hD.row
  have hob:=hD.obj
  have hix:=fun s i=>hrep.idx b1y s true q i
  have key:=b1n (C:=b0g T n) (N:=n) (B:=h3g) (σ := Nat) (S:=fun i=>⟨[(0,DP p),(1,.p (.int .i64 id)),(10,.p (.int .i64 L.length)),(11,.p (.int .i64 i))],[],g⟩)
    (I:=fun i=>i≤L.length∧i≤L.findIdx (fun h:Nat=>(h:Int)==id)) (μ := fun i=>L.length - i) (Q:=fun r=>r=if L.findIdx (fun h:Nat=>(h:Int)==id)<L.length then (.ret,⟨[(4,.p (.int .i64 (L.findIdx (fun h:Nat=>(h:Int)==id))))],[],g⟩) else (.exit 0,⟨[],[],g⟩)) ?_ 0 ⟨by omega,by omega⟩ (by omega)
  · obtain ⟨r,hq,rfl⟩:=key
    simp only [Int.natCast_zero] at hq
    unfold posL
    rw [b0a T80,b0f rfl rfl]
    by_cases hc:L.findIdx (fun h:Nat=>(h:Int)==id)<L.length
    · rw [if_pos hc] at hq
      rw [if_pos hc]
      simp -implicitDefEqProofs (disch:=omega) only [Rx,simprocAttr,F80,hob,hq]
    · rw [if_neg hc] at hq
      rw [if_neg hc]
      simp -implicitDefEqProofs (disch:=omega) only [Rx,simprocAttr,F80,hob,hq]
  rintro i ⟨h1,h2⟩
  by_cases hi:i<L.length
  · have k1:(i:Int)<(L.length:Int):=by omega
    obtain ⟨c,hc⟩:=b0p hi
    have hrd:=b3y hrep hc (j:=0) (by omega)
    simp only [nAV] at hrd
    by_cases e:i=L.findIdx (fun h:Nat=>(h:Int)==id)
    · right
      have hp:((c:Int)==id)=true:=by
        have:=List.findIdx_getElem (xs:=L) (p:=fun h:Nat=>(h:Int)==id) (w:=by omega)
        have e2:=(List.getElem?_eq_some_iff.1 hc).2
        simp only [← e] at this
        rw [e2] at this
        exact this
      refine ⟨_, ?_, ?_,rfl⟩
      · rw [if_pos (by omega), ← e]
        simp -implicitDefEqProofs (disch:=omega) only [Rx,simprocAttr,h3g,k1,hob,ho,hix,hrd,hp]
      · rw [if_pos (by omega)];simp
    · left
      have hp:((c:Int)==id)=false:=by
        have:=List.not_of_lt_findIdx (xs:=L) (p:=fun h:Nat=>(h:Int)==id) (i:=i) (by omega)
        have e2:=(List.getElem?_eq_some_iff.1 hc).2
        rw [e2] at this
        simpa using this
      refine ⟨i+1, ?_,⟨by omega,by omega⟩,by omega⟩
      simp -implicitDefEqProofs (disch:=omega) only [Rx,simprocAttr,h3g,k1,hob,ho,hix,hrd,hp]
  · right
    obtain rfl:i=L.length:=by omega
    have k1:¬ (L.length:Int)<(L.length:Int):=by omega
    refine ⟨_, ?_, ?_,rfl⟩
    · rw [if_neg (by omega)]
      simp -implicitDefEqProofs (disch:=omega) only [Rx,simprocAttr,h3g,k1]
    · rw [if_neg (by omega)];simp
theorem c8z (hD:DC L st nx av p q g) (hL:L.length≤4194304) {c:Nat} (hc:c ∈ L) (ks:List (List PV)) {n:Nat} (hn:L.length<n) :
  ∃ o',b0g T (n+2) 114 [DP p,.p (.int .i64 c),.p (.list ks)] g=some (.tuple [],g.set q o')∧b3t 7 (b3f L st (upd av c (.p (.list ks)))) o':=by
 obtain ⟨o,ho,hrep⟩:=hD.row
 have hob:=hD.obj
 have hix:=fun s i=>hrep.idx b1y s true q i
 obtain ⟨i,hpos,hi⟩:=b4h hc
 have hil:=(List.getElem?_eq_some_iff.1 hi).1
 have hat:=c0z hD hL (c:Int) (n:=n) hn
 rw [hpos] at hat
 have k1:(i:Int)<(L.length:Int):=by omega
 obtain ⟨o',hw,hr'⟩:=c4y hrep hi (j:=2) (by omega) (.p (.list ks))
 rw [c8b hD.nodup hi] at hr'
 refine ⟨o', ?_,hr'⟩
 rw [b0a T114,b0f rfl rfl]
 simp -implicitDefEqProofs (disch:=omega) only [Rx,simprocAttr,F114,hob,ho,hix,hat,hw]
end
section
variable {S:MS} {nx:Int} {av:Nat→AV} {p q:Nat} {g:List AObj}
theorem b8t (hD:DC (b0h S) S.st nx av p q g) (hL:(b0h S).length≤4194304) (id:Int) {n:Nat} (hn:(b0h S).length<n) :
  b0g T (n+2) 112 [DP p,.p (.int .i64 id)] g=some (.p (.int .i64 (fitE S id)),g):=by
 have hat:=c0z hD hL id (n:=n) hn
 rw [b0a T112,b0f rfl rfl]
 by_cases h0:id=0
 ·have e:(id==0)=true:=by simpa using h0
  simp -implicitDefEqProofs (disch:=omega) only [Rx,simprocAttr,F112,fitE,h0]
 have e:(id==0)=false:=by simpa using h0
 cases hv:b1i S id
 ·rw [c3p hv] at hat
  simp -implicitDefEqProofs (disch:=omega) only [Rx,simprocAttr,F112,fitE,h0,e,hat,hv]
 ·obtain ⟨c,rfl,hc⟩:=b7n hv
  obtain ⟨i,hpos,_⟩:=b4h hc
  rw [hpos] at hat
  have k0:¬ (i:Int)<0:=by omega
  simp -implicitDefEqProofs (disch:=omega) only [Rx,simprocAttr,F112,fitE,h0,e,hat,hv,k0]
theorem d8y {R : Nat} (hS : S.Ok R) (hD : DC (b0h S) S.st nx av p q g) (hL : (b0h S).length ≤ 4194304) (t : Nat) {n : Nat} (hn : (b0h S).length < n) (N : Nat) (hN : R + 3 < N) (h : Nat) (hh : h ∈ b0h S) :
    b0s (b0g T (n+1)) N (.loop d2s) ⟨[(0,DP p),(1,.p (.int .i64 h)),(2,.p (.int .i64 t))],[],g⟩=some (if b2s S (h:Int) (t:Int)=true then (.ret,⟨[(6,.p (.bool true))],[],g⟩) else (.exit 0,⟨[],[],g⟩)):=by
  obtain ⟨r,hr1,hr2⟩:=hS.rank
  obtain ⟨o,ho,hrep⟩:=hD.row
  have hob:=hD.obj
  have hix:=fun s i=>hrep.idx b1y s true q i
  have hhN:=(b1m.1 hh).1
  have key:=b1n (C:=b0g T (n+1)) (N:=N) (B:=d2s) (σ := Int) (S:=fun y=>⟨[(0,DP p),(1,.p (.int .i64 y)),(2,.p (.int .i64 t))],[],g⟩)
    (I:=fun y=>(y = -1∨∃ c:Nat,y=(c:Int)∧c ∈ b0h S)∧(Below S (t:Int) (h:Int)↔Below S (t:Int) y)) (μ := fun y=>if y<0 then 0 else r y.toNat+1)
    (Q:=fun z=>z=(if b2s S (h:Int) (t:Int)=true then (.ret,⟨[(6,.p (.bool true))],[],g⟩) else (.exit 0,⟨[],[],g⟩))) ?_ (h:Int) ⟨.inr ⟨h,rfl,hh⟩,Iff.rfl⟩ (by
      have:=hr1 h hhN
      simp only [Int.toNat_natCast]
      split <;> omega)
  · obtain ⟨z,hz,rfl⟩:=key
    exact hz
  rintro y ⟨hy,hb⟩
  rcases hy with rfl | ⟨c,rfl,hc⟩
  · right
    have hf:¬ Below S (t:Int) (h:Int):=fun z=>c0x (by omega) (hb.1 z)
    refine ⟨_, ?_, ?_,rfl⟩
    · rw [if_neg (fun z=>hf (b2x.1 z))]
      simp -implicitDefEqProofs (disch:=omega) only [Rx,simprocAttr,d2s]
    · rw [if_neg (fun z=>hf (b2x.1 z))];simp
  have hcN:=(b1m.1 hc).1
  by_cases e:c=t
  · subst e
    right
    have hf:Below S (c:Int) (h:Int):=hb.2 .here
    refine ⟨_, ?_, ?_,rfl⟩
    · rw [if_pos (b2x.2 hf)]
      have k0:(0:Int)≤(c:Int):=by omega
      simp -implicitDefEqProofs (disch:=omega) only [Rx,simprocAttr,d2s,k0]
    · rw [if_pos (b2x.2 hf)];simp
  · left
    have e1:((c:Int)==(t:Int))=false:=by simp;omega
    have k0:(0:Int)≤(c:Int):=by omega
    obtain ⟨i,hpos,hi⟩:=b4h hc
    have hil:=(List.getElem?_eq_some_iff.1 hi).1
    have k1:(i:Int)<((b0h S).length:Int):=by omega
    have hat:=c0z hD hL (c:Int) (n:=n) hn
    rw [hpos] at hat
    have hrd:=b3y hrep hi (j:=1) (by omega)
    simp only [nAV] at hrd
    refine ⟨(S.st c).up, ?_,⟨?_, ?_⟩, ?_⟩
    · simp -implicitDefEqProofs (disch:=omega) only [Rx,simprocAttr,d2s,k0,e1,hob,ho,hix,hat,hrd]
    · rcases hS.up c hcN with h1 | ⟨p,h1,h2,h3,_⟩
      · exact .inl h1
      · exact .inr ⟨p,h2,b1m.2 ⟨h1,h3⟩⟩
    · rw [hb,c0y (by omega) (by omega)];rfl
    · have e2:¬ (c:Int)<0:=by omega
      simp only [Int.toNat_natCast,e2,if_false]
      rcases hS.up c hcN with h1 | ⟨p,h1,h2,_⟩
      · rw [h1];simp
      · have:=hr2 c p hcN h2
        rw [h2,Int.toNat_natCast]
        split <;> omega
theorem d0w {R:Nat} (hS:S.Ok R) (hD:DC (b0h S) S.st nx av p q g) (hL:(b0h S).length≤4194304) (t h:Nat) (hh:h ∈ b0h S) {n:Nat} (hn:(b0h S).length<n) (hR:R+3<n):b0g T (n+2) 113 [DP p,.p (.int .i64 h),.p (.int .i64 t)] g=some (.p (.bool (b2s S h t)),g):=by
 rw [b0a T113,b0f rfl rfl]
 have hl:=d8y hS hD hL t (n:=n) hn (n+1) (by omega) h hh
 by_cases hb:Below S (t:Int) (h:Int)
 ·have e:b2s S h t=true:=by simp [b2s,hb]
  rw [if_pos e] at hl
  simp -implicitDefEqProofs (disch:=omega) only [Rx,simprocAttr,F113,hl,e]
 ·have e:b2s S h t=false:=by simp [b2s,hb]
  rw [if_neg (by rw [e];simp)] at hl
  simp -implicitDefEqProofs (disch:=omega) only [Rx,simprocAttr,F113,hl,e]
end
theorem h7p (l:List Int) (h b:Int) (hl:l.length≤4194304) (g:List AObj) {n:Nat} (hn:l.length<n) :
  b0g T (n+1) 115 [.p (.list (b0i l)),.p (.int .i64 h),.p (.int .i64 b)] g=some (.p (.list (b0i (inL l h b))),g):=by
 have il:=b0w l
 generalize hf:(fun k:Int=>if k=b then [h,k] else [k])=f
 have hlen:∀ i,((l.take i).flatMap f).length≤2*l.length:=fun i=>by
  have:=j1r (l.take i) h b
  rw [hf] at this
  have h2:(l.take i).length≤l.length:=by rw [List.length_take];omega
  omega
 have key:=b1n (C:=b0g T n) (N:=n) (B:=d8s) (σ := Nat) (S:=fun i=>⟨[(0,.p (.list (b0i l))),(1,.p (.int .i64 h)),(2,.p (.int .i64 b)),(7,.own false 1000 ((l.take i).flatMap f).length),(10,.p (.int .i64 l.length)),(11,.p (.int .i64 i))],[(1000,.pcells 1 (b0i ((l.take i).flatMap f)))],[]⟩)
  (I:=fun i=>i≤l.length) (μ := fun i=>l.length - i) (Q:=fun r=>r=(.exit 0,⟨[(1,.p (.int .i64 h)),(2,.p (.int .i64 b)),(7,.own false 1000 (l.flatMap f).length)],[(1000,.pcells 1 (b0i (l.flatMap f)))],[]⟩)) ?_ 0 (by omega) (by omega)
 ·obtain ⟨r,hq,rfl⟩:=key
  have il2:=b0w (l.flatMap f)
  have hll:=hlen l.length
  rw [List.take_length] at hll
  simp only [List.take_zero,List.flatMap_nil,List.length_nil,Int.natCast_zero,show b0i []=[] from rfl] at hq
  have hres:inL l h b=l.flatMap f++if b=0 then [h] else []:=by rw [inL, ← hf]
  rw [hres]
  generalize l.flatMap f=acc at hq il2 hll
  rw [b0a T115,run_pure rfl rfl rfl]
  by_cases hb:b=0
  ·have e:(b==0)=true:=by simpa using hb
   rw [if_pos hb]
   have os:=b3v acc h
   have ol:=b0w (acc++[h])
   rw [List.length_append] at ol
   generalize acc++[h]=acc' at os ol ⊢
   simp -implicitDefEqProofs (disch:=omega) only [Rx,simprocAttr,F115,hq,il,il2,e,os,ol]
  ·have e:(b==0)=false:=by simpa using hb
   rw [if_neg hb,List.append_nil]
   simp -implicitDefEqProofs (disch:=omega) only [Rx,simprocAttr,F115,hq,il,il2,e]
 intro i hi
 by_cases h1:i<l.length
 ·left
  obtain ⟨x,hx⟩:∃ x,l[i]? = some x:=⟨_,List.getElem?_eq_getElem h1⟩
  have k1:(i:Int)<(l.length:Int):=by omega
  have hg:=b4o hx
  have hs:=g5n (f:=f) hx
  have hll:=hlen i
  refine ⟨i+1, ?_,by omega,by omega⟩
  rw [hs]
  generalize (l.take i).flatMap f=acc at hll
  have il2:=b0w acc
  by_cases e:x=b
  ·have e1:(x==b)=true:=by simpa using e
   have hfx:f x=[h,x]:=by rw [← hf];simp [e]
   rw [hfx]
   have os1:=b3v acc h
   have os2:=b3v (acc++[h]) x
   have ol1:(b0i (acc++[h])).length=acc.length+1:=by rw [b0w,List.length_append];rfl
   have ol2:(b0i (acc++[h,x])).length=acc.length+1+1:=by rw [b0w,List.length_append];rfl
   have ol3:(acc++[h,x]).length=acc.length+1+1:=by rw [List.length_append];rfl
   have oe:acc++[h]++[x]=acc++[h,x]:=by simp
   rw [oe] at os2
   rw [ol3]
   generalize acc++[h,x]=acc2 at os2 ol2
   generalize acc++[h]=acc1 at os1 os2 ol1
   simp -implicitDefEqProofs (disch:=omega) only [Rx,simprocAttr,d8s,k1,hg,il,il2,e1,os1,os2,ol1,ol2]
  ·have e1:(x==b)=false:=by simpa using e
   have hfx:f x=[x]:=by rw [← hf];simp [e]
   rw [hfx]
   have os1:=b3v acc x
   have ol1:(b0i (acc++[x])).length=acc.length+1:=by rw [b0w,List.length_append];rfl
   have ol3:(acc++[x]).length=acc.length+1:=by rw [List.length_append];rfl
   rw [ol3]
   generalize acc++[x]=acc1 at os1 ol1
   simp -implicitDefEqProofs (disch:=omega) only [Rx,simprocAttr,d8s,k1,hg,il,il2,e1,os1,ol1]
 ·right
  obtain rfl:i=l.length:=by omega
  have k1:¬ (l.length:Int)<(l.length:Int):=by omega
  refine ⟨_, ?_, ?_,rfl⟩
  ·rw [List.take_length]
   simp -implicitDefEqProofs (disch:=omega) only [Rx,simprocAttr,d8s,k1]
  ·simp
theorem g9m (l:List Int) (h:Int) (hl:l.length≤8388610) (g:List AObj) {n:Nat} (hn:l.length<n) :
  b0g T (n+1) 116 [.p (.list (b0i l)),.p (.int .i64 h)] g=some (.p (.list (b0i (l.filter fun k => !(k==h)))),g):=by
 have il:=b0w l
 generalize hf:(fun k:Int => !(k==h))=f
 have hlen:∀ i,((l.take i).filter f).length≤l.length:=fun i=>by
  have:=List.length_filter_le f (l.take i)
  have h2:(l.take i).length≤l.length:=by rw [List.length_take];omega
  omega
 have key:=b1n (C:=b0g T n) (N:=n) (B:=d8r) (σ := Nat) (S:=fun i=>⟨[(0,.p (.list (b0i l))),(1,.p (.int .i64 h)),(5,.own false 1000 ((l.take i).filter f).length),(8,.p (.int .i64 l.length)),(9,.p (.int .i64 i))],[(1000,.pcells 1 (b0i ((l.take i).filter f)))],[]⟩)
  (I:=fun i=>i≤l.length) (μ := fun i=>l.length - i) (Q:=fun r=>r=(.exit 0,⟨[(5,.own false 1000 (l.filter f).length)],[(1000,.pcells 1 (b0i (l.filter f)))],[]⟩)) ?_ 0 (by omega) (by omega)
 ·obtain ⟨r,hq,rfl⟩:=key
  have il2:=b0w (l.filter f)
  simp only [List.take_zero,List.filter_nil,List.length_nil,Int.natCast_zero,show b0i []=[] from rfl] at hq
  generalize l.filter f=acc at hq il2
  rw [b0a T116,run_pure rfl rfl rfl]
  simp -implicitDefEqProofs (disch:=omega) only [Rx,simprocAttr,F116,hq,il,il2]
 intro i hi
 by_cases h1:i<l.length
 ·left
  obtain ⟨x,hx⟩:∃ x,l[i]? = some x:=⟨_,List.getElem?_eq_getElem h1⟩
  have k1:(i:Int)<(l.length:Int):=by omega
  have hg:=b4o hx
  have hs:(l.take (i+1)).filter f=(l.take i).filter f++if f x=true then [x] else []:=by
   rw [List.take_add_one,hx,List.filter_append]
   simp [List.filter_cons]
  have hll:=hlen i
  refine ⟨i+1, ?_,by omega,by omega⟩
  rw [hs]
  generalize (l.take i).filter f=acc at hll
  have il2:=b0w acc
  by_cases e:x=h
  ·have e1:(x==h)=true:=by simpa using e
   have hfx:f x=false:=by rw [← hf];simp [e]
   rw [hfx]
   simp only [Bool.false_eq_true,if_false,List.append_nil]
   simp -implicitDefEqProofs (disch:=omega) only [Rx,simprocAttr,d8r,k1,hg,il,e1]
  ·have e1:(x==h)=false:=by simpa using e
   have hfx:f x=true:=by rw [← hf];simp [e]
   rw [hfx,if_pos rfl]
   have os1:=b3v acc x
   have ol1:(b0i (acc++[x])).length=acc.length+1:=by rw [b0w,List.length_append];rfl
   have ol3:(acc++[x]).length=acc.length+1:=by rw [List.length_append];rfl
   rw [ol3]
   generalize acc++[x]=acc1 at os1 ol1
   simp -implicitDefEqProofs (disch:=omega) only [Rx,simprocAttr,d8r,k1,hg,il,il2,e1,os1,ol1]
 ·right
  obtain rfl:i=l.length:=by omega
  have k1:¬ (l.length:Int)<(l.length:Int):=by omega
  refine ⟨_, ?_, ?_,rfl⟩
  ·rw [List.take_length]
   simp -implicitDefEqProofs (disch:=omega) only [Rx,simprocAttr,d8r,k1]
  ·simp
end Go.TA.Tryz


end
section
/- The document's answer: a node is put below another one, or elsewhere. -/
set_option maxRecDepth 100000
set_option maxHeartbeats 8000000
namespace Go.TA
theorem d6j {α : Type} [BEq α] [LawfulBEq α]:∀ {l m:List α},l.Nodup→(∀ x ∈ l,x ∈ m)→l.length≤m.length
  | [],m,_,_=>by simp
  | a :: l, m, hn, h => by
    rw [List.nodup_cons] at hn
    have:=d6j (l:=l) (m:=m.erase a) hn.2 (fun x hx=>by
      have hne:x≠a:=fun e=>hn.1 (e ▸ hx)
      exact (List.mem_erase_of_ne hne).2 (h x (by simp [hx])))
    rw [List.length_erase_of_mem (h a (by simp))] at this
    have hp:0<m.length:=List.length_pos_of_mem (h a (by simp))
    rw [List.length_cons];omega
section
variable {R:Nat} {S:MS}
theorem g2y (hS:S.Ok R) {u:Nat} (hu:u<S.N):(S.kd u).length≤(b0h S).length:=by
 have:=d6j (m:=(b0h S).map fun c:Nat=>(c:Int)) (hS.nodup u hu) (fun k hk=>by
  obtain ⟨c,rfl,hc,hl,_⟩:=hS.kids u hu k hk
  exact List.mem_map.2 ⟨c,b1m.2 ⟨hc,hl⟩,rfl⟩)
 rwa [List.length_map] at this
theorem g1q (hS:S.Ok R) {u:Nat} (hu:u<S.N):(0:Int) ∉ S.kd u:=fun h=>by
 obtain ⟨c,e,_,_,h2⟩:=hS.kids u hu _ h
 have:c=0:=by omega
 subst this
 have:=hS.top.2
 omega
theorem c2w {S':MS} (hN:S.N=S'.N) (h:∀ k,(S.st k).live=(S'.st k).live):b0h S=b0h S':=by
 unfold b0h
 rw [hN]
 congr 1
 funext k
 exact h k
end
theorem DM.congr {L:List Nat} {st st':Nat→b3j} {kd kd':Nat→List Int} {nx:Int} {av:Nat→AV} {p q:Nat} {g:List AObj} (h:DM L st kd nx av p q g) (hs:∀ k ∈ L,st k=st' k∧kd k=kd' k):DM L st' kd' nx av p q g where
 core:=⟨h.core.obj,by
  obtain ⟨o,h1,h2⟩:=h.core.row
  exact ⟨o,h1,by rwa [c2j (st':=st') (av':=av) (fun k hk=>⟨(hs k hk).1,rfl⟩)] at h2⟩,h.core.pq,h.core.nodup⟩
 kids k hk:=by rw [← (hs k hk).2];exact h.kids k hk
 away:=h.away
 disj:=h.disj
noncomputable def b6z (S:MS) (id up b:Int):Int × MS :=
 if fitE S id≠0 then (fitE S id,S)
 else if (b1i S up && b1i S b)=false then (13,S)
 else if 0≤upOf S id then (15,S)
 else if b2s S up id=true then (17,S)
 else if b≠0∧upOf S b≠up then (18,S)
 else (0,b2f S id.toNat up.toNat b)
def c6y (S:MS) (id b:Int):Int × MS :=
 if fitE S id≠0 then (fitE S id,S)
 else if b1i S b=false then (13,S)
 else if upOf S id<0 then (16,S)
 else if b=id∨(b≠0∧upOf S b≠upOf S id) then (18,S)
 else (0,b2f (b2c S id.toNat) id.toNat (upOf S id).toNat b)
theorem c1k {S:MS} {id:Int} (h:¬ fitE S id≠0):∃ c:Nat,id=(c:Int)∧c ∈ b0h S∧0<c:=by
 unfold fitE at h
 split at h
 ·omega
 ·split at h
  ·rename_i h0 hl
   obtain ⟨c,rfl,hc⟩:=b7n hl
   exact ⟨c,rfl,hc,by omega⟩
  ·omega
namespace Tryz
section
variable {R:Nat} {S:MS} {nx:Int} {av:Nat→AV} {p q:Nat} {g:List AObj}
theorem g0n (hS:S.Ok R) (hD:DM (b0h S) S.st S.kd nx av p q g) (hL:(b0h S).length≤4194304) (id up b:Int) {n:Nat} (hn:(b0h S).length<n) (hR:R+3<n) :
    ∃ av' g',b0g T (n+4) 84 [DP p,.p (.int .i64 id),.p (.int .i64 up),.p (.int .i64 b)] g=some (.p (.int .i64 (b6z S id up b).1),g')∧DM (b0h (b6z S id up b).2) (b6z S id up b).2.st (b6z S id up b).2.kd nx av' p q g'∧DFr (b0h S) av p q g (b0h (b6z S id up b).2) av' q g':=by
  obtain ⟨o,ho,hrep⟩:=hD.core.row
  have hob:=hD.core.obj
  have hix:=fun s i=>hrep.idx b1y s true q i
  have hno:=b8t hD.core hL id (n:=n+1) (by omega)
  have hat:=fun id=>c0z hD.core hL id (n:=n+2) (by omega)
  unfold b6z
  by_cases hf:fitE S id≠0
  · rw [if_pos hf]
    have e1:(fitE S id==0)=false:=by simpa using hf
    refine ⟨av,g, ?_,hD,DFr.refl _ _ _ _ _⟩
    rw [b0a T84,b0f rfl rfl]
    generalize fitE S id=e at hno e1 ⊢
    simp -implicitDefEqProofs (disch:=omega) only [Rx,simprocAttr,F84,hno,e1]
  rw [if_neg hf]
  obtain ⟨c,rfl,hcL,hc0⟩:=c1k hf
  simp only [ne_eq,Decidable.not_not] at hf
  rw [hf] at hno
  by_cases hl:(b1i S up && b1i S b)=false
  · rw [if_pos hl]
    refine ⟨av,g, ?_,hD,DFr.refl _ _ _ _ _⟩
    have hat1:=hat up
    have hat2:=hat b
    rw [b0a T84,b0f rfl rfl]
    cases a1:b1i S up with
    | false =>
      rw [c3p a1] at hat1
      simp -implicitDefEqProofs (disch:=omega) only [Rx,simprocAttr,F84,hno,hat1]
    | true =>
      obtain ⟨u,hu,huL⟩:=b7n a1
      obtain ⟨i,hi,_⟩:=b4h huL
      have a2:b1i S b=false:=by rw [a1] at hl;simpa using hl
      rw [c3p a2] at hat2
      rw [hu,hi] at hat1
      have k1:¬ (i:Int)<0:=by omega
      rw [hu]
      simp -implicitDefEqProofs (disch:=omega) only [Rx,simprocAttr,F84,hno,hat1,hat2,k1]
  rw [if_neg hl]
  simp only [Bool.not_eq_false,Bool.and_eq_true] at hl
  obtain ⟨a2,a3⟩:=hl
  obtain ⟨u,rfl,huL⟩:=b7n a2
  obtain ⟨w,rfl,hwL⟩:=b7n a3
  obtain ⟨ic,hpc,hic⟩:=b4h hcL
  obtain ⟨iu,hpu,hiu⟩:=b4h huL
  obtain ⟨iw,hpw,hiw⟩:=b4h hwL
  have hat1:=hat (c:Int)
  have hat2:=hat (u:Int)
  have hat3:=hat (w:Int)
  rw [hpc] at hat1
  rw [hpu] at hat2
  rw [hpw] at hat3
  have lc:=(List.getElem?_eq_some_iff.1 hic).1
  have lu:=(List.getElem?_eq_some_iff.1 hiu).1
  have lw:=(List.getElem?_eq_some_iff.1 hiw).1
  have kc:(ic:Int)<((b0h S).length:Int):=by omega
  have ku:(iu:Int)<((b0h S).length:Int):=by omega
  have kw:(iw:Int)<((b0h S).length:Int):=by omega
  have ku0:¬ (iu:Int)<0:=by omega
  have kw0:¬ (iw:Int)<0:=by omega
  have rdc:=b3y hrep hic (j:=1) (by omega)
  have rdw:=b3y hrep hiw (j:=1) (by omega)
  simp only [nAV] at rdc rdw
  have un:=d0w hS hD.core hL c u huL (n:=n+1) (by omega) (by omega)
  have uo:upOf S (c:Int)=(S.st c).up:=rfl
  have ub:upOf S (w:Int)=(S.st w).up:=rfl
  rw [uo,ub]
  simp only [Int.toNat_natCast]
  by_cases h15:0≤(S.st c).up
  · rw [if_pos h15]
    refine ⟨av,g, ?_,hD,DFr.refl _ _ _ _ _⟩
    have k15:(S.st c).up ≥ 0:=h15
    rw [b0a T84,b0f rfl rfl]
    simp -implicitDefEqProofs (disch:=omega) only [Rx,simprocAttr,F84,hno,hat1,hat2,hat3,ku0,kw0,hob,ho,hix,rdc,k15]
  rw [if_neg h15]
  have k15:¬ (S.st c).up ≥ 0:=h15
  by_cases h17:b2s S (u:Int) (c:Int)=true
  · rw [if_pos h17]
    rw [h17] at un
    refine ⟨av,g, ?_,hD,DFr.refl _ _ _ _ _⟩
    rw [b0a T84,b0f rfl rfl]
    simp -implicitDefEqProofs (disch:=omega) only [Rx,simprocAttr,F84,hno,hat1,hat2,hat3,ku0,kw0,hob,ho,hix,rdc,k15,un]
  rw [if_neg h17]
  simp only [Bool.not_eq_true] at h17
  rw [h17] at un
  by_cases h18:(w:Int)≠0∧(S.st w).up≠(u:Int)
  · rw [if_pos h18]
    refine ⟨av,g, ?_,hD,DFr.refl _ _ _ _ _⟩
    have e1:((w:Int)==0)=false:=by simpa using h18.1
    have e2:((S.st w).up==(u:Int))=false:=by simpa using h18.2
    rw [b0a T84,b0f rfl rfl]
    simp -implicitDefEqProofs (disch:=omega) only [Rx,simprocAttr,F84,hno,hat1,hat2,hat3,ku0,kw0,hob,ho,hix,rdc,rdw,k15,un,e1,e2]
  rw [if_neg h18]
  obtain ⟨hcN,hcl⟩:=b1m.1 hcL
  obtain ⟨huN,hul⟩:=b1m.1 huL
  obtain ⟨hwN,hwl⟩:=b1m.1 hwL
  have hbk:(w:Int)=0∨(w:Int) ∈ S.kd u:=by
    by_cases e:(w:Int)=0
    · exact .inl e
    · right
      by_cases e2:(S.st w).up=(u:Int)
      · exact g2v hS hwN e2
      · exact absurd ⟨e,e2⟩ h18
  have hkl:=g2y hS huN
  have hK:=hD.kids u huL
  have hks:=g3a (h:=(c:Int)) (hS.nodup u huN) (g1q hS huN) hbk
  have hin:=h7p (S.kd u) (c:Int) (w:Int) (by omega) [] (n:=n+2) (by omega)
  rw [hks] at hin
  have hD1:=hD.core.kill (hD.away u huL).1 (hD.away u huL).2
  obtain ⟨o1,hk1,hr1⟩:=c8z hD1 hL huL (b0i (insI (S.kd u) (c:Int) (w:Int))) (n:=n+1) (by omega)
  have hD2:=hD.fix huL (insI (S.kd u) (c:Int) (w:Int)) hr1
  have hF2:=DFr.fix hD huL (b0i (insI (S.kd u) (c:Int) (w:Int))) o1
  generalize hg2:(c4a g (av u)).set q o1=g2 at hk1 hD2 hF2
  generalize hav2:upd av u (.p (.list (b0i (insI (S.kd u) (c:Int) (w:Int)))))=av2 at hD2 hF2
  obtain ⟨o2,ho2,hrep2⟩:=hD2.core.row
  have hob2:=hD2.core.obj
  have hix2:=fun s i=>hrep2.idx b1y s true q i
  have hat4:=c0z hD2.core hL (c:Int) (n:=n+2) (by omega)
  rw [hpc] at hat4
  obtain ⟨o3,hw3,hr3⟩:=c4y hrep2 hic (j:=1) (by omega) (.p (.int .i64 u))
  have e3:(b3f (b0h S) S.st av2).set ic ((nAV c (S.st c) (av2 c)).set 1 (.p (.int .i64 u)))=b3f (b0h S) (upd S.st c { S.st c with up:=(u:Int) }) av2:=by
    rw [← c3j hD.core.nodup hic];rfl
  rw [e3] at hr3
  have hD3:=hD2.node _ hr3
  have hF3:=hF2.trans (DFr.node (L:=b0h S) (av:=av2) (p:=p) (q:=q) (g:=g2) o3)
  have hlive:b0h (b2f S c u (w:Int))=b0h S:=c2w rfl (fun k=>by
    simp only [b2f]
    by_cases e:k=c
    · subst e;rw [b0l]
    · rw [b0j e])
  refine ⟨av2,g2.set q o3, ?_,by rw [hlive];exact hD3,by rw [hlive];exact hF3⟩
  have rdu:=b3y hrep hiu (j:=2) (by omega)
  simp only [nAV] at rdu
  generalize insI (S.kd u) (c:Int) (w:Int)=ks' at hin hk1
  have kl:=b0w (S.kd u)
  have hfz:=hK.frz
  generalize c4a g (av u)=g1 at hk1 hfz
  generalize av u=au at rdu hfz
  rw [b0a T84,b0f rfl rfl]
  by_cases e:(w:Int)=0
  · have e1:((w:Int)==0)=true:=by simpa using e
    simp -implicitDefEqProofs (disch:=omega) only [Rx,simprocAttr,F84,hno,hat1,hat2,hat3,hat4,ku0,kw0,hob,ho,hix,rdc,rdu,k15,un,e1,hin,hk1,hob2,ho2,hix2,hw3,hfz]
  · have e1:((w:Int)==0)=false:=by simpa using e
    have e2:((S.st w).up==(u:Int))=true:=by
      by_cases e2:(S.st w).up=(u:Int)
      · simpa using e2
      · exact absurd ⟨e,e2⟩ h18
    simp -implicitDefEqProofs (disch:=omega) only [Rx,simprocAttr,F84,hno,hat1,hat2,hat3,hat4,ku0,kw0,hob,ho,hix,rdc,rdw,rdu,k15,un,e1,e2,hin,hk1,hob2,ho2,hix2,hw3,hfz]
end
end Tryz
end Go.TA


end
section
/- The document's answer: its rows, its loose nodes. -/
set_option maxRecDepth 100000
set_option maxHeartbeats 8000000
namespace Go.TA
namespace Tryz
section
variable {R:Nat} {S:MS} {nx:Int} {av:Nat→AV} {p q:Nat} {g:List AObj}
theorem g3t (hS : S.Ok R) (hN : S.N ≤ 8589934592) (hD : DM (b0h S) S.st S.kd nx av p q g) (hL : (b0h S).length ≤ 4194304) (m : Nat) (hm : (b0h S).length + 1 < m) (d h : Nat) (up : Int) (out : List GRow) (hh : h ∈ b0h S) (hp : PreO S out h) (hol : out.length ≤ S.N)
    (ih:∀ c:Nat,c ∈ b0h S→(S.st c).up=(h:Int)→∀ (out:List GRow) (up:Int),out.length≤S.N→PreO S out c→b0g T m 50 [DP p,.own true g.length out.length,.p (.int .i64 c),.p (.int .i64 up)] (g++[.pcells 6 (out.map GRow.pv)])=some (.own true g.length (b1s S d out (c:Int) up).length,g++[.pcells 6 ((b1s S d out (c:Int) up).map GRow.pv)])) :
    b0g T (m+1) 50 [DP p,.own true g.length out.length,.p (.int .i64 h),.p (.int .i64 up)] (g++[.pcells 6 (out.map GRow.pv)])=some (.own true g.length (b1s S (d+1) out (h:Int) up).length,g++[.pcells 6 ((b1s S (d+1) out (h:Int) up).map GRow.pv)]):=by
  have hhN:=(b1m.1 hh).1
  have hK:=hD.kids h hh
  have hkl:=g2y hS hhN
  have hDX:=fun X=>hD.core.more [X]
  obtain ⟨o,ho,hrep⟩:=hD.core.row
  have hpl:=(List.getElem?_eq_some_iff.1 hD.core.obj).1
  have hql:=(List.getElem?_eq_some_iff.1 ho).1
  have hob:∀ X,(g++[X])[p]? = some (.cells 2 [[.own true q (b0h S).length,.p (.int .i64 nx)]]):=fun X=>by rw [List.getElem?_append_left hpl];exact hD.core.obj
  have hoX:∀ X,(g++[X])[q]? = some o:=fun X=>by rw [List.getElem?_append_left hql];exact ho
  have hlast:∀ X,(g++[X])[g.length]? = some X:=fun X=>by simp
  have hsetX:∀ X Y,(g++[X]).set g.length Y=g++[Y]:=fun X Y=>by simp [List.set_append]
  have hix:=fun s i=>hrep.idx b1y s true q i
  have hatX:=fun X id=>c0z (hDX X) hL id (n:=m - 1) (by omega)
  rw [show m - 1+1=m by omega] at hatX
  have il:=b0w (S.kd h)
  obtain ⟨ih0,hph,hih⟩:=b4h hh
  have lh:=(List.getElem?_eq_some_iff.1 hih).1
  have kh:(ih0:Int)<((b0h S).length:Int):=by omega
  have rdh:=b3y hrep hih (j:=2) (by omega)
  simp only [nAV] at rdh
  have hath:=fun X=>hatX X (h:Int)
  simp only [hph] at hath
  have hinv:=g2k hS (d:=d) (up:=up) hhN hp
  have hloop:b0s (b0g T m) m (.loop g7m) ⟨[(0,DP p),(1,.own true g.length out.length),(3,.p (.int .i64 up)),(9,av h),(23,.p (.int .i64 (S.kd h).length)),(24,.p (.int .i64 0))],[],g++[.pcells 6 (out.map GRow.pv)]⟩=some (.exit 0,⟨[(1,.own true g.length (b1s S (d+1) out (h:Int) up).length)],[],g++[.pcells 6 ((b1s S (d+1) out (h:Int) up).map GRow.pv)]⟩):=by
    have key:=b1n (C:=b0g T m) (N:=m) (B:=g7m) (σ := Nat) (S:=fun i=>⟨[(0,DP p),(1,.own true g.length (outI S d out h up i).length),(3,.p (.int .i64 up)),(9,av h),(23,.p (.int .i64 (S.kd h).length)),(24,.p (.int .i64 i))],[],g++[.pcells 6 ((outI S d out h up i).map GRow.pv)]⟩)
      (I:=fun i=>i≤(S.kd h).length) (μ := fun i=>(S.kd h).length - i) (Q:=fun z=>z=(.exit 0,⟨[(1,.own true g.length (b1s S (d+1) out (h:Int) up).length)],[],g++[.pcells 6 ((b1s S (d+1) out (h:Int) up).map GRow.pv)]⟩)) ?_ 0 (by omega) (by omega)
    · obtain ⟨z,hz,rfl⟩:=key
      rw [b8q] at hz
      exact hz
    intro i hi
    by_cases hil:i<(S.kd h).length
    · left
      obtain ⟨k,hk⟩:∃ k,(S.kd h)[i]? = some k:=⟨_,List.getElem?_eq_getElem hil⟩
      have hkm:=List.mem_of_getElem? hk
      obtain ⟨c,rfl,hc,hcl,hcu⟩:=hS.kids h hhN k hkm
      have hcL:c ∈ b0h S:=b1m.2 ⟨hc,hcl⟩
      obtain ⟨hpo,hpm⟩:=hinv i hi
      have hpre:=g0j hS up hhN hp hpo hpm hk hc hcu
      have hol1:=hpo.len
      have ho1:=b5p (S:=S) (d:=d) (out:=out) (up:=up) hk
      have hol2:(outI S d out h up i++[rowM S (c:Int) up]).length≤S.N:=by
        have:=c0n S.N _ hpre.nodup (fun k hk=>by
          obtain ⟨x,hx,rfl⟩:=List.mem_map.1 hk
          exact hpre.rng x hx)
        rwa [List.length_map] at this
      have ihc:=ih c hcL hcu _ (((outI S d out h up i).length:Int)+1) hol2 hpre
      rw [← ho1] at ihc
      refine ⟨i+1, ?_,by omega,by omega⟩
      generalize outI S d out h up i=o1 at hol1 hol2 ihc ⊢
      generalize outI S d out h up (i+1)=o2 at ihc ⊢
      have k2:(i:Int)<((S.kd h).length:Int):=by omega
      have hg:=b4o hk
      obtain ⟨ic,hpc,hic⟩:=b4h hcL
      have lc:=(List.getElem?_eq_some_iff.1 hic).1
      have kc:(ic:Int)<((b0h S).length:Int):=by omega
      have hatc:=fun X=>hatX X (c:Int)
      simp only [hpc] at hatc
      have rdA:=hrep.rdA b1y lc (c3k hic) rfl
      have os:o1.map GRow.pv++[[.int .i64 (c:Int),.int .i64 up,.str (S.st c).tag,.str (S.st c).key,.str (S.st c).text,.list ((S.st c).attrs.map Attr.pv)]]=(o1++[rowM S (c:Int) up]).map GRow.pv:=by
        rw [List.map_append];rfl
      have ol1:(o1.map GRow.pv).length=o1.length:=by simp
      have ol2:(o1++[rowM S (c:Int) up]).length=o1.length+1:=by simp
      rw [ol2] at ihc
      have ol3:((o1++[rowM S (c:Int) up]).map GRow.pv).length=o1.length+1:=by simp
      generalize o1++[rowM S (c:Int) up]=o3 at os ihc ol3
      have hKc:=hD.kids c hcL
      rcases hK.inv with ⟨_,hk0⟩ | ⟨r,hav,hr⟩ | hav
      · rw [hk0] at hil;simp at hil
      · have hrl:=(List.getElem?_eq_some_iff.1 hr).1
        have hrX:∀ X,(g++[X])[r]? = some (.pcells 1 (b0i (S.kd h))):=fun X=>by rw [List.getElem?_append_left hrl];exact hr
        rcases hKc.inv with ⟨hav2,_⟩ | ⟨r2,hav2,_⟩ | hav2
        all_goals
          simp only [nAV,hav2] at rdA
          simp only [hav]
          simp -implicitDefEqProofs (disch:=omega) only [Rx,simprocAttr,c5e,g7m,k2,hg,il,hob,hoX,hrX,hlast,hsetX,hix,hatc,rdA,b4i,PV.sameLL_self,os,ol1,ol3,ihc]
      · rcases hKc.inv with ⟨hav2,_⟩ | ⟨r2,hav2,_⟩ | hav2
        all_goals
          simp only [nAV,hav2] at rdA
          simp only [hav]
          simp -implicitDefEqProofs (disch:=omega) only [Rx,simprocAttr,c5e,g7m,k2,hg,il,hob,hoX,hlast,hsetX,hix,hatc,rdA,b4i,PV.sameLL_self,os,ol1,ol3,ihc]
    · right
      obtain rfl:i=(S.kd h).length:=by omega
      have k2:¬ ((S.kd h).length:Int)<((S.kd h).length:Int):=by omega
      refine ⟨_, ?_, ?_,rfl⟩
      · rw [b7h]
        generalize b1s S (d+1) out (h:Int) up=o1
        rcases hK.inv with ⟨hav,_⟩ | ⟨r,hav,_⟩ | hav
        all_goals
          simp only [hav]
          simp -implicitDefEqProofs (disch:=omega) only [Rx,simprocAttr,g7m,k2]
      · simp
  rw [b0a T50,b0f rfl rfl]
  generalize b1s S (d+1) out (h:Int) up=o2 at hloop ⊢
  rcases hK.inv with ⟨hav,hk0⟩ | ⟨r,hav,hr⟩ | hav
  · simp only [hk0,hav,List.length_nil,Int.natCast_zero] at hloop rdh
    simp -implicitDefEqProofs (disch:=omega) only [Rx,simprocAttr,F50,hob,hoX,hix,hath,rdh,hloop]
  · have hrl:=(List.getElem?_eq_some_iff.1 hr).1
    have hrX:∀ X,(g++[X])[r]? = some (.pcells 1 (b0i (S.kd h))):=fun X=>by rw [List.getElem?_append_left hrl];exact hr
    simp only [hav] at hloop rdh
    simp -implicitDefEqProofs (disch:=omega) only [Rx,simprocAttr,F50,hob,hoX,hix,hath,rdh,hloop]
  · simp only [hav] at hloop rdh
    simp -implicitDefEqProofs (disch:=omega) only [Rx,simprocAttr,F50,hob,hoX,hix,hath,rdh,hloop,il]
theorem j0l (hS:S.Ok R) (hN:S.N≤8589934592) (hD:DM (b0h S) S.st S.kd nx av p q g) (hL:(b0h S).length≤4194304) {r:Nat→Nat} (hr1:∀ c,c<S.N→r c≤R) (hr2:∀ c p:Nat,c<S.N→(S.st c).up=(p:Int)→r p<r c) (n:Nat) (hn:(b0h S).length+1<n) :
    ∀ (d h : Nat) (up : Int) (out : List GRow), h ∈ b0h S → R ≤ r h + d → out.length ≤ S.N → PreO S out h →
      b0g T (n+d+1) 50 [DP p,.own true g.length out.length,.p (.int .i64 h),.p (.int .i64 up)] (g++[.pcells 6 (out.map GRow.pv)])=some (.own true g.length (b1s S (d+1) out (h:Int) up).length,g++[.pcells 6 ((b1s S (d+1) out (h:Int) up).map GRow.pv)]):=by
  intro d
  induction d with
  | zero =>
    intro h up out hh hR hol hp
    exact g3t hS hN hD hL n hn 0 h up out hh hp hol (fun c hc hcu=>by
      have:=hr1 c (b1m.1 hc).1
      have:=hr2 c h (b1m.1 hc).1 hcu
      omega)
  | succ d ih =>
    intro h up out hh hR hol hp
    exact g3t hS hN hD hL (n+d+1) (by omega) (d+1) h up out hh hp hol (fun c hc hcu out up hol hp=>by
      have:=hr2 c h (b1m.1 hc).1 hcu
      exact ih c up out hc (by omega) hol hp)
theorem h7d (hS:S.Ok R) (hN:S.N≤8589934592) (hD:DM (b0h S) S.st S.kd nx av p q g) (hL:(b0h S).length≤4194304) {n:Nat} (hn:(b0h S).length+1<n) :
  b0g T (n+R+2) 22 [DP p] g=some (.own true g.length (b2h S R).length,g++[.pcells 6 ((b2h S R).map GRow.pv)]):=by
 obtain ⟨r,hr1,hr2⟩:=hS.rank
 have h0:(0:Nat) ∈ b0h S:=b1m.2 ⟨hS.pos,hS.top.1⟩
 have hr:=j0l hS hN hD hL hr1 hr2 n hn R 0 0 [] h0 (by omega) (by simp) d3f
 simp only [Int.natCast_zero,List.map_nil,List.length_nil] at hr
 rw [b0a T22,b0f rfl rfl]
 unfold b2h
 generalize b1s S (R+1) [] 0 0=o at hr ⊢
 simp -implicitDefEqProofs (disch:=omega) only [Rx,simprocAttr,F22,hr]
end
end Tryz
end Go.TA


end
section
/- The row of loose tops, read. -/
set_option maxRecDepth 100000
set_option maxHeartbeats 8000000
namespace Go.TA
namespace Tryz
section
variable {R:Nat} {S:MS} {nx:Int} {av:Nat→AV} {p q:Nat} {g:List AObj}
def looP (S:MS) (h:Nat):Bool := !(h==0) && decide ((S.st h).up<0)
theorem g5e (hD : DM (b0h S) S.st S.kd nx av p q g) (hL : (b0h S).length ≤ 4194304) {n : Nat} (hn : (b0h S).length < n) :
    b0g T (n+1) 24 [DP p] g=some (.own true g.length (b3s S).length,g++[.pcells 1 (b0i (b3s S))]):=by
  obtain ⟨o,ho,hrep⟩:=hD.core.row
  have hpl:=(List.getElem?_eq_some_iff.1 hD.core.obj).1
  have hql:=(List.getElem?_eq_some_iff.1 ho).1
  have hob:∀ X,(g++[X])[p]? = some (.cells 2 [[.own true q (b0h S).length,.p (.int .i64 nx)]]):=fun X=>by rw [List.getElem?_append_left hpl];exact hD.core.obj
  have hoX:∀ X,(g++[X])[q]? = some o:=fun X=>by rw [List.getElem?_append_left hql];exact ho
  have hlast:∀ X,(g++[X])[g.length]? = some X:=fun X=>by simp
  have hsetX:∀ X Y,(g++[X]).set g.length Y=g++[Y]:=fun X Y=>by simp [List.set_append]
  have hix:=fun s i=>hrep.idx b1y s true q i
  have hlm:b3s S=((b0h S).filter (looP S)).map fun h:Nat=>(h:Int):=rfl
  rw [hlm]
  have hlen:∀ i,(((b0h S).take i).filter (looP S)).length≤4194304:=fun i=>by
    have h3:=List.length_filter_le (looP S) ((b0h S).take i)
    rw [List.length_take] at h3
    omega
  generalize hacc:(fun i:Nat=>(((b0h S).take i).filter (looP S)).map fun h:Nat=>(h:Int))=acc
  have hal:∀ i,(acc i).length≤4194304:=fun i=>by rw [← hacc];simp only [List.length_map];exact hlen i
  have key:=b1n (C:=b0g T n) (N:=n) (B:=g7p) (σ := Nat) (S:=fun i=>⟨[(0,DP p),(3,.own true g.length (acc i).length),(9,.p (.int .i64 (b0h S).length)),(10,.p (.int .i64 i))],[],g++[.pcells 1 (b0i (acc i))]⟩)
    (I:=fun i=>i≤(b0h S).length) (μ := fun i=>(b0h S).length - i) (Q:=fun r=>r=(.exit 0,⟨[(3,.own true g.length (acc (b0h S).length).length)],[],g++[.pcells 1 (b0i (acc (b0h S).length))]⟩)) ?_ 0 (by omega) (by omega)
  · obtain ⟨r,hr,rfl⟩:=key
    have e0:acc 0=[]:=by rw [← hacc];simp
    have e1:acc (b0h S).length=((b0h S).filter (looP S)).map fun h:Nat=>(h:Int):=by rw [← hacc];simp
    rw [e0,e1] at hr
    generalize ((b0h S).filter (looP S)).map (fun h:Nat=>(h:Int))=l1 at hr ⊢
    simp only [List.length_nil,Int.natCast_zero,show b0i []=[] from rfl] at hr
    rw [b0a T24,b0f rfl rfl]
    simp -implicitDefEqProofs (disch:=omega) only [Rx,simprocAttr,F24,hob,hr]
  intro i hi
  by_cases h1:i<(b0h S).length
  · left
    obtain ⟨h,hh⟩:=b0p h1
    have k1:(i:Int)<((b0h S).length:Int):=by omega
    have rd0:=b3y hrep hh (j:=0) (by omega)
    have rd1:=b3y hrep hh (j:=1) (by omega)
    simp only [nAV] at rd0 rd1
    have hs:acc (i+1)=acc i++if looP S h=true then [(h:Int)] else []:=by
      rw [← hacc]
      simp only
      rw [List.take_add_one,hh,List.filter_append,List.map_append]
      congr 1
      simp only [Option.toList_some,List.filter_cons,List.filter_nil]
      split <;> rfl
    have hll:=hal i
    have il:=b0w (acc i)
    refine ⟨i+1, ?_,by omega,by omega⟩
    rw [hs]
    by_cases e0:h=0
    · subst e0
      have ep:looP S 0=false:=rfl
      rw [ep]
      simp only [Bool.false_eq_true,if_false,List.append_nil]
      have e1:((((0:Nat):Int))==0)=true:=rfl
      simp -implicitDefEqProofs (disch:=omega) only [Rx,simprocAttr,g7p,k1,hob,hoX,hix,rd0]
    · have e1:((h:Int)==0)=false:=by simp;omega
      by_cases eu:(S.st h).up<0
      · have ep:looP S h=true:=by simp [looP,e0,eu]
        rw [ep,if_pos rfl]
        have os1:=b3v (acc i) (h:Int)
        have ol1:(b0i (acc i++[(h:Int)])).length=(acc i).length+1:=by rw [b0w,List.length_append];rfl
        have ol3:(acc i++[(h:Int)]).length=(acc i).length+1:=by rw [List.length_append];rfl
        rw [ol3]
        generalize acc i++[(h:Int)]=acc1 at os1 ol1
        generalize acc i=a0 at hll il os1 ol1
        simp -implicitDefEqProofs (disch:=omega) only [Rx,simprocAttr,g7p,k1,hob,hoX,hix,rd0,rd1,e1,eu,hlast,hsetX,il,os1,ol1]
      · have ep:looP S h=false:=by simp [looP,eu]
        rw [ep]
        simp only [Bool.false_eq_true,if_false,List.append_nil]
        simp -implicitDefEqProofs (disch:=omega) only [Rx,simprocAttr,g7p,k1,hob,hoX,hix,rd0,rd1,e1,eu]
  · right
    obtain rfl:i=(b0h S).length:=by omega
    have k1:¬ ((b0h S).length:Int)<((b0h S).length:Int):=by omega
    refine ⟨_, ?_, ?_,rfl⟩
    · simp -implicitDefEqProofs (disch:=omega) only [Rx,simprocAttr,g7p,k1]
    · simp
end
end Tryz
end Go.TA


end
section
/- What a machine's end comes to, by the program and by the document's answer. -/
set_option maxRecDepth 100000
set_option maxHeartbeats 8000000
namespace Go.TA
namespace Tryz
def endE (S:MS) (R:Nat) (L:List GOp) (left:Int):Int :=
 if 0<(b3s S).length then 19 else if 1<tops (b2h S R) then 20 else if b0x (b2h S R)≠0 then b0x (b2h S R) else if (b2j L 1:Int)≤left then 0 else 21
theorem h6c {R:Nat} {S:MS} (hS:S.Ok R) (hs:S.small) (hN:S.N≤1048576) (L:List GOp) (hL:L.length≤1048576) (left:Int) (av:Nat→AV) (rest:List AObj) (hM:MOk S.N av S.kd rest) {F:Nat} (hF:R+3145800<F) :
    ∃ rest', b0g T (F + 1) 54 [MP, .p (.list (L.map GOp.pv)), .p (.int .i64 left)] (b0q S.N S.st av rest) = some (.tuple [if endE S R L left = 0 then .own true (rest.length + 1 + 1) (b2h S R).length else .p (.list []), .p (.int .i64 (endE S R L left))], b0q S.N S.st av rest')
      ∧ rest'[rest.length]? = some (.pcells 6 ((b2h S R).map GRow.pv)):=by
  have hlen:=c0d hS R
  have hsm:=b9b hS hs (by omega) R
  have hrows:=h7c hS (by omega) av rest hM (n:=F - R - 2) (by omega)
  rw [show F - R - 2+R+2=F by omega] at hrows
  have hM':MOk S.N av S.kd (rest++[.pcells 6 ((b2h S R).map GRow.pv)]):=⟨fun h hh=>(hM.kids h hh).more _,hM.disj⟩
  have hloose:=h0m S (by omega) av (rest++[.pcells 6 ((b2h S R).map GRow.pv)]) hM' (n:=F - 1) (by omega)
  rw [show F - 1+1=F by omega] at hloose
  have hflat:=b8i (b2h S R) hsm (Nat.le_refl _) (n:=F - (b2h S R).length - 43) (by omega) []
  rw [show F - (b2h S R).length - 43+(b2h S R).length+43=F by omega] at hflat
  have hcount:=d7u L hL [] (n:=F - 1) (by omega)
  rw [show F - 1+1=F by omega] at hcount
  have hll:=d1u S
  have htl:=d9a (b2h S R)
  have e19:endE S R L left=if 0<(b3s S).length then 19 else if 1<tops (b2h S R) then 20 else if b0x (b2h S R)≠0 then b0x (b2h S R) else if (b2j L 1:Int)≤left then 0 else 21:=rfl
  refine ⟨rest++[.pcells 6 ((b2h S R).map GRow.pv)]++[.pcells 1 (b0i (b3s S))], ?_,by simp⟩
  generalize b3s S=lo at *
  have hrl:((b2h S R).map GRow.pv).length=(b2h S R).length:=by simp
  have hget:∀ i x,(b2h S R)[i]? = some x→((b2h S R).map GRow.pv).getD i []=x.pv:=fun i x hx=>b0u (f:=GRow.pv) hx
  generalize b2h S R=rows at *
  generalize hX:rows.map GRow.pv=X at *
  have q1:(rest++[AObj.pcells 6 X])[rest.length]? = some (.pcells 6 X):=by simp
  have q2:(rest++[AObj.pcells 6 X]++[.pcells 1 (b0i lo)])[rest.length]? = some (.pcells 6 X):=by simp
  have hloop:=b1q (C:=b0g T F) (N:=F) (B:=h3k) (σ := Nat) (S:=fun i=>⟨[(0,MP),(1,.p (.list (L.map GOp.pv))),(2,.p (.int .i64 left)),(8,.own true (rest.length+1+1) rows.length),(9,.p (.int .i64 (tops (rows.take i)))),(15,.own true (rest.length+1+1) rows.length),(16,.p (.int .i64 rows.length)),(17,.p (.int .i64 i))],[],b0q S.N S.st av (rest++[.pcells 6 X])⟩) (I:=fun i=>i≤rows.length) (μ := fun i=>rows.length - i)
    (Φ := fun i=>(.exit 0,⟨[(0,MP),(1,.p (.list (L.map GOp.pv))),(2,.p (.int .i64 left)),(8,.own true (rest.length+1+1) rows.length),(9,.p (.int .i64 (tops rows)))],[],b0q S.N S.st av (rest++[.pcells 6 X])⟩)) ?_ 0 (by omega) (by omega)
  · have t0:tops (rows.take 0)=0:=rfl
    rw [t0] at hloop
    have ll:(L.map GOp.pv).length=L.length:=by simp
    rw [b0a T54,b0f rfl rfl]
    generalize tops rows=tp at *
    generalize b2j L 1=t1 at *
    simp only [b0q,Int.natCast_zero] at hloop hrows hloose ⊢
    by_cases h1:0<lo.length
    · have e:endE S R L left=19:=by rw [e19,if_pos h1]
      rw [e]
      simp -implicitDefEqProofs (disch:=omega) only [Rx,simprocAttr,F54,hrows,hloop,hloose]
    by_cases h2:1<tp
    · have e:endE S R L left=20:=by rw [e19,if_neg h1,if_pos h2]
      rw [e]
      simp -implicitDefEqProofs (disch:=omega) only [Rx,simprocAttr,F54,hrows,hloop,hloose]
    by_cases h3:b0x rows=0
    rotate_left
    · have e:endE S R L left=b0x rows:=by rw [e19,if_neg h1,if_neg h2,if_pos h3]
      rw [e]
      have h3':(b0x rows==0)=false:=by simpa using h3
      generalize b0x rows=c at hflat h3 h3'
      simp -implicitDefEqProofs (disch:=omega) only [Rx,simprocAttr,F54,hrows,hloop,hloose,hflat,hrl,q2,h3,h3']
    rw [h3] at hflat
    by_cases h4:(t1:Int)≤left
    · have e:endE S R L left=0:=by rw [e19,if_neg h1,if_neg h2,if_neg (by simpa using h3),if_pos h4]
      rw [e]
      simp -implicitDefEqProofs (disch:=omega) only [Rx,simprocAttr,F54,hrows,hloop,hloose,hflat,hcount,hrl,q2,h4]
    · have e:endE S R L left=21:=by rw [e19,if_neg h1,if_neg h2,if_neg (by simpa using h3),if_neg h4]
      rw [e]
      simp -implicitDefEqProofs (disch:=omega) only [Rx,simprocAttr,F54,hrows,hloop,hloose,hflat,hcount,hrl,q2,h4]
  intro i hi
  by_cases h:i<rows.length
  · left
    obtain ⟨x,hx⟩:=b0p h
    have k1:(i:Int)<(rows.length:Int):=by omega
    have hg:=hget i x hx
    have ht:=g8i hx
    have hle:=d9a (rows.take i)
    rw [List.length_take] at hle
    refine ⟨i+1, ?_,by omega,by omega,rfl⟩
    rw [ht]
    generalize tops (rows.take i)=c at *
    simp only [b0q] at ⊢
    by_cases e:x.up=0
    · have e1:(x.up==0)=true:=by simpa using e
      rw [if_pos e]
      simp -implicitDefEqProofs (disch:=omega) only [Rx,simprocAttr,h3k,k1,hrl,q1,hg,GRow.pv,b0b,e1]
    · have e1:(x.up==0)=false:=by simpa using e
      rw [if_neg e]
      simp -implicitDefEqProofs (disch:=omega) only [Rx,simprocAttr,h3k,k1,hrl,q1,hg,GRow.pv,b0b,e1,Nat.add_zero]
  · right
    obtain rfl:i=rows.length:=by omega
    have k1:¬ (rows.length:Int)<(rows.length:Int):=by omega
    refine ⟨?_,by simp⟩
    rw [List.take_length]
    simp -implicitDefEqProofs (disch:=omega) only [Rx,simprocAttr,h3k,k1]
end Tryz
end Go.TA


end
section
/- The first operation of a list that may not be, by the program and by the document's answer. -/
set_option maxRecDepth 100000
set_option maxHeartbeats 8000000
namespace Go.TA.Tryz
noncomputable def b2a:List GOp→Nat→Nat × Int
 | [],i=>(0,0)
 | x::l,i=>if b0r x=0 then b2a l (i+1) else (i,b0r x)
theorem c9e {L:List GOp} {i:Nat} {x:GOp} (hx:L[i]? = some x):b2a (L.drop i) i=if b0r x=0 then b2a (L.drop (i+1)) (i+1) else (i,b0r x):=by
 have:L.drop i=x::L.drop (i+1):=by rw [List.drop_eq_getElem?_toList_append,hx];rfl
 rw [this,b2a]
theorem g5r {L:List GOp} {i:Nat} (h:(b2a L i).2=0):b2a L i=(0,0)∧∀ x ∈ L,b0r x=0:=by
  induction L generalizing i with
  | nil=>exact ⟨rfl,by simp⟩
  | cons x l ih =>
    rw [b2a] at h ⊢
    by_cases e:b0r x=0
    · rw [if_pos e] at h ⊢
      obtain ⟨h1,h2⟩:=ih h
      exact ⟨h1,fun y hy=>(List.mem_cons.1 hy).elim (fun q=>q ▸ e) (h2 y)⟩
    · rw [if_neg e] at h
      exact absurd h e
theorem g5q (L : List GOp) (hL : ∀ x ∈ L, x.attrs.length ≤ 1048576) (hlen : L.length ≤ 1048576) (g : List AObj) {n : Nat} (hn : 1048577 < n) :
    b0g T (n+39) 53 [.p (.list (L.map GOp.pv))] g=some (.tuple [.p (.int .i64 (b2a L 0).1),.p (.int .i64 (b2a L 0).2)],g):=by
  have key:=b1n (C:=b0g T (n+38)) (N:=n+38) (B:=h3l) (σ := Nat) (S:=fun i=>⟨[(7,.p (.list (L.map GOp.pv))),(8,.p (.int .i64 L.length)),(9,.p (.int .i64 i))],[],[]⟩)
    (I:=fun i=>i≤L.length∧b2a L 0=b2a (L.drop i) i) (μ := fun i=>L.length - i) (Q:=fun r=>(b2a L 0=(0,0)∧r=(.exit 0,⟨[],[],[]⟩))∨r=(.ret,⟨[(2,.p (.int .i64 (b2a L 0).1)),(3,.p (.int .i64 (b2a L 0).2))],[],[]⟩)) ?_ 0 (by simp) (by omega)
  · obtain ⟨r,hr,hq⟩:=key
    rw [b0a T53,run_pure rfl rfl rfl]
    simp only [Int.natCast_zero] at hr
    rcases hq with ⟨e,rfl⟩ | rfl
    · rw [e]
      simp -implicitDefEqProofs (disch:=omega) only [Rx,simprocAttr,F53,hr,Int.natCast_zero]
    · simp -implicitDefEqProofs (disch:=omega) only [Rx,simprocAttr,F53,hr]
  rintro i ⟨hi,hf⟩
  by_cases h:i<L.length
  · obtain ⟨x,hx⟩:=b0p h
    have hg:=b0u (f:=GOp.pv) hx
    have hxl:=hL x (List.mem_of_getElem? hx)
    have k1:(i:Int)<(L.length:Int):=by omega
    have k2:((i:Int)==1048576)=false:=by simp;omega
    have hc:=fun g=>g2m x g (n:=n) (by omega) hxl
    simp only [GOp.pv,b0b] at hc
    rw [c9e hx] at hf
    by_cases he:b0r x=0
    · left
      rw [if_pos he] at hf
      refine ⟨i+1, ?_,⟨by omega,hf⟩,by omega⟩
      rw [he] at hc
      simp -implicitDefEqProofs (disch:=omega) only [Rx,simprocAttr,h3l,k1,k2,hg,GOp.pv,b0b,hc]
    · right
      rw [if_neg he] at hf
      have he':(b0r x==0)=false:=by simpa using he
      refine ⟨_, ?_, ?_,.inr rfl⟩
      · rw [hf]
        simp -implicitDefEqProofs (disch:=omega) only [Rx,simprocAttr,h3l,k1,k2,hg,GOp.pv,b0b,hc,he']
      · simp
  · right
    obtain rfl:i=L.length:=by omega
    have k1:¬ (L.length:Int)<(L.length:Int):=by omega
    rw [List.drop_length] at hf
    refine ⟨_, ?_, ?_,.inl ⟨hf,rfl⟩⟩
    · simp -implicitDefEqProofs (disch:=omega) only [Rx,simprocAttr,h3l,k1]
    · simp
theorem g5p (L : List GOp) (hL : ∀ x ∈ L, x.attrs.length ≤ 1048576 ∧ b1t x.attrs) (hlen : L.length ≤ 1048576) (g : List AObj) {n : Nat} (hn : 1048577 < n) :
    b0g T (n+38) 55 [.p (.list (L.map GOp.pv))] g=some (.tuple [.p (.int .i64 (b2a L 0).1),.p (.int .i64 (b2a L 0).2)],g):=by
  have key:=b1n (C:=b0g T (n+37)) (N:=n+37) (B:=h3j) (σ := Nat) (S:=fun i=>⟨[(0,.p (.list (L.map GOp.pv))),(7,.p (.int .i64 L.length)),(8,.p (.int .i64 i))],[],[]⟩)
    (I:=fun i=>i≤L.length∧b2a L 0=b2a (L.drop i) i) (μ := fun i=>L.length - i) (Q:=fun r=>(b2a L 0=(0,0)∧r=(.exit 0,⟨[],[],[]⟩))∨r=(.ret,⟨[(2,.p (.int .i64 (b2a L 0).1)),(3,.p (.int .i64 (b2a L 0).2))],[],[]⟩)) ?_ 0 (by simp) (by omega)
  · obtain ⟨r,hr,hq⟩:=key
    rw [b0a T55,run_pure rfl rfl rfl]
    simp only [Int.natCast_zero] at hr
    rcases hq with ⟨e,rfl⟩ | rfl
    · rw [e]
      simp -implicitDefEqProofs (disch:=omega) only [Rx,simprocAttr,F55,hr,Int.natCast_zero]
    · simp -implicitDefEqProofs (disch:=omega) only [Rx,simprocAttr,F55,hr]
  rintro i ⟨hi,hf⟩
  by_cases h:i<L.length
  · obtain ⟨x,hx⟩:=b0p h
    have hg:=b0u (f:=GOp.pv) hx
    obtain ⟨hxl,hxs⟩:=hL x (List.mem_of_getElem? hx)
    have k1:(i:Int)<(L.length:Int):=by omega
    have k2:((i:Int)==1048576)=false:=by simp;omega
    have hc:=fun g=>d6a x hxs g (n:=n) (by omega) (by omega)
    simp only [GOp.pv,b0b] at hc
    rw [c9e hx] at hf
    by_cases he:b0r x=0
    · left
      rw [if_pos he] at hf
      refine ⟨i+1, ?_,⟨by omega,hf⟩,by omega⟩
      rw [he] at hc
      simp -implicitDefEqProofs (disch:=omega) only [Rx,simprocAttr,h3j,k1,k2,hg,GOp.pv,b0b,hc]
    · right
      rw [if_neg he] at hf
      have he':(b0r x==0)=false:=by simpa using he
      refine ⟨_, ?_, ?_,.inr rfl⟩
      · rw [hf]
        simp -implicitDefEqProofs (disch:=omega) only [Rx,simprocAttr,h3j,k1,k2,hg,GOp.pv,b0b,hc,he']
      · simp
  · right
    obtain rfl:i=L.length:=by omega
    have k1:¬ (L.length:Int)<(L.length:Int):=by omega
    rw [List.drop_length] at hf
    refine ⟨_, ?_, ?_,.inl ⟨hf,rfl⟩⟩
    · simp -implicitDefEqProofs (disch:=omega) only [Rx,simprocAttr,h3j,k1]
    · simp
end Go.TA.Tryz


end
section
/- The machine of rows that are right. -/
set_option maxRecDepth 100000
set_option maxHeartbeats 8000000
namespace Go.TA.Tryz
def newS (l:List GRow) (i:Nat) (av:Nat→AV) (rest:List AObj):St:=⟨[(5,.ptr true 1 1 1 0 0),(17,.p (.list (l.map GRow.pv))),(18,.p (.int .i64 l.length)),(19,.p (.int .i64 i))],[],b0q (i+1) (st0 l) av rest⟩
theorem h5b {n N : Nat} (l : List GRow) (hl : l.length ≤ 1048576) (hal : ∀ x ∈ l, x.attrs.length ≤ 1048577) (hs : b1r l l.length) (hN : l.length < N) :
    ∃ r,b0s (b0g T (n+1)) N (.loop h3r) (newS l 0 (fun _ => .nils) [])=some r∧∃ av rest,r=(.exit 0,⟨[(5,.ptr true 1 1 1 0 0)],[],b0q (l.length+1) (st0 l) av rest⟩)∧MOk (l.length+1) av (kd0 l l.length) rest∧∀ h,h<l.length+1→∀ ks,av h ≠ .p ks:=by
  refine b1n (σ := Nat × (Nat→AV) × List AObj) (S:=fun s=>newS l s.1 s.2.1 s.2.2) (I:=fun s=>s.1≤l.length∧MOk (s.1+1) s.2.1 (kd0 l s.1) s.2.2∧∀ h,h<s.1+1→∀ ks,s.2.1 h ≠ .p ks) (μ := fun s=>l.length - s.1)
    (Q:=fun r=>∃ av rest,r=(.exit 0,⟨[(5,.ptr true 1 1 1 0 0)],[],b0q (l.length+1) (st0 l) av rest⟩)∧MOk (l.length+1) av (kd0 l l.length) rest∧∀ h,h<l.length+1→∀ ks,av h ≠ .p ks) ?_ (0,(fun _ => .nils),[]) ⟨by omega,⟨fun h _ => .none,fun _ _ _ _ _ => .inl rfl⟩,fun h _ ks=>by simp⟩ (by simp only;omega)
  rintro ⟨i,av,rest⟩ ⟨h1,h2,h3⟩
  simp only at h1 h2 h3 ⊢
  by_cases hi:i<l.length
  · left
    obtain ⟨x,hx,hu⟩:=d0v hs (Nat.le_refl _) hi
    have hle:=b5z hs hi hi
    have hg:=b0u (f:=GRow.pv) hx
    have k1:(i:Int)<(l.length:Int):=by omega
    have hcl:=b6j x.attrs (hal x (List.mem_of_getElem? hx)) [] n
    generalize hU:upAt l (i+1)=u at hu hle
    have hst:st0 l (i+1)=b7c x:=by simp [st0,hx]
    have hpush:b0y (i+1) (st0 l) av++[[.p (.bool true),.p (.int .i64 u),.nils,.p (.str x.tag),.p (.str x.key),.p (.str x.text),.p (.list (x.attrs.map Attr.pv))]]=b0y (i+1+1) (st0 l) (upd av (i+1) .nils):=by
      have:=c8c (N:=i+1) (st:=st0 l) (av:=av) (b7c x) .nils
      simp only [b1v,b7c,hu] at this
      rw [this]
      refine b3r fun k hk=>⟨?_,rfl⟩
      by_cases e:k=i+1
      · subst e;rw [b0l,hst,b7c,hu]
      · rw [b0j e]
    have hM:=h2.push
    have len1:(b0y (i+1) (st0 l) av).length=i+1:=b2o
    have len2:(b0y (i+1+1) (st0 l) (upd av (i+1) .nils)).length=i+1+1:=b2o
    have hgu:(b0y (i+1+1) (st0 l) (upd av (i+1) .nils)).getD u []=b1v (st0 l u) (upd av (i+1) .nils u):=b2e (by omega)
    have hkd:∀ h,h<i+1+1→upd (upd (kd0 l i) (i+1) []) u (upd (kd0 l i) (i+1) [] u++[(i:Int)+1]) h=kd0 l (i+1) h:=by
      intro h hh
      have hnew:upd (kd0 l i) (i+1) [] h=kd0 l i h:=by
        by_cases e:h=i+1
        · subst e;rw [b0l,h0x (hs.mono (by omega)) (by omega)]
        · rw [b0j e]
      rw [d4b hx,hu]
      by_cases e:h=u
      · subst e
        rw [b0l,hnew,if_pos rfl]
      · rw [b0j e,hnew,if_neg (by omega)]
    have hset:∀ a,(b0y (i+1+1) (st0 l) (upd av (i+1) .nils)).set u [.p (.bool (st0 l u).live),.p (.int .i64 (st0 l u).up),a,.p (.str (st0 l u).tag),.p (.str (st0 l u).key),.p (.str (st0 l u).text),.p (.list ((st0 l u).attrs.map Attr.pv))]=b0y (i+1+1) (st0 l) (upd (upd av (i+1) .nils) u a):=by
      intro a
      have:=b6c (N:=i+1+1) (st:=st0 l) (av:=upd av (i+1) .nils) (h:=u) (by omega) (st0 l u) a
      simp only [b1v] at this
      rw [this]
      refine b3r fun k hk=>⟨?_,rfl⟩
      by_cases e:k=u
      · subst e;rw [b0l]
      · rw [b0j e]
    have hK:=hM.kids u (by omega)
    generalize hav:upd av (i+1) .nils u=a at hK hgu
    generalize hks:upd (kd0 l i) (i+1) [] u=ks at hK hkd
    simp only [b1v] at hgu
    have hle2:(u:Int)<(i:Int)+1+1:=by omega
    have hkl:ks.length≤1048576:=by
      rw [← hks]
      by_cases e:u=i+1
      · rw [e,b0l];simp
      · rw [b0j e]
        simp only [kd0,List.length_map]
        have:=List.length_filter_le (fun k=>((l[k]?).map (fun x=>x.up==(u:Int))).getD false) (List.range i)
        simp only [List.length_range] at this
        omega
    rcases hK.inv with ⟨rfl,rfl⟩ | ⟨r,rfl,hr⟩ | rfl
    · refine ⟨(i+1,upd (upd av (i+1) .nils) u (.own true (rest.length+1+1) 1),rest++[.pcells 1 [[.int .i64 ((i:Int)+1)]]]), ?_,⟨by omega, ?_, ?_⟩,by simp only;omega⟩
      · have hsl:∀ o o':AObj,(rest++[o]).set rest.length o'=rest++[o']:=fun o o'=>by simp [List.set_append]
        simp only [newS,b0q]
        simp -implicitDefEqProofs (disch:=omega) only [Rx,simprocAttr,h3r,k1,hg,GRow.pv,b0b,hcl,hpush,len1,len2,hgu,hset,hu,hle2,hsl]
      · have:=hM.fresh (u:=u) (by omega) [(i:Int)+1]
        simp only [List.length_singleton,b0i,List.map_cons,List.map_nil] at this
        refine ⟨fun h hh => ?_,this.disj⟩
        have q:=this.kids h hh
        rw [← hkd h hh]
        simpa [hks] using q
      · intro h hh ks
        by_cases e:h=u
        · subst e;simp [upd]
        · simp only
          rw [b0j e]
          by_cases e':h=i+1
          · subst e';simp [upd]
          · rw [b0j e'];exact h3 h (by omega) ks
    · have hrl:r<rest.length:=(List.getElem?_eq_some_iff.1 hr).1
      refine ⟨(i+1,upd (upd av (i+1) .nils) u (.own true (r+1+1) (ks.length+1)),rest.set r (.pcells 1 (b0i ks++[[.int .i64 ((i:Int)+1)]]))), ?_,⟨by omega, ?_, ?_⟩,by simp only;omega⟩
      · simp only [newS,b0q]
        have il:=b0w ks
        simp -implicitDefEqProofs (disch:=omega) only [Rx,simprocAttr,h3r,k1,hg,GRow.pv,b0b,hcl,hpush,len1,len2,hgu,hset,hu,hle2,hr,il,List.length_append]
      · have:=hM.turn (u:=u) (r:=r) (by omega) (by rw [hav,hks]) hrl (ks++[(i:Int)+1])
        simp only [List.length_append,List.length_singleton, ← b3v] at this
        refine ⟨fun h hh => ?_,this.disj⟩
        have q:=this.kids h hh
        rw [← hkd h hh]
        exact q
      · intro h hh ks
        by_cases e:h=u
        · subst e;simp [upd]
        · simp only
          rw [b0j e]
          by_cases e':h=i+1
          · subst e';simp [upd]
          · rw [b0j e'];exact h3 h (by omega) ks
    · exfalso
      by_cases e:u=i+1
      · rw [e,b0l] at hav;cases hav
      · rw [b0j e] at hav;exact h3 u (by omega) _ hav
  · right
    obtain rfl:i=l.length:=by omega
    have k1:¬ (l.length:Int)<(l.length:Int):=by omega
    refine ⟨_, ?_, ?_,av,rest,rfl,h2,h3⟩
    · simp only [newS]
      simp -implicitDefEqProofs (disch:=omega) only [Rx,simprocAttr,h3r,k1]
    · simp
theorem h8y (l:List GRow) {m:Nat} (hl:Rows.mid m l) (hm:m≤1048577) (h:b0x l=0) {n:Nat} (hn:1048577<n) :
  ∃ av rest,b0g T (n+l.length+44) 12 [.p (.list (l.map GRow.pv))] []=some (.tuple [.ptr true 1 1 1 0 0,.p (.int .i64 0)],b0q (l.length+1) (st0 l) av rest)∧MOk (l.length+1) av (kd0 l l.length) rest∧∀ h,h<l.length+1→∀ ks,av h ≠ .p ks:=by
 have hlen:=hl.len
 have hfc:=b8i l hl hm hn []
 rw [h] at hfc
 have hs:b1r l l.length:=b9i (b7q h).1
 obtain ⟨r,hr,av,rest,rfl,hok,hpp⟩:=h5b (n:=n+l.length+42) (N:=n+l.length+43) l (by omega) (fun x hx=>by have:=(hl.row x hx).attrs;omega) hs (by omega)
 refine ⟨av,rest, ?_,hok,hpp⟩
 rw [b0a T12,b0f rfl rfl]
 have h0:b0y 1 (st0 l) (fun _=>AV.nils)=[b1v b6u .nils]:=rfl
 simp only [newS,b0q,Nat.zero_add,Int.natCast_zero,h0,b1v,b6u,List.map_nil] at hr ⊢
 simp -implicitDefEqProofs (disch:=omega) only [Rx,simprocAttr,F12,hfc,hr]
end Go.TA.Tryz


end
section
/- Rows that are not right: no machine. -/
set_option maxRecDepth 100000
set_option maxHeartbeats 8000000
namespace Go.TA.Tryz
theorem h5d (l:List GRow) {m:Nat} (hl:Rows.mid m l) (hm:m≤1048577) (h:b0x l≠0) {n:Nat} (hn:1048577<n) :
  b0g T (n+l.length+44) 12 [.p (.list (l.map GRow.pv))] []=some (.tuple [.p .nilp,.p (.int .i64 (b0x l))],[]):=by
 have hfc:=b8i l hl hm hn []
 have e1:(b0x l==0)=false:=by simpa using h
 rw [b0a T12,b0f rfl rfl]
 generalize b0x l=e at hfc e1 ⊢
 simp -implicitDefEqProofs (disch:=omega) only [Rx,simprocAttr,F12,hfc,e1]
end Go.TA.Tryz


end
section
/- The document's answer: a node is put elsewhere below the same one. -/
set_option maxRecDepth 100000
set_option maxHeartbeats 8000000
namespace Go.TA.Tryz
section
variable {R:Nat} {S:MS} {nx:Int} {av:Nat→AV} {p q:Nat} {g:List AObj}
theorem h0i (hS : S.Ok R) (hD : DM (b0h S) S.st S.kd nx av p q g) (hL : (b0h S).length ≤ 4194304) (id b : Int) {n : Nat} (hn : (b0h S).length < n) :
    ∃ av' g',b0g T (n+4) 85 [DP p,.p (.int .i64 id),.p (.int .i64 b)] g=some (.p (.int .i64 (c6y S id b).1),g')∧DM (b0h (c6y S id b).2) (c6y S id b).2.st (c6y S id b).2.kd nx av' p q g'∧DFr (b0h S) av p q g (b0h (c6y S id b).2) av' q g':=by
  obtain ⟨o,ho,hrep⟩:=hD.core.row
  have hob:=hD.core.obj
  have hix:=fun s i=>hrep.idx b1y s true q i
  have hno:=b8t hD.core hL id (n:=n+1) (by omega)
  have hat:=fun id=>c0z hD.core hL id (n:=n+2) (by omega)
  unfold c6y
  by_cases hf:fitE S id≠0
  · rw [if_pos hf]
    have e1:(fitE S id==0)=false:=by simpa using hf
    refine ⟨av,g, ?_,hD,DFr.refl _ _ _ _ _⟩
    rw [b0a T85,b0f rfl rfl]
    generalize fitE S id=e at hno e1 ⊢
    simp -implicitDefEqProofs (disch:=omega) only [Rx,simprocAttr,F85,hno,e1]
  rw [if_neg hf]
  obtain ⟨c,rfl,hcL,hc0⟩:=c1k hf
  simp only [ne_eq,Decidable.not_not] at hf
  rw [hf] at hno
  have hat3:=hat b
  by_cases hl:b1i S b=false
  · rw [if_pos hl]
    refine ⟨av,g, ?_,hD,DFr.refl _ _ _ _ _⟩
    rw [c3p hl] at hat3
    rw [b0a T85,b0f rfl rfl]
    simp -implicitDefEqProofs (disch:=omega) only [Rx,simprocAttr,F85,hno,hat3]
  rw [if_neg hl]
  simp only [Bool.not_eq_false] at hl
  obtain ⟨w,rfl,hwL⟩:=b7n hl
  obtain ⟨ic,hpc,hic⟩:=b4h hcL
  obtain ⟨iw,hpw,hiw⟩:=b4h hwL
  have hat1:=hat (c:Int)
  rw [hpc] at hat1
  rw [hpw] at hat3
  have lc:=(List.getElem?_eq_some_iff.1 hic).1
  have lw:=(List.getElem?_eq_some_iff.1 hiw).1
  have kc:(ic:Int)<((b0h S).length:Int):=by omega
  have kw:(iw:Int)<((b0h S).length:Int):=by omega
  have kw0:¬ (iw:Int)<0:=by omega
  have rdc:=b3y hrep hic (j:=1) (by omega)
  have rdw:=b3y hrep hiw (j:=1) (by omega)
  simp only [nAV] at rdc rdw
  have uo:upOf S (c:Int)=(S.st c).up:=rfl
  have ub:upOf S (w:Int)=(S.st w).up:=rfl
  rw [uo,ub]
  simp only [Int.toNat_natCast]
  obtain ⟨hcN,hcl⟩:=b1m.1 hcL
  obtain ⟨hwN,hwl⟩:=b1m.1 hwL
  by_cases h16:(S.st c).up<0
  · rw [if_pos h16]
    refine ⟨av,g, ?_,hD,DFr.refl _ _ _ _ _⟩
    rw [b0a T85,b0f rfl rfl]
    simp -implicitDefEqProofs (disch:=omega) only [Rx,simprocAttr,F85,hno,hat1,hat3,kw0,hob,ho,hix,rdc,h16]
  rw [if_neg h16]
  obtain ⟨u,hu,huN,hul,hkid⟩:=hS.up_nat hcN (by omega)
  rw [hu] at h16 rdc ⊢
  by_cases e0:(w:Int)=(c:Int)
  · rw [if_pos (.inl e0)]
    have q1:((w:Int)==(c:Int))=true:=by simpa using e0
    refine ⟨av,g, ?_,hD,DFr.refl _ _ _ _ _⟩
    rw [b0a T85,b0f rfl rfl]
    simp -implicitDefEqProofs (disch:=omega) only [Rx,simprocAttr,F85,hno,hat1,hat3,kw0,hob,ho,hix,rdc,h16,q1]
  have q1:((w:Int)==(c:Int))=false:=by simpa using e0
  by_cases h18:(w:Int)≠0∧(S.st w).up≠(u:Int)
  · rw [if_pos (.inr h18)]
    refine ⟨av,g, ?_,hD,DFr.refl _ _ _ _ _⟩
    have e1:((w:Int)==0)=false:=by simpa using h18.1
    have e2:((S.st w).up==(u:Int))=false:=by simpa using h18.2
    rw [b0a T85,b0f rfl rfl]
    simp -implicitDefEqProofs (disch:=omega) only [Rx,simprocAttr,F85,hno,hat1,hat3,kw0,hob,ho,hix,rdc,rdw,h16,q1,e1,e2]
  rw [if_neg (fun h=>h.elim e0 h18)]
  simp only [Int.toNat_natCast]
  have huL:u ∈ b0h S:=b1m.2 ⟨huN,hul⟩
  obtain ⟨iu,hpu,hiu⟩:=b4h huL
  have hat2:=hat (u:Int)
  rw [hpu] at hat2
  have lu:=(List.getElem?_eq_some_iff.1 hiu).1
  have ku:(iu:Int)<((b0h S).length:Int):=by omega
  have hkl:=g2y hS huN
  have hK:=hD.kids u huL
  generalize hl1:(S.kd u).filter (fun k => !(k==(c:Int)))=l1
  have hl1n:l1.length≤(S.kd u).length:=by rw [← hl1];exact List.length_filter_le _ _
  have hbk:(w:Int)=0∨(w:Int) ∈ l1:=by
    by_cases e:(w:Int)=0
    · exact .inl e
    · right
      by_cases e2:(S.st w).up=(u:Int)
      · rw [← hl1,List.mem_filter]
        exact ⟨g2v hS hwN e2,by simp;omega⟩
      · exact absurd ⟨e,e2⟩ h18
  have hks:=g3a (l:=l1) (h:=(c:Int)) (by rw [← hl1];exact (hS.nodup u huN).filter _) (by rw [← hl1];exact fun h=>g1q hS huN (List.mem_filter.1 h).1) hbk
  have hout:=g9m (S.kd u) (c:Int) (by omega) [] (n:=n+2) (by omega)
  rw [hl1] at hout
  have hin:=h7p l1 (c:Int) (w:Int) (by omega) [] (n:=n+2) (by omega)
  rw [hks] at hin
  have hD1:=hD.core.kill (hD.away u huL).1 (hD.away u huL).2
  obtain ⟨o1,hk1,hr1⟩:=c8z hD1 hL huL (b0i (insI l1 (c:Int) (w:Int))) (n:=n+1) (by omega)
  have hD2:=hD.fix huL (insI l1 (c:Int) (w:Int)) hr1
  have hF2:=DFr.fix hD huL (b0i (insI l1 (c:Int) (w:Int))) o1
  have htk:b2c S c=⟨S.N,upd S.st c { S.st c with up := -1 },upd S.kd u l1⟩:=by
    unfold b2c
    rw [if_neg (by omega),hu,Int.toNat_natCast,hl1]
  have hlive:b0h (b2f (b2c S c) c u (w:Int))=b0h S:=c2w (by rw [htk];rfl) (fun k=>by
    rw [htk]
    simp only [b2f]
    by_cases e:k=c
    · subst e;rw [b0l,b0l]
    · rw [b0j e,b0j e])
  refine ⟨_,_, ?_,by
    rw [hlive]
    refine hD2.congr fun k hk=>⟨?_, ?_⟩
    · rw [htk]
      simp only [b2f]
      by_cases e:k=c
      · subst e;rw [b0l,b0l, ← hu]
      · rw [b0j e,b0j e]
    · rw [htk]
      simp only [b2f,b0l]
      by_cases e:k=u
      · subst e;rw [b0l,b0l]
      · rw [b0j e,b0j e,b0j e],by rw [hlive];exact hF2⟩
  have rdu:=b3y hrep hiu (j:=2) (by omega)
  simp only [nAV] at rdu
  generalize insI l1 (c:Int) (w:Int)=ks' at hin hk1
  have hfz:=hK.frz
  generalize c4a g (av u)=g1 at hk1 hfz
  generalize av u=au at rdu hfz
  rw [b0a T85,b0f rfl rfl]
  by_cases e:(w:Int)=0
  · have e1:((w:Int)==0)=true:=by simpa using e
    simp -implicitDefEqProofs (disch:=omega) only [Rx,simprocAttr,F85,hno,hat1,hat2,hat3,kw0,hob,ho,hix,rdc,rdu,h16,q1,e1,hout,hin,hk1,hfz]
  · have e1:((w:Int)==0)=false:=by simpa using e
    have e2:((S.st w).up==(u:Int))=true:=by
      by_cases e2:(S.st w).up=(u:Int)
      · simpa using e2
      · exact absurd ⟨e,e2⟩ h18
    simp -implicitDefEqProofs (disch:=omega) only [Rx,simprocAttr,F85,hno,hat1,hat2,hat3,kw0,hob,ho,hix,rdc,rdw,rdu,h16,q1,e1,e2,hout,hin,hk1,hfz]
end
end Go.TA.Tryz


end
section
/- The document's answer: a node ends, and all below it. -/
set_option maxRecDepth 100000
set_option maxHeartbeats 8000000
namespace Go.TA
noncomputable def b6w (S:MS) (id:Int):Int × MS:=if fitE S id≠0 then (fitE S id,S) else (0,endM (b2c S id.toNat) id)
theorem g6t {S S':MS} {t:Int} (h:∀ y:Int,y≠t→upOf S' y=upOf S y) (y:Int):Below S t y↔Below S' t y:=by
  constructor
  · intro hb
    induction hb with
    | here=>exact .here
    | @up y h1 h2 ih =>
      by_cases e:y=t
      · subst e;exact .here
      · exact .up h1 (by rw [h y e];exact ih)
  · intro hb
    induction hb with
    | here=>exact .here
    | @up y h1 h2 ih =>
      by_cases e:y=t
      · subst e;exact .here
      · exact .up h1 (by rw [← h y e];exact ih)
theorem c5b {S:MS} {c:Nat} (hc:0<c) (y:Int):Below S (c:Int) y↔Below (b2c S c) (c:Int) y:=by
 refine g6t (fun z hz => ?_) y
 unfold b2c
 split
 ·rfl
 ·have:z.toNat≠c:=by omega
  simp only [upOf]
  rw [b0j this]
theorem DM.swap {L L':List Nat} {st:Nat→b3j} {kd:Nat→List Int} {nx:Int} {av:Nat→AV} {p q:Nat} {g:List AObj} (h:DM L st kd nx av p q g) (hs:∀ k ∈ L',k ∈ L) (hn:L'.Nodup) {o:AObj} (hr:b3t 7 (b3f L' st av) o):DM L' st kd nx av p g.length ((g++[o]).set p (.cells 2 [[.own true g.length L'.length,.p (.int .i64 nx)]])):=by
 have hp:=(List.getElem?_eq_some_iff.1 h.core.obj).1
 refine ⟨⟨?_,⟨o, ?_,hr⟩,by omega,hn⟩,fun k hk => ?_,fun k hk => ?_,fun k k' hk hk' hne=>h.disj k k' (hs k hk) (hs k' hk') hne⟩
 ·rw [List.getElem?_set,if_pos rfl,if_pos (by rw [List.length_append];omega)]
 ·rw [List.getElem?_set,if_neg (by omega)];simp
 ·refine (h.kids k (hs k hk)).keep fun r hr => ?_
  have:=(h.kids k (hs k hk)).ref_lt hr
  rw [List.getElem?_set,if_neg (fun e=>(h.away k (hs k hk)).1 (by rw [e];exact hr)),List.getElem?_append_left this]
 ·refine ⟨(h.away k (hs k hk)).1,fun hr => ?_⟩
  have:=(h.kids k (hs k hk)).ref_lt hr
  omega
theorem DFr.swap {L L':List Nat} {av:Nat→AV} {p q:Nat} {g:List AObj} (hs:∀ k ∈ L',k ∈ L) (o o':AObj):DFr L av p q g L' av g.length ((g++[o]).set p o') where
 len:=by simp
 keep j hj hp hq hn:=by rw [List.getElem?_set,if_neg (fun e=>hp e.symm),List.getElem?_append_left hj]
 row:=.inr (Nat.le_refl _)
 refs k hk j hj _:=⟨k,hs k hk,hj⟩
theorem h0p {S:MS} {c:Nat} (hc:0<c):b0h (endM (b2c S c) (c:Int))=(b0h S).filter fun h:Nat => !(b2s S (h:Int) (c:Int)):=by
 classical
 unfold b0h
 rw [List.filter_filter,show (endM (b2c S c) (c:Int)).N=S.N from b5a S c]
 congr 1
 funext h
 simp only [endM]
 by_cases hb:Below (b2c S c) (c:Int) (h:Int)
 ·rw [if_pos hb,b2x.2 ((c5b hc _).2 hb)];rfl
 ·have:b2s S (h:Int) (c:Int)=false:=by
   cases e:b2s S (h:Int) (c:Int) with
   | false=>rfl
   | true=>exact absurd ((c5b hc _).1 (b2x.1 e)) hb
  rw [if_neg hb,c5c,this];simp
theorem h6b {S:MS} {c:Nat} (hc:0<c):∀ k ∈ (b0h S).filter fun h:Nat => !(b2s S (h:Int) (c:Int)),S.st k=(endM (b2c S c) (c:Int)).st k∧(b2c S c).kd k=(endM (b2c S c) (c:Int)).kd k:=by
 classical
 intro k hk
 have hu:=(List.mem_filter.1 hk).2
 simp only [Bool.not_eq_true'] at hu
 have hb:¬ Below (b2c S c) (c:Int) (k:Int):=fun h=>by
  rw [b2x.2 ((c5b hc _).2 h)] at hu;cases hu
 have hne:k≠c:=fun e=>by subst e;exact hb .here
 simp only [endM,if_neg hb,and_true]
 unfold b2c
 split
 ·rfl
 ·simp only;rw [b0j hne]
namespace Tryz
section
variable {R:Nat} {S:MS} {nx:Int} {av:Nat→AV} {p q:Nat} {g:List AObj}
def remS (p:Nat) (c k n i:Nat) (q1:Nat) (G:List AObj):St:=⟨[(0,DP p),(1,.p (.int .i64 c)),(7,.own true q1 k),(46,.p (.int .i64 n)),(47,.p (.int .i64 i))],[],G⟩
theorem g2i (hS : S.Ok R) (hD : DC (b0h S) S.st nx av p q g) (hL : (b0h S).length ≤ 4194304) (hno : ∀ h, h ∈ b0h S → noLocal (av h) = true) (c : Nat) {n : Nat} (hn : (b0h S).length < n) (hR : R + 3 < n) (N : Nat) (hN : (b0h S).length < N) :
    ∃ o,b0s (b0g T (n+2)) N (.loop g7j) (remS p c 0 (b0h S).length 0 g.length (g++[.pcells 7 []]))=some (.exit 0,⟨[(0,DP p),(7,.own true g.length ((b0h S).filter fun h:Nat => !(b2s S (h:Int) (c:Int))).length)],[],g++[o]⟩)∧b3t 7 (b3f ((b0h S).filter fun h:Nat => !(b2s S (h:Int) (c:Int))) S.st av) o:=by
  generalize hP:(fun h:Nat => !(b2s S (h:Int) (c:Int)))=P
  have key:=b1n (C:=b0g T (n+2)) (N:=N) (B:=g7j) (σ := Nat × AObj) (S:=fun s=>remS p c (((b0h S).take s.1).filter P).length (b0h S).length s.1 g.length (g++[s.2]))
    (I:=fun s=>s.1≤(b0h S).length∧b3t 7 (b3f (((b0h S).take s.1).filter P) S.st av) s.2) (μ := fun s=>(b0h S).length - s.1) (Q:=fun r=>∃ o,r=(.exit 0,⟨[(0,DP p),(7,.own true g.length ((b0h S).filter P).length)],[],g++[o]⟩)∧b3t 7 (b3f ((b0h S).filter P) S.st av) o) ?_ (0,.pcells 7 []) ⟨by simp,b3t.nil 7⟩ (by simp only;omega)
  · obtain ⟨r,hr,o,rfl,hro⟩:=key
    exact ⟨o,by simpa using hr,hro⟩
  rintro ⟨i,oi⟩ ⟨h1,h2⟩
  simp only at h1 h2 ⊢
  by_cases hi:i<(b0h S).length
  · left
    obtain ⟨h,hh⟩:=b0p hi
    have hhL:=List.mem_of_getElem? hh
    have hDi:=hD.more [oi]
    obtain ⟨o,ho,hrep⟩:=hDi.row
    have hob:=hDi.obj
    have hix:=fun s i=>hrep.idx b1y s true q i
    have rd0:=b3y hrep hh (j:=0) (by omega)
    have rdA:=hrep.rdA b1y hi (c3k hh) rfl
    have un:=d0w hS hDi hL c h hhL (n:=n) hn hR
    have k1:(i:Int)<((b0h S).length:Int):=by omega
    have hs:((b0h S).take (i+1)).filter P=((b0h S).take i).filter P++if P h=true then [h] else []:=by
      rw [List.take_add_one,hh,List.filter_append]
      simp [List.filter_cons]
    have hlen:(((b0h S).take i).filter P).length≤4194304:=by
      have h3:=List.length_filter_le P ((b0h S).take i)
      rw [List.length_take] at h3
      omega
    cases hb:b2s S (h:Int) (c:Int) with
    | true =>
      have hPh:P h=false:=by rw [← hP];simp [hb]
      rw [hPh] at hs
      simp only [Bool.false_eq_true,if_false,List.append_nil] at hs
      rw [hb] at un
      refine ⟨(i+1,oi), ?_,⟨by simp only;omega,by simp only [hs];exact h2⟩,by simp only;omega⟩
      simp only [hs,remS]
      simp only [nAV] at rd0
      generalize g++[oi]=G at hob ho un
      simp -implicitDefEqProofs (disch:=omega) only [Rx,simprocAttr,g7j,k1,hob,ho,hix,rd0,un]
    | false =>
      have hPh:P h=true:=by rw [← hP];simp [hb]
      rw [hPh,if_pos rfl] at hs
      rw [hb] at un
      have hnl:b0n (nAV h (S.st h) (av h))=true:=by simp [nAV,b0n,noLocal,hno h hhL]
      obtain ⟨o',happ,hro'⟩:=h2.app (bytes:=112) b1y (by omega) (c:=nAV h (S.st h) (av h)) rfl hnl
      have hpush:b3f (((b0h S).take i).filter P) S.st av++[nAV h (S.st h) (av h)]=b3f (((b0h S).take (i+1)).filter P) S.st av:=by
        rw [hs];simp [b3f]
      rw [hpush] at hro'
      refine ⟨(i+1,o'), ?_,⟨by simp only;omega,hro'⟩,by simp only;omega⟩
      have hsl:(((b0h S).take (i+1)).filter P).length=(((b0h S).take i).filter P).length+1:=by rw [hs,List.length_append];rfl
      have hcv:=d4z (nAV h (S.st h) (av h))
      have hlast:(g++[oi])[g.length]? = some oi:=by simp
      have hset:(g++[oi]).set g.length o'=g++[o']:=by simp [List.set_append]
      simp only [hsl,remS]
      simp only [nAV] at rd0 rdA hcv happ
      generalize b4i [.p (.int .i64 (h:Int)),.p (.int .i64 (S.st h).up),av h,.p (.str (S.st h).tag),.p (.str (S.st h).key),.p (.str (S.st h).text),.p (.list ((S.st h).attrs.map Attr.pv))]=v at rdA hcv
      generalize g++[o']=G' at hset
      generalize g++[oi]=G at hob ho un hlast hset
      simp -implicitDefEqProofs (disch:=omega) only [Rx,simprocAttr,g7j,k1,hob,ho,hix,rd0,rdA,un,hcv,happ,hlast,hset]
  · right
    obtain rfl:i=(b0h S).length:=by omega
    have k1:¬ ((b0h S).length:Int)<((b0h S).length:Int):=by omega
    rw [List.take_length] at h2
    refine ⟨_, ?_, ?_,oi,rfl,h2⟩
    · simp only [List.take_length,remS]
      simp -implicitDefEqProofs (disch:=omega) only [Rx,simprocAttr,g7j,k1]
    · simp
theorem d9n (hS:S.Ok R) (hD:DM (b0h S) S.st S.kd nx av p q g) (hL:(b0h S).length≤4194304) (id:Int) {n:Nat} (hn:(b0h S).length<n) (hR:R+3<n) :
  ∃ av' q' g',b0g T (n+4) 86 [DP p,.p (.int .i64 id)] g=some (.p (.int .i64 (b6w S id).1),g')∧DM (b0h (b6w S id).2) (b6w S id).2.st (b6w S id).2.kd nx av' p q' g'∧DFr (b0h S) av p q g (b0h (b6w S id).2) av' q' g':=by
 obtain ⟨o,ho,hrep⟩:=hD.core.row
 have hob:=hD.core.obj
 have hix:=fun s i=>hrep.idx b1y s true q i
 have hno:=b8t hD.core hL id (n:=n+1) (by omega)
 have hat:=fun id=>c0z hD.core hL id (n:=n+2) (by omega)
 unfold b6w
 by_cases hf:fitE S id≠0
 ·rw [if_pos hf]
  have e1:(fitE S id==0)=false:=by simpa using hf
  refine ⟨av,q,g, ?_,hD,DFr.refl _ _ _ _ _⟩
  rw [b0a T86,b0f rfl rfl]
  generalize fitE S id=e at hno e1 ⊢
  simp -implicitDefEqProofs (disch:=omega) only [Rx,simprocAttr,F86,hno,e1]
 rw [if_neg hf]
 obtain ⟨c,rfl,hcL,hc0⟩:=c1k hf
 simp only [ne_eq,Decidable.not_not] at hf
 rw [hf] at hno
 obtain ⟨ic,hpc,hic⟩:=b4h hcL
 have hat1:=hat (c:Int)
 rw [hpc] at hat1
 have lc:=(List.getElem?_eq_some_iff.1 hic).1
 have kc:(ic:Int)<((b0h S).length:Int):=by omega
 have rdc:=b3y hrep hic (j:=1) (by omega)
 simp only [nAV] at rdc
 obtain ⟨hcN,hcl⟩:=b1m.1 hcL
 simp only [Int.toNat_natCast]
 have hfil:∀ k ∈ (b0h S).filter fun h:Nat => !(b2s S (h:Int) (c:Int)),k ∈ b0h S:=fun k hk=>(List.mem_filter.1 hk).1
 have hfn:((b0h S).filter fun h:Nat => !(b2s S (h:Int) (c:Int))).Nodup:=(g0f S).filter _
 have hle:=h0p (S:=S) hc0
 have hke:=h6b (S:=S) hc0
 by_cases h16:(S.st c).up<0
 ·have htk:b2c S c=S:=by unfold b2c;rw [if_pos h16]
  obtain ⟨oe,hloop,hro⟩:=g2i hS hD.core hL (fun h hh=>(hD.kids h hh).noLocal) c (n:=n+1) (by omega) (by omega) (n+3) (by omega)
  have hDs:=hD.swap hfil hfn hro
  have hFs:=DFr.swap (L:=b0h S) (av:=av) (p:=p) (q:=q) (g:=g) hfil oe (.cells 2 [[.own true g.length ((b0h S).filter fun h:Nat => !(b2s S (h:Int) (c:Int))).length,.p (.int .i64 nx)]])
  refine ⟨av,g.length,_, ?_,by rw [hle];exact hDs.congr fun k hk=>by rw [← (hke k hk).1, ← (hke k hk).2,htk];exact ⟨rfl,rfl⟩,by rw [hle];exact hFs⟩
  have k16:¬ (S.st c).up ≥ 0:=by omega
  have hob2:=(hD.core.more [oe]).obj
  have hob3:=(hD.core.more [.pcells 7 []]).obj
  simp only [remS,Int.natCast_zero] at hloop
  generalize ((b0h S).filter fun h:Nat => !(b2s S (h:Int) (c:Int))).length=k at hloop
  rw [b0a T86,b0f rfl rfl]
  simp -implicitDefEqProofs (disch:=omega) only [Rx,simprocAttr,F86,hno,hat1,hob,ho,hix,rdc,k16,hloop,hob2,hob3]
 ·obtain ⟨u,hu,huN,hul,hkid⟩:=hS.up_nat hcN (by omega)
  have huL:u ∈ b0h S:=b1m.2 ⟨huN,hul⟩
  obtain ⟨iu,hpu,hiu⟩:=b4h huL
  have hat2:=hat (u:Int)
  rw [hpu] at hat2
  have lu:=(List.getElem?_eq_some_iff.1 hiu).1
  have ku:(iu:Int)<((b0h S).length:Int):=by omega
  have hkl:=g2y hS huN
  have hK:=hD.kids u huL
  have hout:=g9m (S.kd u) (c:Int) (by omega) [] (n:=n+2) (by omega)
  generalize hl1:(S.kd u).filter (fun k => !(k==(c:Int)))=l1 at hout
  have hD1:=hD.core.kill (hD.away u huL).1 (hD.away u huL).2
  obtain ⟨o1,hk1,hr1⟩:=c8z hD1 hL huL (b0i l1) (n:=n+1) (by omega)
  have hD2:=hD.fix huL l1 hr1
  have hF2:=DFr.fix hD huL (b0i l1) o1
  generalize hav2:upd av u (.p (.list (b0i l1)))=av2 at hD2 hF2
  generalize hg2:(c4a g (av u)).set q o1=g2 at hk1 hD2 hF2
  have htk:(b2c S c).kd=upd S.kd u l1:=by
   unfold b2c
   rw [if_neg h16,hu,Int.toNat_natCast,hl1]
  obtain ⟨oe,hloop,hro⟩:=g2i hS hD2.core hL (fun h hh=>(hD2.kids h hh).noLocal) c (n:=n+1) (by omega) (by omega) (n+3) (by omega)
  have hDs:=hD2.swap hfil hfn hro
  have hFs:=hF2.trans (DFr.swap (L:=b0h S) (av:=av2) (p:=p) (q:=q) (g:=g2) hfil oe (.cells 2 [[.own true g2.length ((b0h S).filter fun h:Nat => !(b2s S (h:Int) (c:Int))).length,.p (.int .i64 nx)]]))
  refine ⟨av2,g2.length,_, ?_,by rw [hle];exact hDs.congr fun k hk=>by rw [← (hke k hk).1, ← (hke k hk).2,htk];exact ⟨rfl,rfl⟩,by rw [hle];exact hFs⟩
  have k16:(u:Int) ≥ 0:=by omega
  rw [hu] at rdc
  have rdu:=b3y hrep hiu (j:=2) (by omega)
  simp only [nAV] at rdu
  have hob2:=(hD2.core.more [oe]).obj
  have hob3:=(hD2.core.more [.pcells 7 []]).obj
  have hfz:=hK.frz
  generalize c4a g (av u)=g1 at hk1 hfz
  generalize av u=au at rdu hfz
  simp only [remS,Int.natCast_zero] at hloop
  generalize ((b0h S).filter fun h:Nat => !(b2s S (h:Int) (c:Int))).length=k at hloop
  rw [b0a T86,b0f rfl rfl]
  simp -implicitDefEqProofs (disch:=omega) only [Rx,simprocAttr,F86,hno,hat1,hat2,hob,ho,hix,rdc,rdu,k16,hout,hk1,hfz,hloop,hob2,hob3]
end
end Tryz
end Go.TA


end
section
/- Attributes with one more, or without one: the document's answer. -/
set_option maxRecDepth 100000
set_option maxHeartbeats 8000000
namespace Go.TA
def g0s (l:List Attr) (name:Bs):Int:=if fstAt l name<l.length then (fstAt l name:Int) else -1
theorem d6z {l:List Attr} {name:Bs} {i:Nat} {a:Attr} (ha:l[i]? = some a) (h:i=fstAt l name):a.name=name:=by
 obtain ⟨hi,e⟩:=List.getElem?_eq_some_iff.1 ha
 have:=List.findIdx_getElem (xs:=l) (p:=fun a=>a.name==name) (w:=by unfold fstAt at h;omega)
 unfold fstAt at h
 simp only [← h,e] at this
 simpa using this
theorem g5k {l:List Attr} {name:Bs} {i:Nat} {a:Attr} (ha:l[i]? = some a) (h:i<fstAt l name):a.name≠name:=by
 obtain ⟨hi,e⟩:=List.getElem?_eq_some_iff.1 ha
 have:=List.not_of_lt_findIdx (xs:=l) (p:=fun a:Attr=>a.name==name) (i:=i) (by unfold fstAt at h;exact h)
 rw [e] at this
 simpa using this
theorem c3f {α : Type} {l:List α} {i:Nat} {a : α} (h:l[i]? = some a):l.take (i+1)=l.take i++[a]:=by
 rw [List.take_add_one,h];rfl
namespace Tryz
theorem g5s (l : List Attr) (name : Bs) (hl : l.length ≤ 1048577) (g : List AObj) {n : Nat} (hn : l.length < n) :
    b0g T (n+1) 128 [.p (.list (l.map Attr.pv)),.p (.str name)] g=some (.p (.int .i64 (g0s l name)),g):=by
  have ll:(l.map Attr.pv).length=l.length:=by simp
  have key:=b1n (C:=b0g T n) (N:=n) (B:=d8o) (σ := Nat) (S:=fun i=>⟨[(0,.p (.list (l.map Attr.pv))),(1,.p (.str name)),(7,.p (.int .i64 l.length)),(8,.p (.int .i64 i))],[],[]⟩)
    (I:=fun i=>i≤l.length∧i≤fstAt l name) (μ := fun i=>l.length - i) (Q:=fun r=>r=if fstAt l name<l.length then (.ret,⟨[(4,.p (.int .i64 (fstAt l name)))],[],[]⟩) else (.exit 0,⟨[],[],[]⟩)) ?_ 0 ⟨by omega,by omega⟩ (by omega)
  · obtain ⟨r,hq,rfl⟩:=key
    simp only [Int.natCast_zero] at hq
    unfold g0s
    rw [b0a T128,run_pure rfl rfl rfl]
    by_cases hc:fstAt l name<l.length
    · rw [if_pos hc] at hq ⊢
      simp -implicitDefEqProofs (disch:=omega) only [Rx,simprocAttr,F128,hq,ll]
    · rw [if_neg hc] at hq ⊢
      simp -implicitDefEqProofs (disch:=omega) only [Rx,simprocAttr,F128,hq,ll]
  rintro i ⟨h1,h2⟩
  by_cases hi:i<l.length
  · have k1:(i:Int)<(l.length:Int):=by omega
    obtain ⟨a,ha⟩:=b0p hi
    have hg:=b0u (f:=Attr.pv) ha
    by_cases e:i=fstAt l name
    · right
      have hp:(a.name==name)=true:=by simpa using d6z ha e
      refine ⟨_, ?_, ?_,rfl⟩
      · rw [if_pos (by omega), ← e]
        simp -implicitDefEqProofs (disch:=omega) only [Rx,simprocAttr,d8o,k1,hg,ll,Attr.pv,hp]
      · rw [if_pos (by omega)];simp
    · left
      have hp:(a.name==name)=false:=by simpa using g5k ha (by omega)
      refine ⟨i+1, ?_,⟨by omega,by omega⟩,by omega⟩
      simp -implicitDefEqProofs (disch:=omega) only [Rx,simprocAttr,d8o,k1,hg,ll,Attr.pv,hp]
  · right
    obtain rfl:i=l.length:=by omega
    have k1:¬ (l.length:Int)<(l.length:Int):=by omega
    refine ⟨_, ?_, ?_,rfl⟩
    · rw [if_neg (by omega)]
      simp -implicitDefEqProofs (disch:=omega) only [Rx,simprocAttr,d8o,k1]
    · rw [if_neg (by omega)];simp
theorem d2u (l:List Attr) (name:Bs) (hl:l.length≤1048577) (g:List AObj) {n:Nat} (hn:l.length<n) :
  b0g T (n+1) 118 [.p (.list (l.map Attr.pv)),.p (.str name)] g=some (.tuple [.p (.list ((b3n l name).map Attr.pv)),.p (.bool (decide ((b3n l name).length<l.length)))],g):=by
 have ll:(l.map Attr.pv).length=l.length:=by simp
 unfold b3n
 have hlen:∀ i,((l.take i).filter (notN name)).length≤l.length:=fun i=>by
  have:=List.length_filter_le (notN name) (l.take i)
  have h2:(l.take i).length≤l.length:=by rw [List.length_take];omega
  omega
 have key:=b1n (C:=b0g T n) (N:=n) (B:=d8q) (σ := Nat) (S:=fun i=>⟨[(0,.p (.list (l.map Attr.pv))),(1,.p (.str name)),(6,.own false 1000 ((l.take i).filter (notN name)).length),(9,.p (.int .i64 l.length)),(10,.p (.int .i64 i))],[(1000,.pcells 2 (((l.take i).filter (notN name)).map Attr.pv))],[]⟩)
  (I:=fun i=>i≤l.length) (μ := fun i=>l.length - i) (Q:=fun r=>r=(.exit 0,⟨[(0,.p (.list (l.map Attr.pv))),(6,.own false 1000 (l.filter (notN name)).length)],[(1000,.pcells 2 ((l.filter (notN name)).map Attr.pv))],[]⟩)) ?_ 0 (by omega) (by omega)
 ·obtain ⟨r,hq,rfl⟩:=key
  simp only [List.take_zero,List.filter_nil,List.length_nil,List.map_nil,Int.natCast_zero] at hq
  have hll:=hlen l.length
  rw [List.take_length] at hll
  generalize l.filter (notN name)=acc at hq hll
  have la:(acc.map Attr.pv).length=acc.length:=by simp
  rw [b0a T118,run_pure rfl rfl rfl]
  by_cases hc:acc.length<l.length
  ·have k1:(acc.length:Int)<(l.length:Int):=by omega
   have ed:decide (acc.length<l.length)=true:=by simpa using hc
   simp -implicitDefEqProofs (disch:=omega) only [Rx,simprocAttr,F118,hq,ll,la,k1,ed]
  ·have k1:¬ (acc.length:Int)<(l.length:Int):=by omega
   have ed:decide (acc.length<l.length)=false:=by simpa using hc
   simp -implicitDefEqProofs (disch:=omega) only [Rx,simprocAttr,F118,hq,ll,la,k1,ed]
 intro i h1
 by_cases hi:i<l.length
 ·left
  have k1:(i:Int)<(l.length:Int):=by omega
  obtain ⟨a,ha⟩:=b0p hi
  have hg:=b0u (f:=Attr.pv) ha
  have hs:(l.take (i+1)).filter (notN name)=(l.take i).filter (notN name)++if notN name a=true then [a] else []:=by
   rw [c3f ha,List.filter_append]
   simp [List.filter_cons]
  have hll:=hlen i
  refine ⟨i+1, ?_,by omega,by omega⟩
  rw [hs]
  generalize (l.take i).filter (notN name)=acc at hll
  have la:(acc.map Attr.pv).length=acc.length:=by simp
  by_cases e:a.name=name
  ·have e1:(a.name==name)=true:=by simpa using e
   have hfx:notN name a=false:=by simp [notN,e]
   rw [hfx]
   simp only [Bool.false_eq_true,if_false,List.append_nil]
   simp -implicitDefEqProofs (disch:=omega) only [Rx,simprocAttr,d8q,k1,hg,ll,Attr.pv,e1]
  ·have e1:(a.name==name)=false:=by simpa using e
   have hfx:notN name a=true:=by simp [notN,e]
   rw [hfx,if_pos rfl]
   have os1:acc.map Attr.pv++[[.str a.name,.str a.value]]=(acc++[a]).map Attr.pv:=by simp [Attr.pv]
   have ol1:((acc++[a]).map Attr.pv).length=acc.length+1:=by simp
   have ol3:(acc++[a]).length=acc.length+1:=by simp
   rw [ol3]
   generalize acc++[a]=acc1 at os1 ol1
   simp -implicitDefEqProofs (disch:=omega) only [Rx,simprocAttr,d8q,k1,hg,ll,la,Attr.pv,e1,os1,ol1]
 ·right
  obtain rfl:i=l.length:=by omega
  have k1:¬ (l.length:Int)<(l.length:Int):=by omega
  refine ⟨_, ?_, ?_,rfl⟩
  ·rw [List.take_length]
   simp -implicitDefEqProofs (disch:=omega) only [Rx,simprocAttr,d8q,k1]
  ·simp
def leAt (l:List Attr) (name:Bs):Nat:=l.findIdx (fun a=>decide (0<cmpB a.name name))
theorem h9d (l : List Attr) (name v : Bs) (at' : Int) (hl : l.length ≤ 1048577) (hnl : name.length ≤ 1048577) {n : Nat} (hn : name.length < n) (N : Nat) (hN : l.length < N) :
    b0s (b0g T (n+1)) N (.loop d2r) ⟨[(0,.p (.list (l.map Attr.pv))),(1,.p (.str name)),(2,.p (.str v)),(7,.p (.int .i64 at')),(8,.p (.int .i64 ((0:Nat):Int)))],[],[]⟩=some (.exit 0,⟨[(0,.p (.list (l.map Attr.pv))),(1,.p (.str name)),(2,.p (.str v)),(7,.p (.int .i64 at')),(8,.p (.int .i64 (leAt l name)))],[],[]⟩):=by
  have ll:(l.map Attr.pv).length=l.length:=by simp
  have hle:leAt l name≤l.length:=List.findIdx_le_length
  refine b1q (C:=b0g T (n+1)) (N:=N) (B:=d2r) (σ := Nat) (S:=fun i=>⟨[(0,.p (.list (l.map Attr.pv))),(1,.p (.str name)),(2,.p (.str v)),(7,.p (.int .i64 at')),(8,.p (.int .i64 i))],[],[]⟩) (I:=fun i=>i≤leAt l name) (μ := fun i=>l.length - i) (Φ := fun i=>(.exit 0,⟨[(0,.p (.list (l.map Attr.pv))),(1,.p (.str name)),(2,.p (.str v)),(7,.p (.int .i64 at')),(8,.p (.int .i64 (leAt l name)))],[],[]⟩)) ?_ 0 (by omega) (by omega)
  intro i hi
  by_cases h1:i<l.length
  · have k1:(i:Int)<(l.length:Int):=by omega
    obtain ⟨a,ha⟩:=b0p h1
    have hg:=b0u (f:=Attr.pv) ha
    obtain ⟨_,ea⟩:=List.getElem?_eq_some_iff.1 ha
    have hc:=h2g (n:=n) a.name name [] hn hnl
    by_cases e:i=leAt l name
    · right
      have hp:¬ cmpB a.name name≤0:=by
        have:=List.findIdx_getElem (xs:=l) (p:=fun a=>decide (0<cmpB a.name name)) (w:=by unfold leAt at e;omega)
        unfold leAt at e
        simp only [← e,ea] at this
        simp only [decide_eq_true_eq] at this
        omega
      refine ⟨?_,by simp⟩
      rw [← e]
      simp -implicitDefEqProofs (disch:=omega) only [Rx,simprocAttr,d2r,k1,hg,ll,Attr.pv,hc,hp]
    · left
      have hp:cmpB a.name name≤0:=by
        have:=List.not_of_lt_findIdx (xs:=l) (p:=fun a=>decide (0<cmpB a.name name)) (i:=i) (by unfold leAt at e hi;omega)
        rw [ea] at this
        have h2:¬ 0<cmpB a.name name:=by simpa using this
        omega
      refine ⟨i+1, ?_,by omega,by omega,rfl⟩
      simp -implicitDefEqProofs (disch:=omega) only [Rx,simprocAttr,d2r,k1,hg,ll,Attr.pv,hc,hp]
  · right
    have e:i=leAt l name:=by omega
    have k1:¬ (i:Int)<(l.length:Int):=by omega
    refine ⟨?_,by simp⟩
    rw [← e]
    simp -implicitDefEqProofs (disch:=omega) only [Rx,simprocAttr,d2r,k1,ll]
theorem h5m {l : List Attr} {name : Bs} (h : ¬ fstAt l name < l.length) : leAt l name = posAt l name := by
  unfold leAt posAt
  have hne:∀ a ∈ l,a.name≠name:=fun a ha e=>h (List.findIdx_lt_length_of_exists ⟨a,ha,by simpa using e⟩)
  clear h
  induction l with
  | nil=>rfl
  | cons a l ih =>
    have h1:=hne a (by simp)
    have h2:=c9o h1
    have h3:(a.name==name)=false:=by simpa using h1
    rw [h3,Bool.or_false] at h2
    have e:decide (0<cmpB a.name name) = !(b3b a.name name):=by
      by_cases hs:b3b a.name name=true
      · rw [hs] at h2
        have h4:¬ 0<cmpB a.name name:=fun h=>by have:=h2.1 h;cases this
        simp [hs,h4]
      · simp only [Bool.not_eq_true] at hs
        simp [hs,h2.2 hs]
    rw [List.findIdx_cons,List.findIdx_cons,e,ih (fun b hb=>hne b (by simp [hb]))]
def c6v (l:List Attr) (name v:Bs) (at':Int) (to:Nat) (acc:List Attr) (i:Nat):St:=⟨[(0,.p (.list (l.map Attr.pv))),(1,.p (.str name)),(2,.p (.str v)),(7,.p (.int .i64 at')),(8,.p (.int .i64 to)),(9,.own false 1000 acc.length),(32,.p (.int .i64 l.length)),(33,.p (.int .i64 i))],[(1000,.pcells 2 (acc.map Attr.pv))],[]⟩
def c7m (l:List Attr) (name v:Bs) (at':Int) (to:Nat) (acc:List Attr):Ex × St:=(.exit 2,⟨[(0,.p (.list (l.map Attr.pv))),(1,.p (.str name)),(2,.p (.str v)),(7,.p (.int .i64 at')),(8,.p (.int .i64 to)),(9,.own false 1000 acc.length)],[(1000,.pcells 2 (acc.map Attr.pv))],[]⟩)
theorem g4a (l:List Attr) (name v:Bs) (to k:Nat) (hl:l.length≤1048577) (hk:k<l.length) (hkn:∀ a,l[k]? = some a→a.name=name) (C:b0m) (N:Nat) (hN:l.length<N) :
  b0s C N (.loop c1c) (c6v l name v (k:Int) to [] 0)=some (c7m l name v (k:Int) to (l.set k ⟨name,v⟩)):=by
 have ll:(l.map Attr.pv).length=l.length:=by simp
 have key:=b1n (C:=C) (N:=N) (B:=c1c) (σ := Nat) (S:=fun i=>c6v l name v (k:Int) to ((l.set k ⟨name,v⟩).take i) i) (I:=fun i=>i≤l.length) (μ := fun i=>l.length - i) (Q:=fun r=>r=c7m l name v (k:Int) to (l.set k ⟨name,v⟩)) ?_ 0 (by omega) (by omega)
 ·obtain ⟨r,hq,rfl⟩:=key
  simpa using hq
 intro i hi
 by_cases h1:i<l.length
 ·left
  have k1:(i:Int)<(l.length:Int):=by omega
  obtain ⟨a,ha⟩:=b0p h1
  have hg:=b0u (f:=Attr.pv) ha
  have hw:(l.set k ⟨name,v⟩)[i]? = some (if k=i then ⟨name,v⟩ else a):=by
   rw [List.getElem?_set]
   split
   ·rename_i e;subst e;first | rfl | rw [if_pos h1]
   ·rw [ha]
  have hs:=c3f hw
  have hll:((l.set k ⟨name,v⟩).take i).length≤1048577:=by rw [List.length_take,List.length_set];omega
  refine ⟨i+1, ?_,by omega,by omega⟩
  simp only [c6v]
  rw [hs]
  generalize (l.set k ⟨name,v⟩).take i=acc at hll
  have la:(acc.map Attr.pv).length=acc.length:=by simp
  have k0:¬ (k:Int)<0:=by omega
  by_cases e:k=i
  ·rw [if_pos e]
   have e1:((i:Int)==(k:Int))=true:=by simp;omega
   have hn:=hkn a (by rw [e];exact ha)
   have os1:acc.map Attr.pv++[[.str name,.str v]]=(acc++[(⟨name,v⟩:Attr)]).map Attr.pv:=by simp [Attr.pv]
   have ol1:((acc++[(⟨name,v⟩:Attr)]).map Attr.pv).length=acc.length+1:=by simp
   have ol3:(acc++[(⟨name,v⟩:Attr)]).length=acc.length+1:=by simp
   rw [ol3]
   generalize acc++[(⟨name,v⟩:Attr)]=acc1 at os1 ol1
   simp -implicitDefEqProofs (disch:=omega) only [Rx,simprocAttr,c1c,k0,k1,hg,ll,la,Attr.pv,e1,hn,os1,ol1]
  ·rw [if_neg e]
   have e1:((i:Int)==(k:Int))=false:=by simp;omega
   have os1:acc.map Attr.pv++[[.str a.name,.str a.value]]=(acc++[a]).map Attr.pv:=by simp [Attr.pv]
   have ol1:((acc++[a]).map Attr.pv).length=acc.length+1:=by simp
   have ol3:(acc++[a]).length=acc.length+1:=by simp
   rw [ol3]
   generalize acc++[a]=acc1 at os1 ol1
   simp -implicitDefEqProofs (disch:=omega) only [Rx,simprocAttr,c1c,k0,k1,hg,ll,la,Attr.pv,e1,os1,ol1]
 ·right
  obtain rfl:i=l.length:=by omega
  have k1:¬ (l.length:Int)<(l.length:Int):=by omega
  refine ⟨_, ?_, ?_,rfl⟩
  ·have:(l.set k ⟨name,v⟩).take l.length=l.set k ⟨name,v⟩:=List.take_of_length_le (by simp)
   rw [this]
   simp only [c6v,c7m]
   simp -implicitDefEqProofs (disch:=omega) only [Rx,simprocAttr,c1c,k1]
  ·simp [c7m]
def putA (l:List Attr) (to:Nat) (a:Attr) (i:Nat):List Attr:=if i≤to then l.take i else l.take to++a::(l.drop to).take (i - to)
theorem h3t (l : List Attr) (name v : Bs) (to : Nat) (hl : l.length ≤ 1048577) (C : b0m) (N : Nat) (hN : l.length < N) :
    b0s C N (.loop c1c) (c6v l name v (-1) to [] 0)=some (c7m l name v (-1) to (putA l to ⟨name,v⟩ l.length)):=by
  have ll:(l.map Attr.pv).length=l.length:=by simp
  have key:=b1n (C:=C) (N:=N) (B:=c1c) (σ := Nat) (S:=fun i=>c6v l name v (-1) to (putA l to ⟨name,v⟩ i) i) (I:=fun i=>i≤l.length) (μ := fun i=>l.length - i) (Q:=fun r=>r=c7m l name v (-1) to (putA l to ⟨name,v⟩ l.length)) ?_ 0 (by omega) (by omega)
  · obtain ⟨r,hq,rfl⟩:=key
    have:putA l to ⟨name,v⟩ 0=[]:=by simp [putA]
    rw [this] at hq
    exact hq
  intro i hi
  by_cases h1:i<l.length
  · left
    have k1:(i:Int)<(l.length:Int):=by omega
    obtain ⟨a,ha⟩:=b0p h1
    have hg:=b0u (f:=Attr.pv) ha
    have e9:((i:Int) == -1)=false:=by simp <;> omega
    have hll:(putA l to ⟨name,v⟩ i).length≤1048579:=by
      unfold putA
      split
      · rw [List.length_take];omega
      · rw [List.length_append,List.length_cons,List.length_take,List.length_take,List.length_drop];omega
    refine ⟨i+1, ?_,by omega,by omega⟩
    by_cases e:i=to
    · have hs:putA l to ⟨name,v⟩ (i+1)=putA l to ⟨name,v⟩ i++[⟨name,v⟩]++[a]:=by
        subst e
        have hd:l.drop i=a::l.drop (i+1):=by rw [List.drop_eq_getElem?_toList_append,ha];rfl
        simp only [putA,Nat.le_refl,if_true]
        rw [if_neg (by omega),show i+1 - i=1 by omega,hd]
        simp
      have e1:((i:Int)==(to:Int))=true:=by simp;omega
      rw [hs]
      generalize putA l to ⟨name,v⟩ i=acc at hll
      have la:(acc.map Attr.pv).length=acc.length:=by simp
      have os1:acc.map Attr.pv++[[.str name,.str v]]=(acc++[(⟨name,v⟩:Attr)]).map Attr.pv:=by simp [Attr.pv]
      have ol1:((acc++[(⟨name,v⟩:Attr)]).map Attr.pv).length=acc.length+1:=by simp
      have os2:(acc++[(⟨name,v⟩:Attr)]).map Attr.pv++[[.str a.name,.str a.value]]=(acc++[(⟨name,v⟩:Attr)]++[a]).map Attr.pv:=by simp [Attr.pv]
      have ol2:((acc++[(⟨name,v⟩:Attr)]++[a]).map Attr.pv).length=acc.length+1+1:=by simp
      have ol3:(acc++[(⟨name,v⟩:Attr)]++[a]).length=acc.length+1+1:=by simp
      simp only [c6v]
      rw [ol3]
      generalize acc++[(⟨name,v⟩:Attr)]++[a]=acc2 at os2 ol2
      generalize acc++[(⟨name,v⟩:Attr)]=acc1 at os1 os2 ol1
      simp -implicitDefEqProofs (disch:=omega) only [Rx,simprocAttr,c1c,k1,hg,ll,la,Attr.pv,e1,e9,os1,os2,ol1,ol2]
    · have hs:putA l to ⟨name,v⟩ (i+1)=putA l to ⟨name,v⟩ i++[a]:=by
        unfold putA
        by_cases e2:i+1≤to
        · rw [if_pos e2,if_pos (by omega),c3f ha]
        · rw [if_neg e2,if_neg (by omega),show i+1 - to=i - to+1 by omega]
          have hd:(l.drop to)[i - to]? = some a:=by rw [List.getElem?_drop,show to+(i - to)=i by omega];exact ha
          rw [c3f hd]
          simp
      have e1:((i:Int)==(to:Int))=false:=by simp;omega
      rw [hs]
      generalize putA l to ⟨name,v⟩ i=acc at hll
      have la:(acc.map Attr.pv).length=acc.length:=by simp
      have os1:acc.map Attr.pv++[[.str a.name,.str a.value]]=(acc++[a]).map Attr.pv:=by simp [Attr.pv]
      have ol1:((acc++[a]).map Attr.pv).length=acc.length+1:=by simp
      have ol3:(acc++[a]).length=acc.length+1:=by simp
      simp only [c6v]
      rw [ol3]
      generalize acc++[a]=acc1 at os1 ol1
      simp -implicitDefEqProofs (disch:=omega) only [Rx,simprocAttr,c1c,k1,hg,ll,la,Attr.pv,e1,e9,os1,ol1]
  · right
    obtain rfl:i=l.length:=by omega
    have k1:¬ (l.length:Int)<(l.length:Int):=by omega
    refine ⟨_, ?_, ?_,rfl⟩
    · simp only [c6v,c7m]
      simp -implicitDefEqProofs (disch:=omega) only [Rx,simprocAttr,c1c,k1]
    · simp [c7m]
theorem g4b (l : List Attr) (name v : Bs) (hl : l.length ≤ 1048577) (hnl : name.length ≤ 1048577) (g : List AObj) {n : Nat} (hn : l.length < n) (hn2 : name.length < n) :
    b0g T (n+2) 117 [.p (.list (l.map Attr.pv)),.p (.str name),.p (.str v)] g=some (.p (.list ((b9y l name v).map Attr.pv)),g):=by
  have ll:(l.map Attr.pv).length=l.length:=by simp
  have hfi:=fun g=>g5s l name hl g (n:=n) hn
  have hle:=h9d l name v (g0s l name) hl hnl (n:=n) hn2 (n+1) (by omega)
  simp only [Int.natCast_zero] at hle
  unfold b9y
  rw [b0a T117,run_pure rfl rfl rfl]
  by_cases hf:fstAt l name<l.length
  · rw [if_pos hf]
    have hfa:g0s l name=(fstAt l name:Int):=by simp [g0s,hf]
    have hlo:=g4a l name v (leAt l name) (fstAt l name) hl hf (fun a ha=>d6z ha rfl) (b0g T (n+1)) (n+1) (by omega)
    rw [hfa] at hfi hle
    have hwl:(l.set (fstAt l name) ⟨name,v⟩).length≤1048577:=by simp;omega
    generalize l.set (fstAt l name) ⟨name,v⟩=w at hlo hwl
    have wl:(w.map Attr.pv).length=w.length:=by simp
    generalize fstAt l name=k at hfi hle hlo
    generalize leAt l name=to at hle hlo
    simp only [c6v,c7m,List.map_nil,List.length_nil,Int.natCast_zero] at hlo
    have k0:¬ (k:Int)<0:=by omega
    simp -implicitDefEqProofs (disch:=omega) only [Rx,simprocAttr,F117,hfi,hle,hlo,ll,wl,k0]
  · rw [if_neg hf]
    have hfa:g0s l name = -1:=by simp [g0s,hf]
    have hlo:=h3t l name v (leAt l name) hl (b0g T (n+1)) (n+1) (by omega)
    rw [hfa] at hfi hle
    rw [h5m hf] at hle hlo
    have hpl:posAt l name≤l.length:=List.findIdx_le_length
    generalize hto:posAt l name=to at hle hlo hpl
    have hacc:(putA l to ⟨name,v⟩ l.length).length≤1048579:=by
      unfold putA
      split
      · rw [List.length_take];omega
      · rw [List.length_append,List.length_cons,List.length_take,List.length_take,List.length_drop];omega
    by_cases e:to=l.length
    · have hr:l.take to++⟨name,v⟩::l.drop to=putA l to ⟨name,v⟩ l.length++[⟨name,v⟩]:=by
        subst e;simp [putA]
      rw [hr]
      generalize putA l to ⟨name,v⟩ l.length=acc at hlo hacc
      have la:(acc.map Attr.pv).length=acc.length:=by simp
      have os1:acc.map Attr.pv++[[.str name,.str v]]=(acc++[(⟨name,v⟩:Attr)]).map Attr.pv:=by simp [Attr.pv]
      have ol1:((acc++[(⟨name,v⟩:Attr)]).map Attr.pv).length=acc.length+1:=by simp
      generalize acc++[(⟨name,v⟩:Attr)]=acc1 at os1 ol1
      have e1:((to:Int)==(l.length:Int))=true:=by simp;omega
      simp only [c6v,c7m,List.map_nil,List.length_nil,Int.natCast_zero] at hlo
      simp -implicitDefEqProofs (disch:=omega) only [Rx,simprocAttr,F117,hfi,hle,hlo,ll,la,os1,ol1,e1]
    · have hr:l.take to++⟨name,v⟩::l.drop to=putA l to ⟨name,v⟩ l.length:=by
        unfold putA
        rw [if_neg (by omega),List.take_of_length_le (l:=l.drop to) (by rw [List.length_drop];omega)]
      rw [hr]
      generalize putA l to ⟨name,v⟩ l.length=acc at hlo hacc
      have la:(acc.map Attr.pv).length=acc.length:=by simp
      have e1:((to:Int)==(l.length:Int))=false:=by simp;omega
      simp only [c6v,c7m,List.map_nil,List.length_nil,Int.natCast_zero] at hlo
      simp -implicitDefEqProofs (disch:=omega) only [Rx,simprocAttr,F117,hfi,hle,hlo,ll,la,e1]
end Tryz
end Go.TA


end
