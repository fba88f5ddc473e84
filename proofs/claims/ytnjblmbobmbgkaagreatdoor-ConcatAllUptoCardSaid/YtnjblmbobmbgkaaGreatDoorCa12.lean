/- Part 12 of 16 of a proof; joined from MS0, CalCountG, CalSimRun, CalFew, CalFewR, CalSmallM, CalMOps1, CalMOps2, CalMDel, CalMTake, CalMEnd, CalMAttr, CalMDelA. slices.DeleteFunc on a row of attributes that was cloned; attrs.Without. -/
import Derived.Test.YtnjblmbobmbgkaaGreatDoorCa7
import Derived.Test.YtnjblmbobmbgkaaGreatDoorCa6
import Derived.Test.YtnjblmbobmbgkaaGreatDoorCa1
import Derived.Test.YtnjblmbobmbgkaaGreatDoorCa10
import Derived.Test.YtnjblmbobmbgkaaGreatDoorCa11
set_option linter.unusedSimpArgs false
set_option linter.unusedVariables false
set_option linter.defProp false
set_option maxRecDepth 100000
set_option maxHeartbeats 8000000
section
/- The machine of rows. Plain. -/
namespace Go.TA
def S0 (l:List GRow):MS:=⟨l.length+1,st0 l,kd0 l l.length⟩
theorem d4e {l:List GRow} {i h:Nat} {k:Int}:k ∈ kd0 l i h↔∃ j x,j<i∧l[j]? = some x∧x.up=(h:Int)∧k=(j:Int)+1:=by
  simp only [kd0,List.mem_map,List.mem_filter,List.mem_range]
  constructor
  · rintro ⟨j,⟨h1,h2⟩,rfl⟩
    cases hx:l[j]? with
    | none=>rw [hx] at h2;simp at h2
    | some x =>
      rw [hx] at h2
      exact ⟨j,x,h1,hx,by simpa using h2,rfl⟩
  · rintro ⟨j,x,h1,h2,h3,rfl⟩
    exact ⟨j,⟨h1,by simp [h2,h3]⟩,rfl⟩
theorem d7l (l:List GRow) (i h:Nat):(kd0 l i h).Nodup:=by
 unfold kd0
 rw [List.nodup_iff_pairwise_ne,List.pairwise_map]
 refine List.Pairwise.imp ?_ ((List.nodup_iff_pairwise_ne.1 List.nodup_range).filter _)
 intro a b hab
 omega
theorem g8n {l:List GRow} {m:Nat} (hs:b5x l) (hsm:Rows.mid m l) (hm:m≤1048577):(S0 l).Ok l.length:=by
  have hlive:∀ c,c<l.length+1→(st0 l c).live=true:=fun c hc=>by
    cases c with
    | zero=>rfl
    | succ j =>
      obtain ⟨x,hx⟩:=b0m (show j<l.length by omega)
      simp [st0,hx,b5o]
  have hup:∀ j x,l[j]? = some x→(st0 l (j+1)).up=x.up:=fun j x hx=>by simp [st0,hx,b5o]
  refine ⟨by simp [S0],⟨rfl,rfl⟩,fun p hp k hk => ?_,fun c hc => ?_,fun c hc hd => ?_,fun p hp=>d7l l l.length p,⟨fun c=>c,fun c hc=>by simp only [S0] at hc;show c≤l.length;omega,fun c p hc hu => ?_⟩,fun c hc => ?_⟩
  · obtain ⟨j,x,h1,h2,h3,rfl⟩:=d4e.1 hk
    exact ⟨j+1,by omega,by simp only [S0];omega,hlive _ (by omega),by simp only [S0];rw [hup j x h2];exact h3⟩
  · simp only [S0] at hc ⊢
    cases c with
    | zero=>exact .inl rfl
    | succ j =>
      obtain ⟨x,hx⟩:=b0m (show j<l.length by omega)
      have hst:=hs.1 j x (by omega) hx
      refine .inr ⟨x.up.toNat,by omega, ?_,hlive _ (by omega),d4e.2 ⟨j,x,by omega,hx,by omega,by omega⟩⟩
      rw [hup j x hx];omega
  · simp only [S0] at hc hd
    rw [hlive c hc] at hd;cases hd
  · simp only [S0] at hc hu
    cases c with
    | zero=>simp [st0,b7c] at hu <;> omega
    | succ j =>
      obtain ⟨x,hx⟩:=b0m (show j<l.length by omega)
      have hst:=hs.1 j x (by omega) hx
      rw [hup j x hx] at hu
      show p<j+1
      omega
  · simp only [S0] at hc ⊢
    cases c with
    | zero=>simp [st0,b7c]
    | succ j =>
      obtain ⟨x,hx⟩:=b0m (show j<l.length by omega)
      have:=(hsm.row x (List.mem_of_getElem? hx)).attrs
      simp only [st0,hx,Option.map_some,Option.getD_some,b5o]
      omega
end Go.TA


end
section
/- How many operations of a kind a list holds, by the program and by the document's answer. -/
namespace Go.TA
def b2g (L:List GOp) (k:Int):Nat:=L.countP (fun x=>x.kind==k)
theorem c1m (L:List GOp) (k:Int):b2g L k≤L.length:=List.countP_le_length
theorem d1l {L:List GOp} {i:Nat} {x:GOp} (hx:L[i]? = some x) (k:Int):b2g (L.take (i+1)) k=b2g (L.take i) k+if x.kind=k then 1 else 0:=by
 rw [b2g,List.take_add_one,hx,List.countP_append,b2g]
 simp [List.countP_cons]
namespace Tryz
theorem d5s (L:List GOp) (hlen:L.length≤1048576) (k:Int) (g:List AObj) {n:Nat} (hn:L.length<n) :
  b0f T (n+1) 56 [.p (.list (L.map GOp.pv)),.p (.int .i64 k)] g=some (.p (.int .i64 (b2g L k)),g):=by
 have key:=b1k (C:=b0f T n) (N:=n) (B:=h4t) (σ := Nat) (S:=fun i=>⟨[(0,.p (.list (L.map GOp.pv))),(1,.p (.int .i64 k)),(5,.p (.int .i64 (b2g (L.take i) k))),(8,.p (.int .i64 L.length)),(9,.p (.int .i64 i))],[],[]⟩)
  (I:=fun i=>i≤L.length) (μ := fun i=>L.length - i) (Φ := fun i=>(.exit 0,⟨[(5,.p (.int .i64 (b2g L k)))],[],[]⟩)) ?_ 0 (by omega) (by omega)
 ·have e0:b2g (L.take 0) k=0:=rfl
  have ll:(L.map GOp.pv).length=L.length:=by simp
  rw [e0] at key
  simp only [Int.natCast_zero] at key
  rw [b0a T56,run_pure rfl rfl rfl]
  simp -implicitDefEqProofs (disch:=omega) only [Rx,simprocAttr,F56,ll,key]
 intro i hi
 by_cases h:i<L.length
 ·left
  obtain ⟨x,hx⟩:=b0m h
  have hg:=b0s (f:=GOp.pv) hx
  have ll:(L.map GOp.pv).length=L.length:=by simp
  have k1:(i:Int)<(L.length:Int):=by omega
  have hle:=c1m (L.take i) k
  rw [List.length_take] at hle
  have ht:=d1l hx k
  refine ⟨i+1, ?_,by omega,by omega,rfl⟩
  rw [ht]
  by_cases e:x.kind=k
  ·have e1:(x.kind==k)=true:=by simpa using e
   rw [if_pos e]
   generalize b2g (L.take i) k=c at hle
   simp -implicitDefEqProofs (disch:=omega) only [Rx,simprocAttr,h4t,k1,ll,hg,GOp.pv,e1]
  ·have e1:(x.kind==k)=false:=by simpa using e
   rw [if_neg e]
   generalize b2g (L.take i) k=c at hle
   simp -implicitDefEqProofs (disch:=omega) only [Rx,simprocAttr,h4t,k1,ll,hg,GOp.pv,e1,Nat.add_zero]
 ·right
  obtain rfl:i=L.length:=by omega
  have k1:¬ (L.length:Int)<(L.length:Int):=by omega
  refine ⟨?_,by simp⟩
  rw [List.take_length]
  simp -implicitDefEqProofs (disch:=omega) only [Rx,simprocAttr,h4t,k1]
def g4k (L:List GOp) (i:Nat):List (List PV):=[[.int .i64 0,.int .i64 (b2g (L.take i) 1),.int .i64 (b2g (L.take i) 2),.int .i64 (b2g (L.take i) 3),.int .i64 (b2g (L.take i) 4),.int .i64 (b2g (L.take i) 5),.int .i64 (b2g (L.take i) 6),.int .i64 (b2g (L.take i) 7)]]
def d2q:List (List PV):=[[.int .i64 0,.int .i64 0,.int .i64 0,.int .i64 0,.int .i64 0,.int .i64 0,.int .i64 0]]
theorem d8l (L : List GOp) (hlen : L.length ≤ 1048576) (g : List AObj) {n : Nat} (hn : L.length < n) :
    b0f T (n+1) 90 [.p (.list (L.map GOp.pv))] g=some (.p (.agg [.int .i64 (b2g L 1),.int .i64 (b2g L 2),.int .i64 (b2g L 3),.int .i64 (b2g L 4),.int .i64 (b2g L 5),.int .i64 (b2g L 6),.int .i64 (b2g L 7)]),g):=by
  have key:=b1k (C:=b0f T n) (N:=n) (B:=g8q) (σ := Nat) (S:=fun i=>⟨[(2,.ptr false 2 7 1 0 0),(3,.ptr false 3 8 1 0 0),(6,.p (.list (L.map GOp.pv))),(7,.p (.int .i64 L.length)),(8,.p (.int .i64 i))],[(2,.pcells 7 d2q),(3,.pcells 8 (g4k L i))],[]⟩)
    (I:=fun i=>i≤L.length) (μ := fun i=>L.length - i) (Φ := fun i=>(.exit 0,⟨[(2,.ptr false 2 7 1 0 0),(3,.ptr false 3 8 1 0 0)],[(2,.pcells 7 d2q),(3,.pcells 8 (g4k L L.length))],[]⟩)) ?_ 0 (by omega) (by omega)
  · have ll:(L.map GOp.pv).length=L.length:=by simp
    simp only [g4k,d2q,List.take_zero,List.take_length,show ∀ k,b2g [] k=0 from fun _=>rfl,Int.natCast_zero] at key
    rw [b0a T90,run_pure rfl rfl rfl]
    simp -implicitDefEqProofs (disch:=omega) only [Rx,simprocAttr,F90,ll,key]
  intro i hi
  by_cases h:i<L.length
  · left
    obtain ⟨x,hx⟩:=b0m h
    have hg:=b0s (f:=GOp.pv) hx
    have ll:(L.map GOp.pv).length=L.length:=by simp
    have k1:(i:Int)<(L.length:Int):=by omega
    have hle:∀ k,b2g (L.take i) k≤1048576:=fun k=>by have:=c1m (L.take i) k;rw [List.length_take] at this;omega
    have ht:=d1l hx
    refine ⟨i+1, ?_,by omega,by omega,rfl⟩
    simp only [g4k,ht]
    have a1:=hle 1
    have a2:=hle 2
    have a3:=hle 3
    have a4:=hle 4
    have a5:=hle 5
    have a6:=hle 6
    have a7:=hle 7
    generalize b2g (L.take i) 1=c1 at a1 ⊢
    generalize b2g (L.take i) 2=c2 at a2 ⊢
    generalize b2g (L.take i) 3=c3 at a3 ⊢
    generalize b2g (L.take i) 4=c4 at a4 ⊢
    generalize b2g (L.take i) 5=c5 at a5 ⊢
    generalize b2g (L.take i) 6=c6 at a6 ⊢
    generalize b2g (L.take i) 7=c7 at a7 ⊢
    by_cases hk:0<x.kind∧x.kind<8
    · have:x.kind=1∨x.kind=2∨x.kind=3∨x.kind=4∨x.kind=5∨x.kind=6∨x.kind=7:=by omega
      rcases this with e | e | e | e | e | e | e <;> simp -implicitDefEqProofs (disch:=omega) only [Rx,simprocAttr,g8q,d2q,k1,ll,hg,GOp.pv,e,Nat.add_zero]
    · have n1:∀ k:Int,1≤k→k≤7→(x.kind=k)=False:=fun k h1 h2=>by simp;omega
      simp only [n1 1 (by omega) (by omega),n1 2 (by omega) (by omega),n1 3 (by omega) (by omega),n1 4 (by omega) (by omega),n1 5 (by omega) (by omega),n1 6 (by omega) (by omega),n1 7 (by omega) (by omega),if_false,Nat.add_zero]
      by_cases h0:0<x.kind
      · have h8:¬ x.kind<8:=by omega
        simp -implicitDefEqProofs (disch:=omega) only [Rx,simprocAttr,g8q,d2q,k1,ll,hg,GOp.pv,h0,h8]
      · simp -implicitDefEqProofs (disch:=omega) only [Rx,simprocAttr,g8q,d2q,k1,ll,hg,GOp.pv,h0]
  · right
    obtain rfl:i=L.length:=by omega
    have k1:¬ (L.length:Int)<(L.length:Int):=by omega
    refine ⟨?_,by simp⟩
    simp -implicitDefEqProofs (disch:=omega) only [Rx,simprocAttr,g8q,k1]
end Tryz
end Go.TA


end
section
/- A script that one machine runs to its end, the other runs under its handles. Plain. -/
namespace Go.TA
section
variable {R:Nat} {φ : Nat→Nat} {M S:MS}
theorem Sim.used (hS:Sim φ M S) {h:Int} (hu:Used M h):0≤img φ h∧img φ h<(S.N:Int)∧(img φ h=0↔h=0):=by
 have hd:∃ n:Nat,n<M.N∧h=(n:Int):=by
  rcases hu with rfl | hl
  ·exact ⟨0,hS.pos,rfl⟩
  ·obtain ⟨n,h1,h2,_⟩:=b5a hl;exact ⟨n,h1,h2⟩
 obtain ⟨n,hn,rfl⟩:=hd
 refine ⟨?_, ?_,hS.img0 (.inr ⟨n,hn,rfl⟩)⟩
 ·rw [b2n];omega
 ·rw [b2n];have:=hS.lt n hn;omega
theorem d7m (S:MS) (x:GOp):(b2s S x).2.N=S.N∧(x.node.toNat≠0→(b2s S x).2.st 0=S.st 0):=by
 unfold b2s
 repeat' split
 all_goals first | exact ⟨rfl,fun _=>rfl⟩ | exact ⟨rfl,fun h=>by simp only [b2h];rw [b0k (by omega)]⟩
theorem d5t (S:MS) {h:Nat} (hh:h≠0):(b2f S h).st 0=S.st 0:=by
 unfold b2f
 split
 ·rfl
 ·simp only;rw [b0k (by omega)]
theorem g6h (S:MS) (x:GOp):(b6t S x).2.N=S.N∧(x.node.toNat≠0→(b6t S x).2.st 0=S.st 0):=by
 unfold b6t
 repeat' split
 all_goals first | exact ⟨rfl,fun _=>rfl⟩ | exact ⟨b5i _ _,fun h=>by simp only [b2h];rw [b0k (by omega),d5t S h]⟩
theorem d8q (S:MS) (h:Nat) (x:GOp):(b3i S h x).2.N=S.N∧(h≠0→(b3i S h x).2.st 0=S.st 0):=by
 unfold b3i
 repeat' split
 all_goals first | exact ⟨rfl,fun _=>rfl⟩ | exact ⟨rfl,fun hh=>by simp only [setM];rw [b0k (by omega)]⟩ | exact ⟨rfl,fun hh=>by simp only [textM];rw [b0k (by omega)]⟩
theorem d3z (hM:M.Ok R) {h:Int} (h0:0<h):¬ Below M h 0:=by
  intro hb
  have hu:upOf M 0 = -1:=hM.top.2
  cases hb with
  | here=>omega
  | up _ hb =>
    rw [hu] at hb
    cases hb with
    | here=>omega
    | up q _=>omega
theorem g4h (hM : M.Ok R) (x : GOp) (h : (doM M x).1 = 0) : (doM M x).2.N = M.N + (if x.kind = 1 then 1 else 0) ∧ (doM M x).2.st 0 = M.st 0 := by
  unfold doM at h ⊢
  by_cases k1:x.kind=1
  · rw [if_pos k1,if_pos k1]
    refine ⟨rfl, ?_⟩
    have:=hM.pos
    simp only [MS.create]
    rw [b0k (by omega)]
  rw [if_neg k1] at h ⊢
  rw [if_neg k1]
  by_cases n0:x.node=0
  · rw [if_pos n0] at h;simp at h
  rw [if_neg n0] at h ⊢
  by_cases k2:x.kind=2
  · rw [if_pos k2] at h ⊢
    have hl:b1j M x.node=true:=by
      cases e:b1j M x.node with
      | true=>rfl
      | false =>
        unfold b2s at h
        rw [if_pos (by rw [e];rfl)] at h
        simp at h
    obtain ⟨n,_,e,_⟩:=b5a hl
    obtain ⟨q1,q2⟩:=d7m M x
    exact ⟨q1,q2 (by omega)⟩
  rw [if_neg k2] at h ⊢
  by_cases k3:x.kind=3
  · rw [if_pos k3] at h ⊢
    have hl:b1j M x.node=true:=by
      cases e:b1j M x.node with
      | true=>rfl
      | false =>
        unfold b6t at h
        rw [if_pos (by rw [e];rfl)] at h
        simp at h
    obtain ⟨n,_,e,_⟩:=b5a hl
    obtain ⟨q1,q2⟩:=g6h M x
    exact ⟨q1,q2 (by omega)⟩
  rw [if_neg k3] at h ⊢
  by_cases hl:b1j M x.node=false
  · rw [if_pos hl] at h;simp at h
  rw [if_neg hl] at h ⊢
  obtain ⟨n,hn,e,hlv⟩:=b5a (by simpa using hl)
  have hn0:x.node.toNat≠0:=by omega
  by_cases k4:x.kind=4
  · rw [if_pos k4]
    obtain ⟨hTok,_⟩:=hM.take (h:=x.node.toNat) (by omega) (by rw [e];simpa using hlv)
    refine ⟨b5i _ _, ?_⟩
    simp only [endM]
    have hnb:¬ Below (b2f M x.node.toNat) x.node ((0:Nat):Int):=d3z hTok (by omega)
    rw [if_neg hnb,d5t M hn0]
  · rw [if_neg k4]
    obtain ⟨q1,q2⟩:=d8q M x.node.toNat x
    exact ⟨q1,q2 hn0⟩
theorem Sim.loose (hS:Sim φ M S) (hM:M.Ok R) (h:b3r M=[]):b3r S=[]:=by
 unfold b3r at h ⊢
 rw [List.map_eq_nil_iff,List.filter_eq_nil_iff] at h ⊢
 intro k hk
 obtain ⟨hk1,hk2⟩:=b1m.1 hk
 obtain ⟨n,hn,rfl⟩:=hS.onto k hk1 hk2
 have hlv:(M.st n).live=true:=by have:=hS.node n hn;rw [this] at hk2;exact hk2
 have:=h n (b1m.2 ⟨hn,hlv⟩)
 simp only [Bool.and_eq_true,Bool.not_eq_true',beq_eq_false_iff_ne,ne_eq,decide_eq_true_eq,not_and] at this
 simp only [Bool.and_eq_true,Bool.not_eq_true',beq_eq_false_iff_ne,ne_eq,decide_eq_true_eq,not_and]
 intro q
 have hn0:n≠0:=fun e=>q (by rw [e];exact hS.zero)
 have hup:=this hn0
 rw [hS.node n hn]
 show ¬ img φ (M.st n).up<0
 have hd:=d2o hM hn
 simp only [Go.TA.upOf,Int.toNat_natCast] at hd
 rcases hd with e | ⟨p,_,e⟩
 ·omega
 ·rw [e,b2n];omega
def reId (φ : Nat→Nat) (x:GRow):GRow:={ x with id:=img φ x.id }
theorem Sim.rowI (hS:Sim φ M S) {c:Nat} (hc:c<M.N) (up:Int):rowM S (img φ (c:Int)) up=reId φ (rowM M (c:Int) up):=by
 rw [b2n]
 simp only [rowM,reId,Int.toNat_natCast,hS.node c hc,b2n]
theorem Sim.belowR (hS : Sim φ M S) (hM : M.Ok R) : ∀ (d : Nat) (out : List GRow) (h : Nat) (up : Int), h < M.N → b1t S d (out.map (reId φ)) (φ h : Int) up = (b1t M d out (h : Int) up).map (reId φ)
  | 0,out,h,up,hh=>rfl
  | d + 1, out, h, up, hh => by
    have hkl:(S.kd (φ h)).length=(M.kd h).length:=by rw [hS.kd h hh,List.length_map]
    rw [← b7p, ← b7p,hkl]
    have key:∀ i,i≤(M.kd h).length→outI S d (out.map (reId φ)) (φ h) up i=(outI M d out h up i).map (reId φ):=by
      intro i
      induction i with
      | zero=>exact fun _=>rfl
      | succ i ih =>
        intro hi
        obtain ⟨k,hk⟩:∃ k,(M.kd h)[i]? = some k:=⟨_,List.getElem?_eq_getElem (by omega)⟩
        obtain ⟨c,rfl,hc,_,hu⟩:=hM.kids h hh k (List.mem_of_getElem? hk)
        have hk':(S.kd (φ h))[i]? = some (img φ (c:Int)):=by rw [hS.kd h hh,List.getElem?_map,hk];rfl
        rw [b6b hk,b6b hk',ih (by omega),hS.rowI hc up]
        have:=hS.belowR hM d (outI M d out h up i++[rowM M (c:Int) up]) c (((outI M d out h up i).length:Int)+1) hc
        rw [b2n,List.length_map, ← this]
        simp
    exact key _ (Nat.le_refl _)
theorem Sim.rows (hS:Sim φ M S) (hM:M.Ok R) (R':Nat):b2j S R'=(b2j M R').map (reId φ):=by
 have:=hS.belowR hM (R'+1) [] 0 0 hS.pos
 rw [hS.zero] at this
 exact this
end
namespace Tryz
theorem g0r {R : Nat} {φ : Nat → Nat} {M S : MS} (hS : Sim φ M S) (hM : M.Ok R) (hN : S.N ≤ 4294967295) (x : GOp) (he : b0u x = 0) (hd : (doM M x).1 = 0) : b0u (b0i (img φ) x) = 0 := by
  have hk:=(hS.doM hM x hd).2
  have hok:¬ x.kind<1∧¬ 7<x.kind∧hOk x.node=true∧hOk x.up=true∧hOk x.before=true∧b5v x=false:=by
    unfold b0u at he
    split at he
    · simp at he
    split at he
    · simp at he
    split at he
    · simp at he
    split at he
    · simp at he
    split at he
    · simp at he
    split at he
    · simp at he
    rename_i a b c d e f
    exact ⟨a,b,by simpa using c,by simpa using d,by simpa using e,by simpa using f⟩
  obtain ⟨a1,a2,a3,a4,a5,a6⟩:=hok
  have z:∀ n:Int,nzI n=false→n=0:=fun n h=>by simpa [nzI] using h
  have hu:Used M x.node∧Used M x.up∧Used M x.before:=by
    have hc:x.kind=1∨x.kind=2∨x.kind=3∨x.kind=4∨x.kind=5∨x.kind=6∨x.kind=7:=by omega
    rcases hc with e | e | e | e | e | e | e
    · simp [b5v,g6e,e] at a6
      exact ⟨.inl (z _ a6.1),.inl (z _ a6.2.1),.inl (z _ a6.2.2.1)⟩
    · rcases hk with k | ⟨_,k1,k2,k3⟩
      · omega
      · exact ⟨.inr k1,.inr (k2 e).1,.inr (k2 e).2⟩
    · rcases hk with k | ⟨_,k1,k2,k3⟩
      · omega
      · simp [b5v,g6d,e] at a6
        exact ⟨.inr k1,.inl (z _ a6.2.2.2.1),.inr (k3 e)⟩
    · rcases hk with k | ⟨_,k1,k2,k3⟩
      · omega
      · simp [b5v,g6c,e] at a6
        exact ⟨.inr k1,.inl (z _ a6.2.2.2.1),.inl (z _ a6.2.2.2.2.1)⟩
    · rcases hk with k | ⟨_,k1,k2,k3⟩
      · omega
      · simp [b5v,g6b,e] at a6
        exact ⟨.inr k1,.inl (z _ a6.2.2.2.1),.inl (z _ a6.2.2.2.2)⟩
    · rcases hk with k | ⟨_,k1,k2,k3⟩
      · omega
      · simp [b5v,g6a,e] at a6
        exact ⟨.inr k1,.inl (z _ a6.2.2.2.1),.inl (z _ a6.2.2.2.2.1)⟩
    · rcases hk with k | ⟨_,k1,k2,k3⟩
      · omega
      · simp [b5v,g5z,e] at a6
        exact ⟨.inr k1,.inl (z _ a6.2.2.2.1),.inl (z _ a6.2.2.2.2.1)⟩
  obtain ⟨u1,u2,u3⟩:=hu
  have ho:∀ h,Used M h→hOk (img φ h)=true:=fun h q=>by
    obtain ⟨b1,b2,_⟩:=hS.used q
    simp only [hOk,Bool.and_eq_true,decide_eq_true_eq]
    omega
  have hz:∀ h,Used M h→nzI (img φ h)=nzI h:=fun h q=>by
    obtain ⟨_,_,b3⟩:=hS.used q
    unfold nzI
    by_cases e:h=0
    · have e2:=b3.2 e
      rw [e2,e]
    · have e2:¬ img φ h=0:=fun q=>e (b3.1 q)
      rw [beq_eq_false_iff_ne.2 e2,beq_eq_false_iff_ne.2 e]
  have hn:b5v (b0i (img φ) x)=b5v x:=by
    simp only [b5v,g6e,h1j,g6d,g6c,g6b,g6a,g5z,b0i,hz _ u1,hz _ u2,hz _ u3]
  have key:b0u (b0i (img φ) x)=b0u x:=by
    unfold b0u
    rw [show hOk (b0i (img φ) x).node=hOk x.node from (ho _ u1).trans a3.symm,show hOk (b0i (img φ) x).up=hOk x.up from (ho _ u2).trans a4.symm,show hOk (b0i (img φ) x).before=hOk x.before from (ho _ u3).trans a5.symm,hn]
    rfl
  rw [key,he]
theorem d8j {M:MS} {x:GOp} (he:b0u x=0):doE M x=doM M x:=by unfold doE;rw [if_pos he]
theorem g9x {φ : Nat → Nat} : ∀ (t : List GOp) {R : Nat} {M S : MS} (hS : Sim φ M S) (hM : M.Ok R) (hN : S.N + t.length ≤ 4194304) (ht : ∀ x ∈ t, b0u x = 0 ∧ x.attrs.length ≤ 1048577) (i j : Nat), (runM M t i).2.1 = 0 →
    (runM S (t.map (b0i (img φ))) j).2.1=0∧Sim φ (runM M t i).2.2 (runM S (t.map (b0i (img φ))) j).2.2∧∀ y ∈ t.map (b0i (img φ)),b0u y=0
  | [],R,M,S,hS,hM,hN,ht,i,j,h=>⟨rfl,hS,by simp⟩
  | x :: l, R, M, S, hS, hM, hN, ht, i, j, h => by
    obtain ⟨he,ha⟩:=ht x (by simp)
    rw [runM,d8j he] at h
    by_cases hd:(doM M x).1=0
    · rw [if_pos hd] at h
      have hsh:=g0r hS hM (by simp only [List.length_cons] at hN;omega) x he hd
      obtain ⟨⟨q1,q2⟩,_⟩:=hS.doM hM x hd
      obtain ⟨o1,o2,o3⟩:=h3i hM x ha
      have hk:=(g4h hM x hd).1
      have hN2:(doM S (b0i (img φ) x)).2.N≤S.N+1:=by
        have h1:=hS.next 0
        have h2:=q2.next 0
        rw [hk] at h2
        have h3:=hS.next (if x.kind=1 then 1 else 0)
        simp only [Nat.add_zero] at h1 h2
        rw [h2] at h3
        split at h3 <;> omega
      obtain ⟨r1,r2,r3⟩:=g9x l q2 o1 (by simp only [List.length_cons] at hN;omega) (fun y hy=>ht y (by simp [hy])) (i+1) (j+1) h
      rw [List.map_cons,runM,runM,d8j he,d8j hsh,if_pos hd,if_pos q1]
      exact ⟨r1,r2,fun y hy=>by
        rcases List.mem_cons.1 hy with rfl | hy
        · exact hsh
        · exact r3 y hy⟩
    · rw [if_neg hd] at h
      exact absurd h hd
theorem g2w:∀ (s:List GOp) (t:List GOp) (S:MS) (i:Nat),(runM S s i).2.1=0→runM S (s++t) i=runM (runM S s i).2.2 t (i+s.length)
  | [],t,S,i,h=>rfl
  | x :: s, t, S, i, h => by
    rw [runM] at h
    rw [List.cons_append,runM,runM]
    by_cases hd:(doE S x).1=0
    · rw [if_pos hd] at h
      rw [if_pos hd,if_pos hd,g2w s t _ _ h,List.length_cons,show i+1+s.length=i+(s.length+1) by omega]
    · rw [if_neg hd] at h
      exact absurd h hd
theorem d6e:∀ (s:List GOp) {R:Nat} {S:MS} (hS:S.Ok R) (hs:∀ x ∈ s,b0u x=0∧x.attrs.length≤1048577) (i:Nat),(runM S s i).2.1=0→(runM S s i).2.2.N=S.N+b2g s 1∧(runM S s i).2.2.st 0=S.st 0
  | [],R,S,hS,hs,i,h=>⟨rfl,rfl⟩
  | x :: s, R, S, hS, hs, i, h => by
    obtain ⟨he,ha⟩:=hs x (by simp)
    rw [runM,d8j he] at h
    by_cases hd:(doM S x).1=0
    · rw [if_pos hd] at h
      obtain ⟨k1,k2⟩:=g4h hS x hd
      obtain ⟨o1,_,_⟩:=h3i hS x ha
      obtain ⟨r1,r2⟩:=d6e s o1 (fun y hy=>hs y (by simp [hy])) (i+1) h
      rw [runM,d8j he,if_pos hd]
      refine ⟨?_,by rw [r2,k2]⟩
      rw [r1,k1]
      simp only [b2g,List.countP_cons,beq_iff_eq]
      omega
    · rw [if_neg hd] at h
      exact absurd h hd
end Tryz
end Go.TA


end
section
/- The guard of most laws: whether operations are few. -/
set_option maxHeartbeats 1000000
namespace Go.TA.Tryz
theorem h8j {l:List Attr} {i:Nat} {a:Attr} (h:l[i]? = some a):(l.map Attr.pv).getD i []=[.str a.name,.str a.value]:=by
 rw [List.getD_eq_getElem?_getD,List.getElem?_map,h];rfl
theorem h7m {C:b0n} {N:Nat} (x:GOp) (p0 p11 p12:PV) (g:List AObj) (i:Nat) (a:Attr) (left:Int) (h:x.attrs[i]? = some a) (hb:x.attrs.length≤1048576) (ha:a.value.length+a.name.length≤1048576) (hl : -4611686018427387904≤left) (hl2:left≤4611686018427387904) :
  b0t C N g2g ⟨[(0,.p p0),(5,.p (.int .i64 left)),(7,.ptr false 7 9 1 0 0),(11,.p p11),(12,.p p12),(46,.p (.int .i64 x.attrs.length)),(47,.p (.int .i64 i))],[(7,.pcells 9 [x.pv])],g⟩ =
   some (.normal,⟨[(0,.p p0),(5,.p (.int .i64 (left - ((a.value.length:Int)+a.name.length).tdiv 4096))),(7,.ptr false 7 9 1 0 0),(11,.p p11),(12,.p p12),(46,.p (.int .i64 x.attrs.length)),(47,.p (.int .i64 (i+1)))],[(7,.pcells 9 [x.pv])],g⟩):=by
 have hlt:i<x.attrs.length:=(List.getElem?_eq_some_iff.1 h).1
 have h1:(i:Int)<(x.attrs.length:Int):=by omega
 have h2:=h8j h
 have q:0≤((a.value.length:Int)+(a.name.length:Int)).tdiv 4096∧((a.value.length:Int)+(a.name.length:Int)).tdiv 4096≤1048576:=by
  rw [Int.tdiv_eq_ediv_of_nonneg (by omega)];omega
 generalize hq:((a.value.length:Int)+(a.name.length:Int)).tdiv 4096=d at q ⊢
 obtain ⟨w1,w2,w3,w4⟩:IntKind.i64.wrap ((a.value.length:Int)+(a.name.length:Int))=(a.value.length:Int)+(a.name.length:Int)∧IntKind.i64.wrap d=d∧IntKind.i64.wrap (left - d)=left - d∧IntKind.i64.wrap ((i:Int)+1)=(i:Int)+1 :=
  ⟨b6k (by omega) (by omega),b6k (by omega) (by omega),b6k (by omega) (by omega),b6k (by omega) (by omega)⟩
 simp -implicitDefEqProofs (disch:=omega) only [Rx,simprocAttr,g2g,h1,h2,GOp.pv,b0b,w1,hq,w2,w3,w4]
theorem d7v {C:b0n} {N:Nat} (x:GOp) (p0 p11 p12:PV) (g:List AObj) (left:Int) :
  b0t C N g2g ⟨[(0,.p p0),(5,.p (.int .i64 left)),(7,.ptr false 7 9 1 0 0),(11,.p p11),(12,.p p12),(46,.p (.int .i64 x.attrs.length)),(47,.p (.int .i64 x.attrs.length))],[(7,.pcells 9 [x.pv])],g⟩ =
   some (.exit 2,⟨[(0,.p p0),(5,.p (.int .i64 left)),(11,.p p11),(12,.p p12)],[],g⟩):=by
 have h1:¬ ((x.attrs.length:Int)<(x.attrs.length:Int)):=by omega
 simp -implicitDefEqProofs (disch:=omega) only [Rx,simprocAttr,g2g,h1]
def b1u (l:List Attr):Prop:=∀ a ∈ l,a.value.length+a.name.length≤1048576
theorem h2v {C:b0n} {N:Nat} (x:GOp) (p0 p11 p12:PV) (g:List AObj) (hb:x.attrs.length≤1048576) (hs:b1u x.attrs) (rest:List Attr):∀ (pre:List Attr) (m:Nat) (left:Int),x.attrs=pre++rest→rest.length<m →
    -4611686018427387904+1048576*(rest.length:Int)≤left→left≤4611686018427387904 →
    d8z C N g2g m ⟨[(0,.p p0),(5,.p (.int .i64 left)),(7,.ptr false 7 9 1 0 0),(11,.p p11),(12,.p p12),(46,.p (.int .i64 x.attrs.length)),(47,.p (.int .i64 pre.length))],[(7,.pcells 9 [x.pv])],g⟩ =
      some (.exit 2,⟨[(0,.p p0),(5,.p (.int .i64 (b1x rest left))),(11,.p p11),(12,.p p12)],[],g⟩):=by
  induction rest with
  | nil =>
    intro pre m left hd hm h1 h2
    obtain ⟨m,rfl⟩:∃ k,m=k+1:=⟨m - 1,by simp at hm;omega⟩
    have e:pre.length=x.attrs.length:=by rw [hd];simp
    rw [e,b7y,d7v,d0i];rfl
  | cons a rest ih =>
    intro pre m left hd hm h1 h2
    obtain ⟨m,rfl⟩:∃ k,m=k+1:=⟨m - 1,by simp at hm;omega⟩
    have hget:x.attrs[pre.length]? = some a:=by rw [hd];simp
    have hmem:a ∈ x.attrs:=List.mem_of_getElem? hget
    simp only [List.length_cons,Int.natCast_add,Int.natCast_one] at hm h1
    have q:0≤((a.value.length:Int)+(a.name.length:Int)).tdiv 4096∧((a.value.length:Int)+(a.name.length:Int)).tdiv 4096≤1048576:=by
      have:=hs a hmem
      rw [Int.tdiv_eq_ediv_of_nonneg (by omega)];omega
    rw [b7y,h7m x p0 p11 p12 g pre.length a left hget hb (hs a hmem) (by omega) h2,c1d]
    have:=ih (pre++[a]) m (left - ((a.value.length:Int)+a.name.length).tdiv 4096) (by rw [hd];simp) (by omega) (by omega) (by omega)
    rw [List.length_append,Int.natCast_add] at this
    exact this
theorem g7a {C:b0n} {N:Nat} (x:GOp) (p0 p11 p12:PV) (g:List AObj) (hb:x.attrs.length≤1048576) (hs:b1u x.attrs) (hN:x.attrs.length<N) {left:Int} (h1 : -4611686018427387904+1048576*(x.attrs.length:Int)≤left) (h2:left≤4611686018427387904) :
  b0t C N (.loop g2g) ⟨[(0,.p p0),(5,.p (.int .i64 left)),(7,.ptr false 7 9 1 0 0),(11,.p p11),(12,.p p12),(46,.p (.int .i64 x.attrs.length)),(47,.p (.int .i64 0))],[(7,.pcells 9 [x.pv])],g⟩ =
   some (.exit 2,⟨[(0,.p p0),(5,.p (.int .i64 (b1x x.attrs left))),(11,.p p11),(12,.p p12)],[],g⟩):=by
 rw [c2b]
 exact h2v x p0 p11 p12 g hb hs x.attrs [] N left rfl hN h1 h2
def smallOp (x:GOp):Prop:=x.attrs.length≤1048576∧b1u x.attrs∧x.text.length+x.key.length+x.tag.length+x.name.length≤1048576
theorem g5k {x:GOp} {n:Nat} (h:b6g x.pv≤n) (hn:n≤1048576):smallOp x∧x.attrs.length<n:=by
 rw [h3y] at h
 obtain ⟨h1,h2⟩:=c6j x.attrs
 refine ⟨⟨by omega,fun a ha=>by have:=h1 a ha;omega,by omega⟩,by omega⟩
theorem c7o (l:List Attr) (hs:b1u l):∀ left:Int,left - 1048576*(l.length:Int)≤b1x l left∧b1x l left≤left:=by
  induction l with
  | nil=>intro left;simp [b1x]
  | cons a l ih =>
    intro left
    have ha:=hs a (by simp)
    have q:0≤((a.value.length:Int)+(a.name.length:Int)).tdiv 4096∧((a.value.length:Int)+(a.name.length:Int)).tdiv 4096≤1048576:=by
      rw [Int.tdiv_eq_ediv_of_nonneg (by omega)];omega
    obtain ⟨z1,z2⟩:=ih (fun b hb=>hs b (by simp [hb])) (left - ((a.value.length:Int)+a.name.length).tdiv 4096)
    simp only [b1x,List.length_cons,Int.natCast_add,Int.natCast_one]
    constructor <;> omega
theorem j3a {l:List GOp} {i:Nat} {x:GOp} (h:l[i]? = some x):(l.map GOp.pv).getD i []=x.pv:=by
 rw [List.getD_eq_getElem?_getD,List.getElem?_map,h];rfl
def b7i (x:GOp):Int:=((x.text.length:Int)+x.key.length+x.tag.length+x.name.length).tdiv 4096
theorem c4r {x:GOp} (h:smallOp x):0≤b7i x∧b7i x≤1048576:=by
 have:=h.2.2
 unfold b7i
 rw [Int.tdiv_eq_ediv_of_nonneg (by omega)];omega
theorem j3m {C:b0n} {N:Nat} (l:List GOp) (g:List AObj) (i:Nat) (x:GOp) (left:Int) (h:l[i]? = some x) (hx:smallOp x) (hN:x.attrs.length<N) (hlen:l.length≤1048576) (hl : -1099511627776≤left) (hl2:left≤1099511627776) :
  b0t C N g2h ⟨[(0,.p (.list (l.map GOp.pv))),(5,.p (.int .i64 left)),(11,.p (.int .i64 l.length)),(12,.p (.int .i64 i))],[],g⟩ =
   if left - 1 - x.attrs.length - b7i x<0 then some (.ret,⟨[(4,.p (.bool false))],[],g⟩) else
   some (.normal,⟨[(0,.p (.list (l.map GOp.pv))),(5,.p (.int .i64 (b1x x.attrs (left - 1 - x.attrs.length - b7i x)))),(11,.p (.int .i64 l.length)),(12,.p (.int .i64 (i+1)))],[],g⟩):=by
 have hlt:i<l.length:=(List.getElem?_eq_some_iff.1 h).1
 have h1:(i:Int)<(l.length:Int):=by omega
 have h2:=j3a h
 obtain ⟨b1,b2,b3⟩:=hx
 have q:=c4r (x:=x) ⟨b1,b2,b3⟩
 have hq:((x.text.length:Int)+x.key.length+x.tag.length+x.name.length).tdiv 4096=b7i x:=rfl
 generalize b7i x=d at q hq ⊢
 obtain ⟨w1,w2,w3,w4,w5,w6,w7,w8⟩:IntKind.i64.wrap ((x.text.length:Int)+x.key.length)=(x.text.length:Int)+x.key.length∧IntKind.i64.wrap ((x.text.length:Int)+x.key.length+x.tag.length)=(x.text.length:Int)+x.key.length+x.tag.length ∧
   IntKind.i64.wrap ((x.text.length:Int)+x.key.length+x.tag.length+x.name.length)=(x.text.length:Int)+x.key.length+x.tag.length+x.name.length∧IntKind.i64.wrap d=d∧IntKind.i64.wrap (left - 1)=left - 1 ∧
   IntKind.i64.wrap (left - 1 - x.attrs.length)=left - 1 - x.attrs.length∧IntKind.i64.wrap (left - 1 - x.attrs.length - d)=left - 1 - x.attrs.length - d∧IntKind.i64.wrap ((i:Int)+1)=(i:Int)+1 :=
  ⟨b6k (by omega) (by omega),b6k (by omega) (by omega),b6k (by omega) (by omega),b6k (by omega) (by omega),b6k (by omega) (by omega),b6k (by omega) (by omega),b6k (by omega) (by omega),b6k (by omega) (by omega)⟩
 have hloop:=g7a (C:=C) (N:=N) x (.list (l.map GOp.pv)) (.int .i64 l.length) (.int .i64 i) g b1 b2 hN (left:=left - 1 - x.attrs.length - d) (by omega) (by omega)
 by_cases hneg:left - 1 - x.attrs.length - d<0
 ·simp -implicitDefEqProofs (disch:=omega) only [Rx,simprocAttr,g2h,h1,h2,GOp.pv,b0b,w1,hq,w2,w3,w4,w5,w6,w7,hneg]
 ·simp only [GOp.pv,b0b] at hloop
  simp -implicitDefEqProofs (disch:=omega) only [Rx,simprocAttr,g2h,h1,h2,GOp.pv,b0b,w1,hq,w2,w3,w4,w5,w6,w7,w8,hneg,hloop]
def h2w (r:Option Int) (l:PV) (n:Int) (g:List AObj):Ex × St:=match r with
 | none=>(.ret,⟨[(4,.p (.bool false))],[],g⟩)
 | some left=>(.exit 0,⟨[(5,.p (.int .i64 left))],[],g⟩)
theorem g6z {C:b0n} {N:Nat} (l:List GOp) (g:List AObj) (left:Int) :
  b0t C N g2h ⟨[(0,.p (.list (l.map GOp.pv))),(5,.p (.int .i64 left)),(11,.p (.int .i64 l.length)),(12,.p (.int .i64 l.length))],[],g⟩=some (.exit 0,⟨[(5,.p (.int .i64 left))],[],g⟩):=by
 have h1:¬ ((l.length:Int)<(l.length:Int)):=by omega
 simp -implicitDefEqProofs (disch:=omega) only [Rx,simprocAttr,g2h,h1]
theorem j1g {C:b0n} {N:Nat} (l:List GOp) (g:List AObj) (hs:∀ x ∈ l,smallOp x∧x.attrs.length<N) (hlen:l.length≤1048576) (rest:List GOp):∀ (pre:List GOp) (m:Nat) (left:Int),l=pre++rest→rest.length<m→(pre≠[]→0≤left+1099511627776) → -1099511627776≤left→left≤1000000 →
    d8z C N g2h m ⟨[(0,.p (.list (l.map GOp.pv))),(5,.p (.int .i64 left)),(11,.p (.int .i64 l.length)),(12,.p (.int .i64 pre.length))],[],g⟩=some (h2w (b9s rest left) (.list (l.map GOp.pv)) l.length g):=by
  induction rest with
  | nil =>
    intro pre m left hd hm _ h1 h2
    obtain ⟨m,rfl⟩:∃ k,m=k+1:=⟨m - 1,by simp at hm;omega⟩
    have e:pre.length=l.length:=by rw [hd];simp
    rw [e,b7y,g6z,d0i];rfl
  | cons x rest ih =>
    intro pre m left hd hm _ h1 h2
    obtain ⟨m,rfl⟩:∃ k,m=k+1:=⟨m - 1,by simp at hm;omega⟩
    have hget:l[pre.length]? = some x:=by rw [hd];simp
    have hmem:x ∈ l:=List.mem_of_getElem? hget
    obtain ⟨hx,hN⟩:=hs x hmem
    rw [b7y,j3m l g pre.length x left hget hx hN hlen (by omega) (by omega)]
    have hc:b9s (x::rest) left=if left - 1 - x.attrs.length - b7i x<0 then none else b9s rest (b1x x.attrs (left - 1 - x.attrs.length - b7i x)):=rfl
    rw [hc]
    have q:=c4r hx
    by_cases hneg:left - 1 - x.attrs.length - b7i x<0
    · rw [if_pos hneg,if_pos hneg,g4s];rfl
    · rw [if_neg hneg,if_neg hneg,c1d]
      have hb:=c7o x.attrs hx.2.1 (left - 1 - x.attrs.length - b7i x)
      have hb2:(x.attrs.length:Int)≤1000000:=by omega
      simp only [List.length_cons] at hm
      have:=ih (pre++[x]) m (b1x x.attrs (left - 1 - x.attrs.length - b7i x)) (by rw [hd];simp) (by omega) (by omega) (by omega) (by omega)
      rw [List.length_append,Int.natCast_add] at this
      exact this
theorem j1f (l:List GOp) (most:Int) (g:List AObj) {n:Nat} (hs:∀ x ∈ l,smallOp x∧x.attrs.length<n) (hlen:l.length≤1048576) (hn:l.length<n) (h1:0≤most) (h2:most≤1000000) :
    b0f T (n+1) 10 [.p (.list (l.map GOp.pv)),.p (.int .i64 most)] g=some (.p (.bool (b9c l most)),g):=by
  rw [b0a T10,run_pure rfl rfl rfl]
  have hloop:=j1g (C:=b0f T n) (N:=n) l [] hs hlen l [] n most rfl hn (by simp) (by omega) (by omega)
  rw [← c2b] at hloop
  cases hr:b9s l most with
  | none =>
    rw [hr] at hloop
    simp -implicitDefEqProofs only [F10,h2w,List.length_nil,Int.natCast_zero] at hloop ⊢
    simp -implicitDefEqProofs (disch:=omega) only [Rx,simprocAttr,hloop,b9c,hr]
  | some left =>
    rw [hr] at hloop
    simp -implicitDefEqProofs only [F10,h2w,List.length_nil,Int.natCast_zero] at hloop ⊢
    simp -implicitDefEqProofs (disch:=omega) only [Rx,simprocAttr,hloop,b9c,hr]
end Go.TA.Tryz


end
section
/- The other guard of most laws: whether rows are few. -/
set_option maxHeartbeats 1000000
namespace Go.TA.Tryz
def c2u (x:GRow):Int:=((x.text.length:Int)+x.key.length+x.tag.length).tdiv 4096
def b5g:List GRow→Int→Option Int
 | [],left=>some left
 | x::l,left=>if left - 1 - x.attrs.length - c2u x<0 then none else b5g l (b1x x.attrs (left - 1 - x.attrs.length - c2u x))
def c3k (l:List GRow) (most:Int):Bool:=match b5g l most with
 | some n=>decide (n ≥ 0)
 | none=>false
theorem c5n {x:Int} (h:0≤x) (h2:x≤2097152):0≤x.tdiv 4096∧x.tdiv 4096≤1048576:=by
 rw [Int.tdiv_eq_ediv_of_nonneg h];omega
theorem d0k (l:List Attr) (hs:b1u l):∀ left:Int,left - 1048576*(l.length:Int)≤b1x l left∧b1x l left≤left:=by
  induction l with
  | nil=>intro left;simp [b1x]
  | cons a l ih =>
    intro left
    have ha:=hs a (by simp)
    have q:=c5n (x:=(a.value.length:Int)+(a.name.length:Int)) (by omega) (by omega)
    obtain ⟨z1,z2⟩:=ih (fun b hb=>hs b (by simp [hb])) (left - ((a.value.length:Int)+a.name.length).tdiv 4096)
    simp only [b1x,List.length_cons,Int.natCast_add,Int.natCast_one]
    constructor <;> omega
theorem g7c {C : b0n} {N n : Nat} (l : List GRow) (i : Nat) (x : GRow) (h : l[i]? = some x) (hx : x.small n) (hn : n ≤ 1048577) (hN : n ≤ N) (left : Int) (hl : -1099511627776 ≤ left) (hl2 : left ≤ 1000000) :
    b0t C N (.loop B9x1) ⟨[(0,.p (.list (l.map GRow.pv))),(5,.p (.int .i64 left)),(6,.p (.int .i64 i)),(10,.p (.int .i64 l.length)),(11,.p (.int .i64 i)),(52,.p (.int .i64 x.attrs.length)),(53,.p (.int .i64 0))],[],[]⟩ =
      some (.exit 2,⟨[(0,.p (.list (l.map GRow.pv))),(5,.p (.int .i64 (b1x x.attrs left))),(10,.p (.int .i64 l.length)),(11,.p (.int .i64 i))],[],[]⟩):=by
  have hlt:i<l.length:=(List.getElem?_eq_some_iff.1 h).1
  have hg:=b0s (f:=GRow.pv) h
  have:=hx.attrs
  refine b1k (σ := Nat × Int) (S:=fun s=>⟨[(0,.p (.list (l.map GRow.pv))),(5,.p (.int .i64 s.2)),(6,.p (.int .i64 i)),(10,.p (.int .i64 l.length)),(11,.p (.int .i64 i)),(52,.p (.int .i64 x.attrs.length)),(53,.p (.int .i64 s.1))],[],[]⟩)
    (I:=fun s=>s.1≤x.attrs.length ∧ -1099511627776 - 1048576*(s.1:Int)≤s.2∧s.2≤1000000) (μ := fun s=>x.attrs.length - s.1)
    (Φ := fun s=>(.exit 2,⟨[(0,.p (.list (l.map GRow.pv))),(5,.p (.int .i64 (b1x (x.attrs.drop s.1) s.2))),(10,.p (.int .i64 l.length)),(11,.p (.int .i64 i))],[],[]⟩)) ?_ (0,left) ?_ ?_
  · rintro ⟨k,left⟩ ⟨h1,h2,h3⟩
    simp only at h1 h2 h3 ⊢
    by_cases hk:k<x.attrs.length
    · obtain ⟨a,ha⟩:=b0m hk
      have hga:=b0s (f:=Attr.pv) ha
      have hs:=hx.small a (List.mem_of_getElem? ha)
      have q:=c5n (x:=(a.value.length:Int)+(a.name.length:Int)) (by omega) (by omega)
      refine .inl ⟨(k+1,left - ((a.value.length:Int)+a.name.length).tdiv 4096), ?_,⟨by omega,by simp only [Int.natCast_add,Int.natCast_one];omega,by omega⟩,by simp only;omega, ?_⟩
      · have k1:(k:Int)<(x.attrs.length:Int):=by omega
        have k2:(i:Int)<(l.length:Int):=by omega
        simp -implicitDefEqProofs (disch:=omega) only [Rx,simprocAttr,B9x1,k1,k2,hg,hga,GRow.pv,b0b,Attr.pv]
      · rw [List.drop_eq_getElem?_toList_append,ha];rfl
    · refine .inr ⟨?_,by simp⟩
      have:k=x.attrs.length:=by omega
      subst this
      have k1:¬ ((x.attrs.length:Int)<(x.attrs.length:Int)):=by omega
      simp -implicitDefEqProofs (disch:=omega) only [Rx,simprocAttr,B9x1,k1,List.drop_length,b1x]
  · simp only [Int.natCast_zero];omega
  · simp only;omega
def c1a (r:Option Int):Ex × St:=match r with
 | none=>(.ret,⟨[(4,.p (.bool false))],[],[]⟩)
 | some left=>(.exit 0,⟨[(5,.p (.int .i64 left))],[],[]⟩)
theorem g7b {C : b0n} {N n : Nat} (l : List GRow) (hl : Rows.small n l) (hn : n ≤ 1048577) (hN : n ≤ N) (most : Int) (h1 : 0 ≤ most) (h2 : most ≤ 1000000) :
    b0t C N (.loop B9x0) ⟨[(0,.p (.list (l.map GRow.pv))),(5,.p (.int .i64 most)),(10,.p (.int .i64 l.length)),(11,.p (.int .i64 0))],[],[]⟩=some (c1a (b5g l most)):=by
  have hlen:=hl.len
  refine b1k (σ := Nat × Int) (S:=fun s=>⟨[(0,.p (.list (l.map GRow.pv))),(5,.p (.int .i64 s.2)),(10,.p (.int .i64 l.length)),(11,.p (.int .i64 s.1))],[],[]⟩)
    (I:=fun s=>s.1≤l.length ∧ -1099511627776≤s.2∧s.2≤1000000) (μ := fun s=>l.length - s.1)
    (Φ := fun s=>c1a (b5g (l.drop s.1) s.2)) ?_ (0,most) ?_ ?_
  · rintro ⟨i,left⟩ ⟨h1,h2,h3⟩
    simp only at h1 h2 h3 ⊢
    by_cases hi:i<l.length
    · obtain ⟨x,hx⟩:=b0m hi
      have hgx:=b0s (f:=GRow.pv) hx
      have hs:=hl.row x (List.mem_of_getElem? hx)
      have q:=c5n (x:=(x.text.length:Int)+x.key.length+x.tag.length) (by omega) (by have:=hs.text;omega)
      have ha:=hs.attrs
      have hd:l.drop i=x::l.drop (i+1):=by rw [List.drop_eq_getElem?_toList_append,hx];rfl
      have k2:(i:Int)<(l.length:Int):=by omega
      have hc:b5g (l.drop i) left=if left - 1 - x.attrs.length - c2u x<0 then none else b5g (l.drop (i+1)) (b1x x.attrs (left - 1 - x.attrs.length - c2u x)):=by rw [hd];rfl
      have htx:=hs.text
      unfold c2u at hc
      by_cases hneg:left - 1 - x.attrs.length - ((x.text.length:Int)+x.key.length+x.tag.length).tdiv 4096<0
      · refine .inr ?_
        rw [hc,if_pos hneg]
        refine ⟨?_,by simp [c1a]⟩
        simp -implicitDefEqProofs (disch:=omega) only [Rx,simprocAttr,B9x0,k2,hgx,GRow.pv,b0b,hneg,c1a]
      · have hb:=d0k x.attrs hs.small (left - 1 - x.attrs.length - ((x.text.length:Int)+x.key.length+x.tag.length).tdiv 4096)
        have hloop:=g7c (C:=C) (N:=N) (n:=n) l i x hx hs hn hN (left - 1 - x.attrs.length - ((x.text.length:Int)+x.key.length+x.tag.length).tdiv 4096) (by omega) (by omega)
        refine .inl ⟨(i+1,b1x x.attrs (left - 1 - x.attrs.length - ((x.text.length:Int)+x.key.length+x.tag.length).tdiv 4096)), ?_,⟨by omega,by simp only;omega,by simp only;omega⟩,by simp only;omega,by simp only;rw [hc,if_neg hneg]⟩
        simp -implicitDefEqProofs (disch:=omega) only [Rx,simprocAttr,B9x0,k2,hgx,GRow.pv,b0b,hneg,hloop]
    · refine .inr ⟨?_, ?_⟩
      · have:i=l.length:=by omega
        subst this
        have k1:¬ ((l.length:Int)<(l.length:Int)):=by omega
        simp -implicitDefEqProofs (disch:=omega) only [Rx,simprocAttr,B9x0,k1,List.drop_length,b5g,c1a]
      · have:l.drop i=[]:=List.drop_eq_nil_of_le (by omega)
        simp [this,b5g,c1a]
  · simp only;omega
  · simp only;omega
theorem h7n (l:List GRow) (most:Int) (g:List AObj) {n:Nat} (hl:Rows.small n l) (hn:n≤1048577) (h1:0≤most) (h2:most≤1000000) {m:Nat} (hm:n≤m) :
    b0f T (m+1) 9 [.p (.list (l.map GRow.pv)),.p (.int .i64 most)] g=some (.p (.bool (c3k l most)),g):=by
  rw [b0a T9,run_pure rfl rfl rfl]
  have hloop:=g7b (C:=b0f T m) (N:=m) l hl hn hm most h1 h2
  cases hr:b5g l most with
  | none =>
    rw [hr] at hloop
    simp -implicitDefEqProofs only [F9,c1a] at hloop ⊢
    simp -implicitDefEqProofs (disch:=omega) only [Rx,simprocAttr,hloop,c3k,hr]
  | some left =>
    rw [hr] at hloop
    simp -implicitDefEqProofs only [F9,c1a] at hloop ⊢
    simp -implicitDefEqProofs (disch:=omega) only [Rx,simprocAttr,hloop,c3k,hr]
end Go.TA.Tryz


end
section
/- Sizes that stay: of a machine's nodes through a script, and of its rows; how many stand below the holder. -/
namespace Go.TA
structure b3p.small (s:b3p):Prop where
 len:s.attrs.length≤1048576
 attrs:b1u s.attrs
def MS.small (S:MS):Prop:=∀ h,(S.st h).small
theorem c2e:b1u []:=fun a ha=>by simp at ha
theorem g1v:d1a.small:=⟨by simp [d1a],c2e⟩
theorem b8r {S:MS} (h:S.small) {h0:Nat} {s:b3p} (hs:s.small) (k:Nat):(upd S.st h0 s k).small:=by
 unfold upd;split
 ·exact hs
 ·exact h k
theorem d9p {l:List Attr} (h:b1u l) {name v:Bs} (hv:v.length+name.length≤1048576):b1u (c0g l name v):=by
 intro a ha
 unfold c0g at ha
 split at ha
 ·rcases List.mem_or_eq_of_mem_set ha with h1 | rfl
  ·exact h a h1
  ·exact hv
 ·rcases List.mem_append.1 ha with h1 | h1
  ·exact h a (List.mem_of_mem_take h1)
  ·rcases List.mem_cons.1 h1 with rfl | h1
   ·exact hv
   ·exact h a (List.mem_of_mem_drop h1)
theorem c6q {S:MS} (h:S.small) (h0 u:Nat) (b:Int):(b2h S h0 u b).small:=fun k=>by
 simp only [b2h]
 refine b8r h ?_ k
 exact ⟨(h h0).len,(h h0).attrs⟩
theorem c8k {S:MS} (h:S.small) (h0:Nat):(b2f S h0).small:=by
 unfold b2f;split
 ·exact h
 ·intro k
  refine b8r h ?_ k
  exact ⟨(h h0).len,(h h0).attrs⟩
theorem h3h {S:MS} (h:S.small) {x:GOp} (hx:Tryz.smallOp x):(doM S x).2.small:=by
 obtain ⟨x1,x2,x3⟩:=hx
 unfold doM
 split
 ·intro k
  refine b8r h ?_ k
  exact ⟨x1,x2⟩
 split
 ·exact h
 split
 ·unfold b2s
  repeat' split
  all_goals first | exact h | exact c6q h _ _ _
 split
 ·unfold b6t
  repeat' split
  all_goals first | exact h | exact c6q (c8k h _) _ _ _
 split
 ·exact h
 split
 ·intro k
  simp only [endM]
  split
  ·exact g1v
  ·exact c8k h _ k
 unfold b3i
 split
 ·split
  ·exact h
  ·rename_i hl
   intro k
   refine b8r h ?_ k
   exact ⟨by simp only;omega,d9p (h _).attrs (by omega)⟩
 split
 ·split
  ·rename_i hl
   intro k
   refine b8r h ?_ k
   exact ⟨by simp only;have:=(h x.node.toNat).len;omega,fun a ha=>(h x.node.toNat).attrs a (List.mem_filter.1 ha).1⟩
  ·exact h
 split
 ·intro k
  refine b8r h ?_ k
  exact ⟨(h _).len,(h _).attrs⟩
 ·exact h
theorem c2c {l:List GRow} {m:Nat} (hl:Rows.mid m l) (hm:m≤1048577):(S0 l).small:=by
  intro h
  have hh:b7c.small:=⟨by simp [b7c],c2e⟩
  cases h with
  | zero=>exact hh
  | succ h =>
    simp only [S0,st0]
    cases hx:l[h]? with
    | none=>exact hh
    | some x =>
      have:=hl.row x (List.mem_of_getElem? hx)
      have h1:=this.attrs
      exact ⟨by simp only [Option.map_some,Option.getD_some,b5o];omega,this.small⟩
theorem belowM_mem {S : MS} : ∀ (d : Nat) (out : List GRow) (h up : Int), ∀ x ∈ b1t S d out h up, x ∈ out ∨ ∃ k u, x = rowM S k u
  | 0,out,h,up,x,hx => .inl hx
  | d + 1, out, h, up, x, hx => by
    have key:∀ (ks:List Int) (out:List GRow),∀ x ∈ ks.foldl (fun out k=>b1t S d (out++[rowM S k up]) k ((out.length:Int)+1)) out,x ∈ out∨∃ k u,x=rowM S k u:=by
      intro ks
      induction ks with
      | nil=>exact fun out x hx => .inl hx
      | cons k ks ih =>
        intro out x hx
        rcases ih _ x hx with h1 | h1
        · rcases belowM_mem d _ _ _ x h1 with h2 | h2
          · rcases List.mem_append.1 h2 with h3 | h3
            · exact .inl h3
            · simp only [List.mem_singleton] at h3
              exact .inr ⟨_,_,h3⟩
          · exact .inr h2
        · exact .inr h1
    rw [b1t] at hx
    exact key _ _ x hx
theorem b9j {R:Nat} {S:MS} (hS:S.Ok R) (h:S.small) (hN:S.N<1048577) (R':Nat):Rows.mid 1048577 (b2j S R'):=by
 have hl:=c0k hS R'
 refine ⟨by omega,fun x hx => ?_⟩
 rcases belowM_mem _ _ _ _ x hx with h1 | ⟨k,u,rfl⟩
 ·simp at h1
 ·have:=h k.toNat
  have h1:=this.len
  exact ⟨by simp only [rowM];omega,this.attrs⟩
def tops (l:List GRow):Nat:=l.countP fun x=>x.up==0
theorem g2o (l k:List GRow):tops (l++k)=tops l+tops k:=List.countP_append
theorem g2n {S:MS} {k u:Int}:tops [rowM S k u]=if u=0 then 1 else 0:=by
 simp [tops,List.countP_cons,rowM]
theorem d1k {S : MS} : ∀ (d : Nat) (out : List GRow) (h up : Int), 0 < up → tops (b1t S d out h up) = tops out
  | 0,out,h,up,hu=>rfl
  | d + 1, out, h, up, hu => by
    have key:∀ (ks:List Int) (out:List GRow),tops (ks.foldl (fun out k=>b1t S d (out++[rowM S k up]) k ((out.length:Int)+1)) out)=tops out:=by
      intro ks
      induction ks with
      | nil=>exact fun out=>rfl
      | cons k ks ih =>
        intro out
        rw [List.foldl_cons,ih,d1k d _ _ _ (by omega),g2o,g2n,if_neg (by omega),Nat.add_zero]
    rw [b1t]
    exact key _ _
theorem h5r {S:MS} (d:Nat) (h:Nat):tops (b1t S (d+1) [] (h:Int) 0)=(S.kd h).length:=by
  have key:∀ (ks:List Int) (out:List GRow),tops (ks.foldl (fun out k=>b1t S d (out++[rowM S k 0]) k ((out.length:Int)+1)) out)=tops out+ks.length:=by
    intro ks
    induction ks with
    | nil=>exact fun out=>rfl
    | cons k ks ih =>
      intro out
      rw [List.foldl_cons,ih,d1k d _ _ _ (by omega),g2o,g2n,if_pos rfl,List.length_cons]
      omega
  rw [b1t,key,Int.toNat_natCast]
  simp [tops]
theorem d5r (S:MS) (R:Nat):tops (b2j S R)=(S.kd 0).length:=h5r R 0
theorem g9n {l:List GRow} {i:Nat} {x:GRow} (hx:l[i]? = some x):tops (l.take (i+1))=tops (l.take i)+if x.up=0 then 1 else 0:=by
 rw [tops,List.take_add_one,hx,List.countP_append,tops]
 simp [List.countP_cons]
theorem d9u (l:List GRow):tops l≤l.length:=List.countP_le_length
namespace Tryz
theorem c7f (l:List Attr):∀ left:Int,b1x l left≤left:=by
  induction l with
  | nil=>exact fun left=>Int.le_refl _
  | cons a l ih =>
    intro left
    have h1:=ih (left - ((a.value.length:Int)+a.name.length).tdiv 4096)
    have h2:0≤((a.value.length:Int)+a.name.length).tdiv 4096:=Int.tdiv_nonneg (by omega) (by omega)
    simp only [b1x]
    omega
theorem c6z:∀ (l:List GRow) (left n:Int),b5g l left=some n→n+l.length≤left
  | [],left,n,h=>by simp only [b5g,Option.some.injEq] at h;simp;omega
  | x :: l, left, n, h => by
    rw [b5g] at h
    split at h
    · cases h
    · have h1:=c6z l _ n h
      have h2:=c7f x.attrs (left - 1 - x.attrs.length - c2u x)
      have h3:0≤c2u x:=Int.tdiv_nonneg (by omega) (by omega)
      simp only [List.length_cons]
      omega
theorem g1n {l:List GRow} {m:Int} (h:c3k l m=true):(l.length:Int)≤m:=by
 unfold c3k at h
 split at h
 ·rename_i n hn
  have:=c6z l m n hn
  simp only [ge_iff_le,decide_eq_true_eq] at h
  omega
 ·cases h
theorem c9y:∀ (l:List GOp) (left n:Int),b9s l left=some n→n+l.length≤left
  | [],left,n,h=>by simp only [b9s,Option.some.injEq] at h;simp;omega
  | x :: l, left, n, h => by
    rw [b9s] at h
    split at h
    · cases h
    · have h1:=c9y l _ n h
      have h2:=c7f x.attrs (left - 1 - x.attrs.length - ((x.text.length:Int)+x.key.length+x.tag.length+x.name.length).tdiv 4096)
      have h3:0≤((x.text.length:Int)+x.key.length+x.tag.length+x.name.length).tdiv 4096:=Int.tdiv_nonneg (by omega) (by omega)
      simp only [List.length_cons]
      omega
theorem g7d {l:List GOp} {m:Int} (h:b9c l m=true):(l.length:Int)≤m:=by
 unfold b9c at h
 split at h
 ·rename_i n hn
  have:=c9y l m n hn
  simp only [ge_iff_le,decide_eq_true_eq] at h
  omega
 ·cases h
theorem h3j {S:MS} (h:S.small) {x:GOp} (hx:smallOp x):(doE S x).2.small:=by
 unfold doE;split
 ·exact h3h h hx
 ·exact h
theorem b6n:∀ (L:List GOp) {R:Nat} {S:MS} (hS:S.Ok R) (hs:S.small) (hL:∀ x ∈ L,smallOp x) (i:Nat),(runM S L i).2.2.Ok (bnd R L.length)∧(runM S L i).2.2.small∧(runM S L i).2.2.N≤S.N+L.length
  | [],R,S,hS,hs,hL,i=>⟨hS,hs,by simp [runM]⟩
  | x :: l, R, S, hS, hs, hL, i => by
    have hx:=hL x (by simp)
    obtain ⟨h1,h2,h3⟩:=h3k hS x (by have:=hx.1;omega)
    have h4:=h3j hs hx
    have hb:∀ k,bnd (R+R+1) k=bnd R (k+1):=by
      intro k
      induction k with
      | zero=>rfl
      | succ k ih=>rw [bnd,ih];rfl
    rw [runM]
    split
    · obtain ⟨q1,q2,q3⟩:=b6n l h1 h4 (fun y hy=>hL y (by simp [hy])) (i+1)
      rw [hb] at q1
      exact ⟨q1,q2,by simp only [List.length_cons];omega⟩
    · refine ⟨h1.more ?_,h4,by simp only [List.length_cons];omega⟩
      have:=b9w R (show 1≤(x::l).length by simp)
      exact this
end Tryz
end Go.TA


end
section
/- What a machine's functions look at: does a node live, is it below another one. -/
namespace Go.TA.Tryz
abbrev MP:AV:=.ptr true 1 1 1 0 0
theorem c9l (S:MS) (av:Nat→AV) (rest:List AObj) (h:Int) (n:Nat):b0f T (n+1) 72 [MP,.p (.int .i64 h)] (b0o S.N S.st av rest)=some (.p (.bool (b1j S h)),b0o S.N S.st av rest):=by
 rw [b0a T72,b0g rfl rfl]
 have len1:(b0z S.N S.st av).length=S.N:=b1y
 by_cases h0:0≤h
 rotate_left
 ·have e:b1j S h=false:=by simp [b1j,h0]
  rw [e]
  simp only [b0o]
  simp -implicitDefEqProofs (disch:=omega) only [Rx,simprocAttr,F72,h0]
 obtain ⟨c,rfl⟩:=Int.eq_ofNat_of_zero_le h0
 by_cases h1:(c:Int)<(S.N:Int)
 rotate_left
 ·have e:b1j S (c:Int)=false:=by simp only [b1j,h1,decide_false,Bool.false_and,Bool.and_false]
  rw [e]
  simp only [b0o]
  simp -implicitDefEqProofs (disch:=omega) only [Rx,simprocAttr,F72,h0,h1]
 ·have hgn:(b0z S.N S.st av).getD c []=b1s (S.st c) (av c):=b1w (by omega)
  have e:b1j S (c:Int)=(S.st c).live:=by simp only [b1j,h0,h1,decide_true,Bool.true_and,Int.toNat_natCast]
  rw [e]
  simp only [b0o,b1s] at hgn ⊢
  simp -implicitDefEqProofs (disch:=omega) only [Rx,simprocAttr,F72,h0,h1,len1,hgn]
theorem j1c (S:MS) (av:Nat→AV) (rest:List AObj) (h:Int) (n:Nat):b0f T (n+2) 44 [MP,.p (.int .i64 h)] (b0o S.N S.st av rest)=some (.p (.int .i64 (fitE S h)),b0o S.N S.st av rest):=by
 rw [b0a T44,b0g rfl rfl]
 have hl:=c9l S av rest h n
 by_cases h0:h=0
 ·have e:(h==0)=true:=by simpa using h0
  simp -implicitDefEqProofs (disch:=omega) only [Rx,simprocAttr,F44,fitE,h0]
 have e:(h==0)=false:=by simpa using h0
 cases hv:b1j S h
 ·rw [hv] at hl
  simp -implicitDefEqProofs (disch:=omega) only [Rx,simprocAttr,F44,fitE,h0,e,hl,hv]
 ·rw [hv] at hl
  simp -implicitDefEqProofs (disch:=omega) only [Rx,simprocAttr,F44,fitE,h0,e,hl,hv]
theorem g5f {R : Nat} {S : MS} (hS : S.Ok R) (av : Nat → AV) (rest : List AObj) (t : Nat) (C : b0n) (N : Nat) (hN : R + 3 < N) (h : Nat) (hh : h < S.N) :
    b0t C N (.loop g8s) ⟨[(0,MP),(1,.p (.int .i64 h)),(2,.p (.int .i64 t))],[],b0o S.N S.st av rest⟩=some (if b2t S (h:Int) (t:Int)=true then (.ret,⟨[(6,.p (.bool true))],[],b0o S.N S.st av rest⟩) else (.exit 0,⟨[],[],b0o S.N S.st av rest⟩)):=by
  obtain ⟨r,hr1,hr2⟩:=hS.rank
  have len1:(b0z S.N S.st av).length=S.N:=b1y
  have key:=b1i (C:=C) (N:=N) (B:=g8s) (σ := Int) (S:=fun y=>⟨[(0,MP),(1,.p (.int .i64 y)),(2,.p (.int .i64 t))],[],b0o S.N S.st av rest⟩)
    (I:=fun y=>(y = -1∨∃ c:Nat,y=(c:Int)∧c<S.N)∧(Below S (t:Int) (h:Int)↔Below S (t:Int) y)) (μ := fun y=>if y<0 then 0 else r y.toNat+1)
    (Q:=fun q=>q=(if b2t S (h:Int) (t:Int)=true then (.ret,⟨[(6,.p (.bool true))],[],b0o S.N S.st av rest⟩) else (.exit 0,⟨[],[],b0o S.N S.st av rest⟩))) ?_ (h:Int) ⟨.inr ⟨h,rfl,hh⟩,Iff.rfl⟩ (by
      have:=hr1 h hh
      simp only [Int.toNat_natCast]
      split <;> omega)
  · obtain ⟨q,hq,rfl⟩:=key
    exact hq
  rintro y ⟨hy,hb⟩
  rcases hy with rfl | ⟨c,rfl,hc⟩
  · right
    have hf:¬ Below S (t:Int) (h:Int):=fun q=>c1f (by omega) (hb.1 q)
    refine ⟨_, ?_, ?_,rfl⟩
    · rw [if_neg (fun q=>hf (b2y.1 q))]
      simp -implicitDefEqProofs (disch:=omega) only [Rx,simprocAttr,g8s]
    · rw [if_neg (fun q=>hf (b2y.1 q))];simp
  by_cases e:c=t
  · subst e
    right
    have hf:Below S (c:Int) (h:Int):=hb.2 .here
    refine ⟨_, ?_, ?_,rfl⟩
    · rw [if_pos (b2y.2 hf)]
      have k0:(0:Int)≤(c:Int):=by omega
      simp -implicitDefEqProofs (disch:=omega) only [Rx,simprocAttr,g8s,k0]
    · rw [if_pos (b2y.2 hf)];simp
  · left
    have e1:((c:Int)==(t:Int))=false:=by simp;omega
    have k0:(0:Int)≤(c:Int):=by omega
    have k1:(c:Int)<(S.N:Int):=by omega
    have hgn:(b0z S.N S.st av).getD c []=b1s (S.st c) (av c):=b1w hc
    refine ⟨(S.st c).up, ?_,⟨?_, ?_⟩, ?_⟩
    · simp only [b0o,b1s] at hgn ⊢
      simp -implicitDefEqProofs (disch:=omega) only [Rx,simprocAttr,g8s,k0,k1,e1,len1,hgn]
    · rcases hS.up c hc with h1 | ⟨p,h1,h2,_⟩
      · exact .inl h1
      · exact .inr ⟨p,h2,h1⟩
    · rw [hb,c1g (by omega) (by omega)];rfl
    · have e2:¬ (c:Int)<0:=by omega
      simp only [Int.toNat_natCast,e2,if_false]
      rcases hS.up c hc with h1 | ⟨p,h1,h2,_⟩
      · rw [h1];simp
      · have:=hr2 c p hc h2
        rw [h2,Int.toNat_natCast]
        split <;> omega
theorem g9l {R:Nat} {S:MS} (hS:S.Ok R) (av:Nat→AV) (rest:List AObj) (t h:Nat) (hh:h<S.N) {n:Nat} (hn:R+3<n):b0f T (n+1) 73 [MP,.p (.int .i64 h),.p (.int .i64 t)] (b0o S.N S.st av rest)=some (.p (.bool (b2t S h t)),b0o S.N S.st av rest):=by
 rw [b0a T73,b0g rfl rfl]
 have hl:=g5f hS av rest t (b0f T n) n hn h hh
 by_cases hb:Below S (t:Int) (h:Int)
 ·have e:b2t S h t=true:=by simp [b2t,hb]
  rw [if_pos e] at hl
  simp -implicitDefEqProofs (disch:=omega) only [Rx,simprocAttr,F73,hl,e]
 ·have e:b2t S h t=false:=by simp [b2t,hb]
  rw [if_neg (by rw [e];simp)] at hl
  simp -implicitDefEqProofs (disch:=omega) only [Rx,simprocAttr,F73,hl,e]
end Go.TA.Tryz


end
section
/- A node is put below another one; a node is taken out. -/
namespace Go.TA.Tryz
theorem h7h (l:List Int):((b0j l).all fun x=>x.length==1)=true:=by simp [List.all_eq_true,b0j]
def killed (rest:List AObj):AV→List AObj
 | .own true (r+2) _=>rest.set r .dead
 | _=>rest
theorem c1s (rest:List AObj) (a:AV):(killed rest a).length=rest.length:=by
 unfold killed;split <;> simp
theorem KRep.killed {rest:List AObj} {a a':AV} {ks':List Int} (h:KRep rest a' ks') (h2:b1z a'=none∨b1z a'≠b1z a):KRep (killed rest a) a' ks':=by
 unfold Go.TA.Tryz.killed
 split
 ·rename_i r m
  refine h.set ?_
  rcases h2 with h2 | h2
  ·rw [h2];simp
  ·exact h2
 ·exact h
theorem d2t {rest:List AObj} {a:AV} {ks:List Int} (hK:KRep rest a ks) (hl:ks.length≤4194304) (A B:AObj) (n:Nat):b0f T (n+1) 76 [a] (A::B::rest)=some (.own true (rest.length+1+1) ks.length,A::B::(killed rest a++[.pcells 1 (b0j ks)])):=by
 rw [b5t T76]
 have h2:=h7h ks
 have h4:=b0v ks
 have h3:ks.length*4096≤140737488355328:=by omega
 rcases hK.inv with ⟨rfl,rfl⟩ | ⟨r,rfl,hr⟩ | rfl
 ·simp [b7f,thaw,c1e,c6r,b0j,killed]
 ·have hr':(A::B::rest)[r+1+1]? = some (.pcells 1 (b0j ks)):=by simpa using hr
  simp only [b7f,thaw,hr',h4,if_true,c1e,c6r,h2,h3,and_self,killed,List.set_cons_succ,List.length_cons,List.length_set,List.cons_append]
 ·simp only [b7f,thaw,h4,c1e,c6r,h2,h3,and_self,killed,if_true,List.length_cons,List.cons_append]
theorem g1f (X:List AObj) (ks:List Int) (at':Nat) (h:Int) (hat:at'≤ks.length) (hl:ks.length≤4194304) (A B:AObj) (n:Nat):b0f T (n+1) 106 [.own true (X.length+1+1) ks.length,.p (.int .i64 at'),.p (.list [[.int .i64 h]])] (A::B::(X++[.pcells 1 (b0j ks)]))=some (.p (.list (b0j (ks.take at'++h::ks.drop at'))),A::B::(X++[.dead])):=by
 rw [b5t T106]
 have hr':(A::B::(X++[.pcells 1 (b0j ks)]))[X.length+1+1]? = some (.pcells 1 (b0j ks)):=by simp
 have h4:=b0v ks
 have h5:(ks.length+1)*4096≤140737488355328:=by omega
 have h6:(at':Int)≤(ks.length:Int):=by omega
 have e1:(b0j ks).take at'++[[PV.int .i64 h]]++(b0j ks).drop at'=b0j (ks.take at'++h::ks.drop at'):=by
  simp [b0j,List.map_take,List.map_drop]
 have e2:(X++[AObj.pcells 1 (b0j ks)]).set X.length .dead=X++[.dead]:=by simp [List.set_append]
 simp only [b8m,hr',h4,true_and,List.all_cons,List.all_nil,List.length_cons,List.length_nil,Bool.and_true,beq_self_eq_true,Nat.zero_add,Nat.lt_irrefl,Nat.zero_lt_one,h5,h6,Int.natCast_nonneg,Int.toNat_natCast,and_self,if_true,List.set_cons_succ,e2]
 rw [← e1]
theorem g6o (l:List Int) (v:Int) (hv:v ∈ l) (hl:l.length≤4194304) (g:List AObj) {n:Nat} (hn:l.length<n):b0f T (n+1) 105 [.p (.list (b0j l)),.p (.int .i64 v)] g=some (.p (.int .i64 (l.idxOf v)),g):=by
 have hlt:=List.idxOf_lt_length_iff.2 hv
 have il:=b0v l
 have key:=b1i (C:=b0f T n) (N:=n) (B:=g5a) (σ := Nat) (S:=fun i=>⟨[(0,.p (.list (b0j l))),(1,.p (.int .i64 v)),(7,.p (.int .i64 l.length)),(8,.p (.int .i64 i))],[],[]⟩)
  (I:=fun i=>i≤l.idxOf v) (μ := fun i=>l.length - i) (Q:=fun q=>q=(.ret,⟨[(4,.p (.int .i64 (l.idxOf v)))],[],[]⟩)) ?_ 0 (by omega) (by omega)
 ·obtain ⟨q,hq,rfl⟩:=key
  simp only [Int.natCast_zero] at hq
  rw [b0a T105,run_pure rfl rfl rfl]
  simp -implicitDefEqProofs (disch:=omega) only [Rx,simprocAttr,F105,hq,il]
 intro i hi
 have hil:i<l.length:=by omega
 have k1:(i:Int)<(l.length:Int):=by omega
 have hg:=b4e (List.getElem?_eq_getElem hil)
 by_cases e:i=l.idxOf v
 ·right
  have hx:l[i]=v:=by subst e;exact List.getElem_idxOf hlt
  refine ⟨_, ?_, ?_,rfl⟩
  ·have e1:(v==l[i])=true:=by simp [hx]
   rw [← e]
   simp -implicitDefEqProofs (disch:=omega) only [Rx,simprocAttr,g5a,k1,hg,e1,il]
  ·simp
 ·left
  have hx:(v==l[i])=false:=by
   have h9:=List.not_of_lt_findIdx (xs:=l) (p:=fun x=>x==v) (i:=i) (by unfold List.idxOf at hi e;omega)
   have h10:¬ v=l[i]:=fun hq=>by rw [← hq] at h9;simp at h9
   simpa using h10
  refine ⟨i+1, ?_,by omega,by omega⟩
  simp -implicitDefEqProofs (disch:=omega) only [Rx,simprocAttr,g5a,k1,hg,hx,il]
theorem MOk.fixed {N:Nat} {av:Nat→AV} {kd:Nat→List Int} {rest:List AObj} (h:MOk N av kd rest) {u:Nat} (hu:u<N) (ks:List Int) (more:List AObj):MOk N (upd av u (.p (.list (b0j ks)))) (upd kd u ks) (killed rest (av u)++more) where
 kids k hk:=by
  by_cases e:k=u
  ·subst e;rw [b0l,b0l];exact .list
  ·rw [b0k e,b0k e]
   refine KRep.more (Go.TA.Tryz.KRep.killed (h.kids k hk) ?_) _
   exact h.disj k u hk hu e
 disj:=(h.fix hu ks).disj
theorem Fr.fixed {N:Nat} {av:Nat→AV} {rest:List AObj} {u:Nat} (hu:u<N) (ks:List (List PV)) (more:List AObj):Fr N av rest N (upd av u (.p (.list ks))) (killed rest (av u)++more) where
 len:=by rw [List.length_append,c1s];omega
 keep j hj hn:=by
  rw [List.getElem?_append_left (by rw [c1s];exact hj)]
  have:=hn u hu
  unfold killed
  split
  ·rename_i r m e
   rw [e] at this
   simp only [b1z,ne_eq,Option.some.injEq] at this
   rw [List.getElem?_set,if_neg (by omega)]
  ·rfl
 refs h hh j hj _:=by
  by_cases e:h=u
  ·subst e;rw [b0l] at hj;cases hj
  ·rw [b0k e] at hj;exact ⟨h,hh,hj⟩
theorem d6s {R:Nat} {S:MS} (hS:S.Ok R) (hN:S.N≤4194304) (av:Nat→AV) (rest:List AObj) (hM:MOk S.N av S.kd rest) (h u:Nat) (b:Int) (hh:h<S.N) (hu:u<S.N) (hb:b=0∨b ∈ S.kd u) {n:Nat} (hn:S.N<n) :
  ∃ av' rest',b0f T (n+2) 74 [MP,.p (.int .i64 h),.p (.int .i64 u),.p (.int .i64 b)] (b0o S.N S.st av rest)=some (.tuple [],b0o S.N (b2h S h u b).st av' rest')∧MOk S.N av' (b2h S h u b).kd rest'∧Fr S.N av rest S.N av' rest':=by
 have hK:=hM.kids u hu
 have hkl:=hS.kids_len hu
 have len1:∀ st av,(b0z S.N st av).length=S.N:=fun _ _=>b1y
 have hgu:(b0z S.N S.st av).getD u []=b1s (S.st u) (av u):=b1w hu
 have k1:(u:Int)<(S.N:Int):=by omega
 have k2:(h:Int)<(S.N:Int):=by omega
 generalize hat:(if b=0 then (S.kd u).length else (S.kd u).idxOf b)=at'
 have hatl:at'≤(S.kd u).length:=by
  rw [← hat]
  split
  ·exact Nat.le_refl _
  ·exact List.idxOf_le_length
 have hins:=fun A B=>g1f (killed rest (av u)) (S.kd u) at' (h:Int) hatl (by omega) A B n
 have hcl:=fun A B=>d2t hK (by omega) A B n
 rw [c1s] at hins
 have il:=b0v (S.kd u)
 have hres:insI (S.kd u) (h:Int) b=(S.kd u).take at'++(h:Int)::(S.kd u).drop at':=by rw [← hat];rfl
 refine ⟨upd av u (.p (.list (b0j (insI (S.kd u) (h:Int) b)))),killed rest (av u)++[.dead], ?_,by exact Go.TA.Tryz.MOk.fixed hM hu (insI (S.kd u) (h:Int) b) [.dead],Go.TA.Tryz.Fr.fixed hu _ _⟩
 rw [hres]
 generalize hres2:(S.kd u).take at'++(h:Int)::(S.kd u).drop at'=ks' at hins
 have hset1:(b0z S.N S.st av).set u [.p (.bool (S.st u).live),.p (.int .i64 (S.st u).up),.p (.list (b0j ks')),.p (.str (S.st u).tag),.p (.str (S.st u).key),.p (.str (S.st u).text),.p (.list ((S.st u).attrs.map Attr.pv))]=b0z S.N S.st (upd av u (.p (.list (b0j ks')))):=by
  have:=b6o (N:=S.N) (st:=S.st) (av:=av) hu (S.st u) (.p (.list (b0j ks')))
  simp only [b1s] at this
  rw [this]
  refine b3w fun k hk=>⟨?_,rfl⟩
  by_cases e:k=u
  ·subst e;rw [b0l]
  ·rw [b0k e]
 have hgh:(b0z S.N S.st (upd av u (.p (.list (b0j ks'))))).getD h []=b1s (S.st h) (upd av u (.p (.list (b0j ks'))) h):=b1w hh
 generalize hah:upd av u (.p (.list (b0j ks'))) h=ah at hgh
 have hset2:(b0z S.N S.st (upd av u (.p (.list (b0j ks'))))).set h [.p (.bool (S.st h).live),.p (.int .i64 u),ah,.p (.str (S.st h).tag),.p (.str (S.st h).key),.p (.str (S.st h).text),.p (.list ((S.st h).attrs.map Attr.pv))]=b0z S.N (b2h S h u b).st (upd av u (.p (.list (b0j ks')))):=by
  have:=b6o (N:=S.N) (st:=S.st) (av:=upd av u (.p (.list (b0j ks')))) hh { S.st h with up:=(u:Int) } ah
  simp only [b1s] at this
  rw [this]
  refine b3w fun k hk=>⟨rfl, ?_⟩
  by_cases e:k=h
  ·subst e;rw [b0l,hah]
  ·rw [b0k e]
 rw [b0a T74,b0g rfl rfl]
 simp only [b1s] at hgu hgh
 by_cases hb0:b=0
 ·have eb:(b==0)=true:=by simpa using hb0
  have eb2:(b != 0)=false:=by simp [hb0]
  rw [if_pos hb0] at hat
  subst hat
  rcases hK.inv with ⟨hav,hk0⟩ | ⟨r,hav,hr⟩ | hav
  ·rw [hav] at hcl hins hgu
   simp only [hk0,List.length_nil,Int.natCast_zero] at hcl hins
   simp only [b0o,hav]
   simp -implicitDefEqProofs (disch:=omega) only [Rx,simprocAttr,F74,k1,k2,len1,hgu,hgh,hset1,hset2,hcl,hins,eb]
  ·rw [hav] at hcl hins hgu
   simp only [b0o,hav]
   simp -implicitDefEqProofs (disch:=omega) only [Rx,simprocAttr,F74,k1,k2,len1,hgu,hgh,hset1,hset2,hcl,hins,eb]
  ·rw [hav] at hcl hins hgu
   simp only [b0o,hav]
   simp -implicitDefEqProofs (disch:=omega) only [Rx,simprocAttr,F74,k1,k2,len1,hgu,hgh,hset1,hset2,hcl,hins,il,eb]
 ·have eb:(b==0)=false:=by simpa using hb0
  have eb2:(b != 0)=true:=by simp [hb0]
  have hbm:b ∈ S.kd u:=by rcases hb with h1 | h1;exact absurd h1 hb0;exact h1
  have hix:=fun g=>g6o (S.kd u) b hbm (by omega) g (n:=n) (by omega)
  rw [if_neg hb0] at hat
  rw [hat] at hix
  rcases hK.inv with ⟨hav,hk0⟩ | ⟨r,hav,hr⟩ | hav
  ·rw [hk0] at hbm;simp at hbm
  ·rw [hav] at hcl hins hgu
   simp only [b0o,hav]
   simp -implicitDefEqProofs (disch:=omega) only [Rx,simprocAttr,F74,k1,k2,len1,hgu,hgh,hset1,hset2,hcl,hins,hix,il,eb,hr]
  ·rw [hav] at hcl hins hgu
   simp only [b0o,hav]
   simp -implicitDefEqProofs (disch:=omega) only [Rx,simprocAttr,F74,k1,k2,len1,hgu,hgh,hset1,hset2,hcl,hins,hix,il,eb]
end Go.TA.Tryz


end
section
/- slices.DeleteFunc on a row of numbers that was cloned: the numbers that are another one. -/
namespace Go.TA.Tryz
def notH (h:Int) (x:Int):Bool := !(x==h)
theorem c9x {α : Type} {p : α → Bool} {l:List α} {j:Nat} {x : α} (hx:l[j]? = some x):(l.take (j+1)).filter p=(l.take j).filter p++(if p x=true then [x] else []):=by
 rw [List.take_add_one,hx]
 simp only [List.filter_append,Option.toList_some,List.filter_cons,List.filter_nil]
theorem b9r {α : Type} {p : α → Bool} {l:List α} (h:∀ x ∈ l,p x=true):l.filter p=l:=List.filter_eq_self.2 h
structure b8i {α : Type} (p : α → Bool) (l:List α) (j i:Nat) (cur:List α):Prop where
 len:cur.length=l.length
 lt:i≤j
 have':cur.take i=(l.take j).filter p
 come:cur.drop j=l.drop j
theorem b8i.il {α : Type} {p : α → Bool} {l:List α} {j i:Nat} {cur:List α} (h:b8i p l j i cur) (hj:j≤l.length):i=((l.take j).filter p).length:=by
 rw [← h.have',List.length_take,h.len]
 have:=h.lt
 omega
theorem b8i.at {α : Type} {p : α → Bool} {l:List α} {j i:Nat} {cur:List α} (h:b8i p l j i cur):cur[j]? = l[j]? := by
 have:=congrArg (·[0]?) h.come
 simpa [List.getElem?_drop] using this
theorem b8i.skip {α : Type} {p : α → Bool} {l:List α} {j i:Nat} {cur:List α} (h:b8i p l j i cur) {x : α} (hx:l[j]? = some x) (hp:p x=false):b8i p l (j+1) i cur:=by
 refine ⟨h.len,by have:=h.lt;omega, ?_, ?_⟩
 ·rw [c9x hx,h.have',hp];simp
 ·have:=congrArg (List.drop 1) h.come
  simpa [List.drop_drop,Nat.add_comm] using this
theorem b8i.take {α : Type} {p : α → Bool} {l:List α} {j i:Nat} {cur:List α} (h:b8i p l j i cur) {x : α} (hx:l[j]? = some x) (hp:p x=true):b8i p l (j+1) (i+1) (cur.set i x):=by
 have hj:j<l.length:=(List.getElem?_eq_some_iff.1 hx).1
 have hlt:=h.lt
 refine ⟨by rw [List.length_set];exact h.len,by omega, ?_, ?_⟩
 ·rw [c9x hx,hp,if_pos rfl, ← h.have',List.take_add_one,List.getElem?_set]
  have:i<cur.length:=by rw [h.len];omega
  rw [if_pos rfl,if_pos this]
  simp [List.take_set_of_le]
 ·have:=congrArg (List.drop 1) h.come
  rw [List.drop_drop,List.drop_drop] at this
  rw [List.drop_set_of_lt (by omega)]
  exact this
section
variable {h:Int} {kb k:Nat}
theorem h3s (x:Int) (g:List AObj) (hkb:g[kb]? = some (.pcells 1 [[.int .i64 h]])) (n:Nat):b0f T (n+1) 77 [.p (.int .i64 x),.ptr true kb 1 1 0 0] g=some (.p (.bool (x==h)),g):=by
 rw [b0a T77,b0g rfl rfl]
 have e0:Int.toNat 0=0:=rfl
 simp -implicitDefEqProofs (disch:=omega) only [Rx,simprocAttr,F77,hkb]
theorem h2t (ks : List Int) (g : List AObj) (hk : g[k]? = some (.pcells 1 (b0j ks))) (hkb : g[kb]? = some (.pcells 1 [[.int .i64 h]])) (hl : ks.length ≤ 4194304) {n : Nat} (hn : ks.length + 1 < n) :
    b0f T (n+2) 107 [.own true k ks.length,.func 77 [.ptr true kb 1 1 0 0]] g=some (.p (.int .i64 (if ks.findIdx (· == h)<ks.length then (ks.findIdx (· == h):Int) else -1)),g):=by
  have il:=b0v ks
  have key:=b1i (C:=b0f T (n+1)) (N:=n+1) (B:=d9m) (σ := Nat) (S:=fun i=>⟨[(0,.own true k ks.length),(1,.func 77 [.ptr true kb 1 1 0 0]),(7,.p (.int .i64 ks.length)),(8,.p (.int .i64 i))],[],g⟩)
    (I:=fun i=>i≤ks.length∧i≤ks.findIdx (· == h)) (μ := fun i=>ks.length - i) (Q:=fun q=>q=if ks.findIdx (· == h)<ks.length then (.ret,⟨[(4,.p (.int .i64 (ks.findIdx (· == h))))],[],g⟩) else (.exit 0,⟨[],[],g⟩)) ?_ 0 ⟨by omega,by omega⟩ (by omega)
  · obtain ⟨q,hq,rfl⟩:=key
    simp only [Int.natCast_zero] at hq
    rw [b0a T107,b0g rfl rfl]
    by_cases hc:ks.findIdx (· == h)<ks.length
    · rw [if_pos hc] at hq
      rw [if_pos hc]
      simp -implicitDefEqProofs (disch:=omega) only [Rx,simprocAttr,F107,hq]
    · rw [if_neg hc] at hq
      rw [if_neg hc]
      simp -implicitDefEqProofs (disch:=omega) only [Rx,simprocAttr,F107,hq]
  rintro i ⟨h1,h2⟩
  by_cases hi:i<ks.length
  · have k1:(i:Int)<(ks.length:Int):=by omega
    have hg:=b4e (List.getElem?_eq_getElem hi)
    have hc:=h3s (h:=h) ks[i] g hkb n
    by_cases e:i=ks.findIdx (· == h)
    · right
      have hp:(ks[i]==h)=true:=by
        have:=List.findIdx_getElem (xs:=ks) (p:=(· == h)) (w:=by omega)
        subst e;exact this
      rw [hp] at hc
      refine ⟨_, ?_, ?_,rfl⟩
      · rw [if_pos (by omega), ← e]
        simp -implicitDefEqProofs (disch:=omega) only [Rx,simprocAttr,d9m,k1,hg,hk,hc,il]
      · rw [if_pos (by omega)];simp
    · left
      have hp:(ks[i]==h)=false:=by
        have:=List.not_of_lt_findIdx (xs:=ks) (p:=(· == h)) (i:=i) (by omega)
        simpa using this
      rw [hp] at hc
      refine ⟨i+1, ?_,⟨by omega,by omega⟩,by omega⟩
      simp -implicitDefEqProofs (disch:=omega) only [Rx,simprocAttr,d9m,k1,hg,hk,hc,il]
  · right
    obtain rfl:i=ks.length:=by omega
    have k1:¬ (ks.length:Int)<(ks.length:Int):=by omega
    refine ⟨_, ?_, ?_,rfl⟩
    · rw [if_neg (by omega)]
      simp -implicitDefEqProofs (disch:=omega) only [Rx,simprocAttr,d9m,k1]
    · rw [if_neg (by omega)];simp
theorem h3n (ks:List Int) (g:List AObj) (hk:k<g.length) (hkb:g[kb]? = some (.pcells 1 [[.int .i64 h]])) (hne:k≠kb) (hl:ks.length≤4194304) (n N:Nat) (hN:ks.length<N) (j0 i0:Nat) (h0:b8i (notH h) ks j0 i0 ks) (hj0:j0≤ks.length) :
    ∃ cur i,b0t (b0f T (n+1)) N (.loop b6z) ⟨[(0,.own true k ks.length),(1,.func 77 [.ptr true kb 1 1 0 0]),(5,.p (.int .i64 i0)),(6,.p (.int .i64 j0))],[],g.set k (.pcells 1 (b0j ks))⟩=some (.exit 0,⟨[(0,.own true k ks.length),(5,.p (.int .i64 (i:Nat)))],[],g.set k (.pcells 1 (b0j cur))⟩)∧b8i (notH h) ks ks.length i cur:=by
  have key:=b1i (C:=b0f T (n+1)) (N:=N) (B:=b6z) (σ := Nat × Nat × List Int) (S:=fun s=>⟨[(0,.own true k ks.length),(1,.func 77 [.ptr true kb 1 1 0 0]),(5,.p (.int .i64 s.1)),(6,.p (.int .i64 s.2.1))],[],g.set k (.pcells 1 (b0j s.2.2))⟩)
    (I:=fun s=>s.2.1≤ks.length∧b8i (notH h) ks s.2.1 s.1 s.2.2) (μ := fun s=>ks.length - s.2.1) (Q:=fun q=>∃ cur i,q=(.exit 0,⟨[(0,.own true k ks.length),(5,.p (.int .i64 (i:Nat)))],[],g.set k (.pcells 1 (b0j cur))⟩)∧b8i (notH h) ks ks.length i cur) ?_ (i0,j0,ks) ⟨hj0,h0⟩ (by simp only;omega)
  · obtain ⟨q,hq,cur,i,rfl,hg⟩:=key
    exact ⟨cur,i,hq,hg⟩
  rintro ⟨i,j,cur⟩ ⟨h1,h2⟩
  simp only at h1 h2 ⊢
  have hgk:(g.set k (.pcells 1 (b0j cur)))[k]? = some (.pcells 1 (b0j cur)):=by rw [List.getElem?_set,if_pos rfl,if_pos hk]
  have hgb:(g.set k (.pcells 1 (b0j cur)))[kb]? = some (.pcells 1 [[.int .i64 h]]):=by rw [List.getElem?_set,if_neg hne];exact hkb
  have hss:∀ o o':AObj,(g.set k o).set k o'=g.set k o':=fun o o'=>by simp
  have il:=b0v cur
  rw [h2.len] at il
  have hlt:=h2.lt
  by_cases hj:j<ks.length
  · left
    obtain ⟨x,hx⟩:∃ x,ks[j]? = some x:=⟨_,List.getElem?_eq_getElem hj⟩
    have k1:(j:Int)<(ks.length:Int):=by omega
    have k2:(i:Int)<(ks.length:Int):=by omega
    have hg:=b4e (h2.at.trans hx)
    have hc:=h3s (h:=h) x (g.set k (.pcells 1 (b0j cur))) hgb n
    cases hp:(x==h) with
    | true =>
      rw [hp] at hc
      refine ⟨(i,j+1,cur), ?_,⟨by simp only;omega,h2.skip hx (by simp [notH,hp])⟩,by simp only;omega⟩
      simp -implicitDefEqProofs (disch:=omega) only [Rx,simprocAttr,b6z,k1,hg,hgk,hc,il]
    | false =>
      rw [hp] at hc
      have hset:(b0j cur).set i [.int .i64 x]=b0j (cur.set i x):=by simp [b0j,List.map_set]
      have hgi:=b4e (List.getElem?_eq_getElem (show i<cur.length by rw [h2.len];omega))
      refine ⟨(i+1,j+1,cur.set i x), ?_,⟨by simp only;omega,h2.take hx (by simp [notH,hp])⟩,by simp only;omega⟩
      simp -implicitDefEqProofs (disch:=omega) only [Rx,simprocAttr,b6z,k1,k2,hg,hgi,hgk,hc,il,hset,hss]
  · right
    obtain rfl:j=ks.length:=by omega
    have k1:¬ (ks.length:Int)<(ks.length:Int):=by omega
    refine ⟨_, ?_, ?_,cur,i,rfl,h2⟩
    · simp -implicitDefEqProofs (disch:=omega) only [Rx,simprocAttr,b6z,k1]
    · simp
theorem h8a (ks : List Int) (g : List AObj) (hk : g[k]? = some (.pcells 1 (b0j ks))) (hkb : g[kb]? = some (.pcells 1 [[.int .i64 h]])) (hne : k ≠ kb) (hl : ks.length ≤ 4194304) {n : Nat} (hn : ks.length + 1 < n) :
    b0f T (n+3) 75 [.own true k ks.length,.func 77 [.ptr true kb 1 1 0 0]] g=some (.p (.list (b0j (ks.filter (notH h)))),g.set k .dead):=by
  rw [b5t T75]
  have hf:=h2t ks g hk hkb hl hn
  have il:=b0v ks
  have hkl:k<g.length:=(List.getElem?_eq_some_iff.1 hk).1
  unfold b8n
  simp only
  by_cases hc:ks.findIdx (· == h)<ks.length
  · rw [if_pos hc] at hf
    generalize hi:ks.findIdx (· == h)=i0 at hc hf
    have hpre:∀ m,m<i0→∀ x,ks[m]? = some x→notH h x=true:=fun m hm x hx=>by
      have hml:m<ks.length:=(List.getElem?_eq_some_iff.1 hx).1
      have:=List.not_of_lt_findIdx (xs:=ks) (p:=(· == h)) (i:=m) (by omega)
      rw [(List.getElem?_eq_some_iff.1 hx).2] at this
      simpa [notH] using this
    have hat:ks[i0]? = some h:=by
      have:=List.findIdx_getElem (xs:=ks) (p:=(· == h)) (w:=by omega)
      subst hi
      rw [List.getElem?_eq_getElem hc]
      simpa using this
    have hgo:b8i (notH h) ks (i0+1) i0 ks:=by
      have h1:b8i (notH h) ks i0 i0 ks:=by
        refine ⟨rfl,Nat.le_refl _, ?_,rfl⟩
        rw [b9r]
        intro x hx
        obtain ⟨m,hm,rfl⟩:=List.getElem_of_mem hx
        rw [List.length_take] at hm
        refine hpre m (by omega) _ ?_
        rw [List.getElem_take,List.getElem?_eq_getElem]
      exact h1.skip hat (by simp [notH])
    obtain ⟨cur,i,hloop,hend⟩:=h3n (h:=h) (kb:=kb) ks g hkl hkb hne hl (n+1) (ks.length+2) (by omega) (i0+1) i0 hgo (by omega)
    have hself:g.set k (.pcells 1 (b0j ks))=g:=by
      apply List.ext_getElem?
      intro m
      rw [List.getElem?_set]
      by_cases e:k=m
      · subst e;rw [if_pos rfl,if_pos hkl,hk]
      · rw [if_neg e]
    rw [hself] at hloop
    have e1:((i0:Int) == -1)=false:=by simp
    have hilt:=hend.il (Nat.le_refl _)
    have hihave:=hend.have'
    rw [List.take_length] at hilt hihave
    have hlt2:i<ks.length:=by
      rw [hilt]
      exact List.length_filter_lt_length_iff_exists.2 ⟨h,List.mem_of_getElem? hat,by simp [notH]⟩
    have hrun:b0t (b0f T (n+2)) (ks.length+2) (b8q 107 b6z) (b4b [.own true k ks.length,.func 77 [.ptr true kb 1 1 0 0]] g)=some (.normal,⟨[(0,.own true k ks.length),(5,.p (.int .i64 (i:Nat)))],[],g.set k (.pcells 1 (b0j cur))⟩):=by
      simp only [Int.natCast_add,Int.natCast_one] at hloop
      simp -implicitDefEqProofs (disch:=omega) only [Rx,simprocAttr,b8q,hf,hloop,e1]
    rw [hrun]
    have hgk:(g.set k (.pcells 1 (b0j cur)))[k]? = some (.pcells 1 (b0j cur)):=by rw [List.getElem?_set,if_pos rfl,if_pos hkl]
    have il2:(b0j cur).length=ks.length:=by rw [b0v,hend.len]
    have hi2:(i:Int)<(ks.length:Int):=by omega
    have ht:(b0j cur).take i=b0j (ks.filter (notH h)):=by rw [← hihave];simp [b0j,List.map_take]
    simp [Option.bind_some,c7b,St.get,lk,c4c,hgk,il2,hi2,ht]
  · rw [if_neg hc] at hf
    have hall:ks.filter (notH h)=ks:=b9r fun x hx=>by
      have h1:¬ ks.findIdx (· == h)<ks.length:=hc
      rw [List.findIdx_lt_length] at h1
      cases hq:(x==h) with
      | false=>simp [notH,hq]
      | true=>exact absurd ⟨x,hx,hq⟩ h1
    have hrun:b0t (b0f T (n+2)) (ks.length+2) (b8q 107 b6z) (b4b [.own true k ks.length,.func 77 [.ptr true kb 1 1 0 0]] g)=some (.ret,⟨[(4,.own true k ks.length)],[],g⟩):=by
      simp -implicitDefEqProofs (disch:=omega) only [Rx,simprocAttr,b8q,hf]
    rw [hrun,hall]
    simp [c7b,St.get,lk,c4c,hk,il]
end
end Go.TA.Tryz


end
section
/- A node is taken out. -/
namespace Go.TA.Tryz
theorem h2f {rest:List AObj} {o:AObj} {a:AV} {ks:List Int} (hK:KRep rest a ks):(killed (rest++[o]) a)[rest.length]? = some o:=by
 rcases hK.inv with ⟨rfl,_⟩ | ⟨r,rfl,hr⟩ | rfl
 ·simp [killed]
 ·have:=(List.getElem?_eq_some_iff.1 hr).1
  simp only [killed]
  rw [List.getElem?_set,if_neg (by omega)]
  simp
 ·simp [killed]
theorem g2p {R:Nat} {S:MS} (hS:S.Ok R) (hN:S.N≤4194304) (av:Nat→AV) (rest:List AObj) (hM:MOk S.N av S.kd rest) (h:Nat) (hh:h<S.N) {n:Nat} (hn:S.N+1<n) :
  ∃ av' rest',b0f T (n+4) 45 [MP,.p (.int .i64 h)] (b0o S.N S.st av rest)=some (.tuple [],b0o S.N (b2f S h).st av' rest')∧MOk S.N av' (b2f S h).kd rest'∧Fr S.N av rest S.N av' rest':=by
 have len1:∀ st av,(b0z S.N st av).length=S.N:=fun _ _=>b1y
 have hgh:(b0z S.N S.st av).getD h []=b1s (S.st h) (av h):=b1w hh
 have k2:(h:Int)<(S.N:Int):=by omega
 have hM':MOk S.N av S.kd (rest++[.pcells 1 [[.int .i64 h]]]):=⟨fun k hk=>(hM.kids k hk).more _,hM.disj⟩
 have hbx:(rest++[AObj.pcells 1 [[.int .i64 h]]])[rest.length]? = some (.pcells 1 [[.int .i64 h]]):=by simp
 have e0:Int.toNat 0=0:=rfl
 by_cases hup:(S.st h).up<0
 ·have e:b2f S h=S:=by simp [b2f,hup]
  rw [e]
  refine ⟨av,_, ?_,hM',Fr.more _ _ _ _⟩
  rw [b0a T45,b0g rfl rfl]
  simp only [b0o,b1s] at hgh ⊢
  simp -implicitDefEqProofs (disch:=omega) only [Rx,simprocAttr,F45,k2,len1,hgh,hup,hbx]
 obtain ⟨u,hu,hu1,hu2,hu3⟩:=hS.up_nat hh (by omega)
 have hK:=hM'.kids u hu1
 have hkl:=hS.kids_len hu1
 have k1:(u:Int)<(S.N:Int):=by omega
 have hgu:(b0z S.N S.st av).getD u []=b1s (S.st u) (av u):=b1w hu1
 have hcl:=fun A B=>d2t hK (by omega) A B (n+2)
 have hb2:=h2f (o:=.pcells 1 [[.int .i64 h]]) (hM.kids u hu1)
 have hXl:=c1s (rest++[AObj.pcells 1 [[.int .i64 h]]]) (av u)
 simp only [List.length_append,List.length_cons,List.length_nil,Nat.zero_add] at hcl hXl
 have hfix:=Go.TA.Tryz.MOk.fixed hM' hu1 ((S.kd u).filter (notH h)) [.dead]
 have hfr:=(Fr.more S.N av rest [.pcells 1 [[.int .i64 h]]]).trans (Go.TA.Tryz.Fr.fixed hu1 (b0j ((S.kd u).filter (notH h))) [.dead])
 generalize hX:killed (rest++[AObj.pcells 1 [[.int .i64 h]]]) (av u)=X at hcl hb2 hXl hfix hfr
 have hdel:∀ A B,b0f T (n+3) 75 [.own true (rest.length+1+1+1) (S.kd u).length,.func 77 [.ptr true (rest.length+1+1) 1 1 0 0]] (A::B::(X++[.pcells 1 (b0j (S.kd u))]))=some (.p (.list (b0j ((S.kd u).filter (notH h)))),A::B::(X++[.dead])):=by
  intro A B
  have h1:(A::B::(X++[.pcells 1 (b0j (S.kd u))]))[rest.length+1+1+1]? = some (.pcells 1 (b0j (S.kd u))):=by
   simp only [List.getElem?_cons_succ]
   rw [← hXl];simp
  have h2:(A::B::(X++[.pcells 1 (b0j (S.kd u))]))[rest.length+1+1]? = some (.pcells 1 [[.int .i64 h]]):=by
   simp only [List.getElem?_cons_succ]
   rw [List.getElem?_append_left (by omega)];exact hb2
  have:=h8a (S.kd u) _ h1 h2 (by omega) (by omega) (n:=n) (by omega)
  rw [this]
  have e2:(X++[AObj.pcells 1 (b0j (S.kd u))]).set (rest.length+1) .dead=X++[.dead]:=by rw [← hXl];simp [List.set_append]
  simp only [List.set_cons_succ,e2]
 have hb3:(X++[AObj.dead])[rest.length]? = some (.pcells 1 [[.int .i64 h]]):=by rw [List.getElem?_append_left (by omega)];exact hb2
 have htk:b2f S h=⟨S.N,upd S.st h { S.st h with up := -1 },upd S.kd u ((S.kd u).filter (notH h))⟩:=by
  unfold b2f
  rw [if_neg hup,hu,Int.toNat_natCast]
  rfl
 rw [htk]
 refine ⟨upd av u (.p (.list (b0j ((S.kd u).filter (notH h))))),X++[.dead], ?_,hfix,hfr⟩
 generalize (S.kd u).filter (notH (h:Int))=ks' at hdel
 have hset1:(b0z S.N S.st av).set u [.p (.bool (S.st u).live),.p (.int .i64 (S.st u).up),.p (.list (b0j ks')),.p (.str (S.st u).tag),.p (.str (S.st u).key),.p (.str (S.st u).text),.p (.list ((S.st u).attrs.map Attr.pv))]=b0z S.N S.st (upd av u (.p (.list (b0j ks')))):=by
  have:=b6o (N:=S.N) (st:=S.st) (av:=av) hu1 (S.st u) (.p (.list (b0j ks')))
  simp only [b1s] at this
  rw [this]
  refine b3w fun k hk=>⟨?_,rfl⟩
  by_cases e:k=u
  ·subst e;rw [b0l]
  ·rw [b0k e]
 have hgh2:(b0z S.N S.st (upd av u (.p (.list (b0j ks'))))).getD h []=b1s (S.st h) (upd av u (.p (.list (b0j ks'))) h):=b1w hh
 generalize hah:upd av u (.p (.list (b0j ks'))) h=ah at hgh2
 have hset2:(b0z S.N S.st (upd av u (.p (.list (b0j ks'))))).set h [.p (.bool (S.st h).live),.p (.int .i64 (-1)),ah,.p (.str (S.st h).tag),.p (.str (S.st h).key),.p (.str (S.st h).text),.p (.list ((S.st h).attrs.map Attr.pv))]=b0z S.N (upd S.st h { S.st h with up := -1 }) (upd av u (.p (.list (b0j ks')))):=by
  have:=b6o (N:=S.N) (st:=S.st) (av:=upd av u (.p (.list (b0j ks')))) hh { S.st h with up := -1 } ah
  simp only [b1s] at this
  rw [this]
  refine b3w fun k hk=>⟨rfl, ?_⟩
  by_cases e:k=h
  ·subst e;rw [b0l,hah]
  ·rw [b0k e]
 have k0:¬ (u:Int)<0:=by omega
 rw [b0a T45,b0g rfl rfl]
 simp only [b1s,hu] at hgh hgu hgh2
 rcases hK.inv with ⟨hav,hk0⟩ | ⟨r,hav,hr⟩ | hav
 all_goals
  rw [hav] at hcl hgu
  simp only [b0o]
  simp -implicitDefEqProofs (disch:=omega) only [Rx,simprocAttr,F45,k0,k1,k2,len1,hgh,hgu,hgh2,hset1,hset2,hcl,hdel,hbx,hb3]
end Go.TA.Tryz


end
section
/- A node ends, and all below it. -/
namespace Go.TA.Tryz
open Classical in
noncomputable def stD (S:MS) (D:Nat→Prop) (y:Nat):b3p:=if D y then d1a else S.st y
open Classical in
noncomputable def avD (av:Nat→AV) (D:Nat→Prop) (y:Nat):AV:=if D y then .nils else av y
def DK (S:MS) (D:Nat→Prop) (h i:Nat) (y:Nat):Prop:=D y∨∃ j,j<i∧∃ k,(S.kd h)[j]? = some k∧Below S k (y:Int)
theorem j2m (S:MS) (D:Nat→Prop) (h:Nat):DK S D h 0=D:=by
 funext y
 simp [DK]
theorem j2n {S : MS} {D : Nat → Prop} {h i : Nat} {k : Int} (hk : (S.kd h)[i]? = some k) : DK S D h (i + 1) = fun y => DK S D h i y ∨ Below S k (y : Int) := by
  funext y
  simp only [DK,eq_iff_iff]
  constructor
  · rintro (h1 | ⟨j,h1,k',h2,h3⟩)
    · exact .inl (.inl h1)
    · by_cases e:j=i
      · subst e
        rw [hk] at h2
        simp only [Option.some.injEq] at h2
        subst h2
        exact .inr h3
      · exact .inl (.inr ⟨j,by omega,k',h2,h3⟩)
  · rintro ((h1 | ⟨j,h1,h2⟩) | h1)
    · exact .inl h1
    · exact .inr ⟨j,by omega,h2⟩
    · exact .inr ⟨i,by omega,k,hk,h1⟩
theorem g4f {R : Nat} {S : MS} (hS : S.Ok R) (hN : S.N ≤ 4194304) (av : Nat → AV) (rest : List AObj) (hM : MOk S.N av S.kd rest) (n : Nat) (hn : S.N < n) (h : Nat) (D : Nat → Prop) (hh : h < S.N) (hD : ∀ y : Nat, y < S.N → Below S (h : Int) (y : Int) → ¬ D y)
    (ih:∀ (c:Nat),c<S.N→(S.st c).up=(h:Int)→∀ (D:Nat→Prop),(∀ y:Nat,y<S.N→Below S (c:Int) (y:Int)→¬ D y) →
      b0f T n 46 [MP,.p (.int .i64 c)] (b0o S.N (stD S D) (avD av D) rest)=some (.tuple [],b0o S.N (stD S fun y=>D y∨Below S (c:Int) (y:Int)) (avD av fun y=>D y∨Below S (c:Int) (y:Int)) rest)) :
    b0f T (n+1) 46 [MP,.p (.int .i64 h)] (b0o S.N (stD S D) (avD av D) rest)=some (.tuple [],b0o S.N (stD S fun y=>D y∨Below S (h:Int) (y:Int)) (avD av fun y=>D y∨Below S (h:Int) (y:Int)) rest):=by
  classical
  have hK:=hM.kids h hh
  have hkl:=hS.kids_len hh
  have len1:∀ st av,(b0z S.N st av).length=S.N:=fun _ _=>b1y
  have k1:(h:Int)<(S.N:Int):=by omega
  have hgh:(b0z S.N (stD S D) (avD av D)).getD h []=b1s (S.st h) (av h):=by
    rw [b1w hh]
    have:=hD h hh .here
    simp [stD,avD,this]
  have il:=b0v (S.kd h)
  have hloop:b0t (b0f T n) n (.loop g8v) ⟨[(0,MP),(1,.p (.int .i64 h)),(13,av h),(14,.p (.int .i64 (S.kd h).length)),(15,.p (.int .i64 0))],[],b0o S.N (stD S D) (avD av D) rest⟩=some (.exit 0,⟨[(0,MP),(1,.p (.int .i64 h))],[],b0o S.N (stD S (DK S D h (S.kd h).length)) (avD av (DK S D h (S.kd h).length)) rest⟩):=by
    have key:=b1i (C:=b0f T n) (N:=n) (B:=g8v) (σ := Nat) (S:=fun i=>⟨[(0,MP),(1,.p (.int .i64 h)),(13,av h),(14,.p (.int .i64 (S.kd h).length)),(15,.p (.int .i64 i))],[],b0o S.N (stD S (DK S D h i)) (avD av (DK S D h i)) rest⟩)
      (I:=fun i=>i≤(S.kd h).length) (μ := fun i=>(S.kd h).length - i) (Q:=fun q=>q=(.exit 0,⟨[(0,MP),(1,.p (.int .i64 h))],[],b0o S.N (stD S (DK S D h (S.kd h).length)) (avD av (DK S D h (S.kd h).length)) rest⟩)) ?_ 0 (by omega) (by omega)
    · obtain ⟨q,hq,rfl⟩:=key
      rw [j2m] at hq
      exact hq
    intro i hi
    by_cases hil:i<(S.kd h).length
    · left
      obtain ⟨k,hk⟩:∃ k,(S.kd h)[i]? = some k:=⟨_,List.getElem?_eq_getElem hil⟩
      have hkm:=List.mem_of_getElem? hk
      obtain ⟨c,rfl,hc,_,hcu⟩:=hS.kids h hh k hkm
      have ihc:=ih c hc hcu (DK S D h i) (fun y hy hb hd=>by
        rcases hd with hd | ⟨j,hj,k',hk',hb'⟩
        · exact hD y hy (c0y hS hh hkm hb) hd
        · have:=d2g hS hh hkm (List.mem_of_getElem? hk') hb hb'
          subst this
          have hjl:=(List.getElem?_eq_some_iff.1 hk').1
          have:=(List.getElem?_inj hjl (hS.nodup h hh)).1 (hk'.trans hk.symm)
          omega)
      rw [← j2n hk] at ihc
      have k2:(i:Int)<((S.kd h).length:Int):=by omega
      have hg:=b4e hk
      refine ⟨i+1, ?_,by omega,by omega⟩
      generalize stD S (DK S D h i)=st1 at ihc
      generalize avD av (DK S D h i)=av1 at ihc
      rcases hK.inv with ⟨_,hk0⟩ | ⟨q,hav,hq⟩ | hav
      · rw [hk0] at hil;simp at hil
      · simp only [b0o,hav] at ihc ⊢
        simp -implicitDefEqProofs (disch:=omega) only [Rx,simprocAttr,g8v,k2,hg,il,hq,ihc]
      · simp only [b0o,hav] at ihc ⊢
        simp -implicitDefEqProofs (disch:=omega) only [Rx,simprocAttr,g8v,k2,hg,il,ihc]
    · right
      obtain rfl:i=(S.kd h).length:=by omega
      have k2:¬ ((S.kd h).length:Int)<((S.kd h).length:Int):=by omega
      refine ⟨_, ?_, ?_,rfl⟩
      · rcases hK.inv with ⟨hav,_⟩ | ⟨q,hav,hq⟩ | hav
        all_goals
          simp only [hav]
          simp -implicitDefEqProofs (disch:=omega) only [Rx,simprocAttr,g8v,k2]
      · simp
  have hset:(b0z S.N (stD S (DK S D h (S.kd h).length)) (avD av (DK S D h (S.kd h).length))).set h [.p (.bool false),.p (.int .i64 (-1)),.nils,.p (.str []),.p (.str []),.p (.str []),.p (.list [])]=b0z S.N (stD S fun y=>D y∨Below S (h:Int) (y:Int)) (avD av fun y=>D y∨Below S (h:Int) (y:Int)):=by
    have:=b6o (N:=S.N) (st:=stD S (DK S D h (S.kd h).length)) (av:=avD av (DK S D h (S.kd h).length)) hh d1a .nils
    simp only [b1s,d1a,List.map_nil] at this
    rw [this]
    have hiff:∀ y:Nat,y<S.N→y≠h→(DK S D h (S.kd h).length y↔(D y∨Below S (h:Int) (y:Int))):=fun y hy hne=>by
      constructor
      · rintro (h1 | ⟨j,_,k,hk,hb⟩)
        · exact .inl h1
        · exact .inr (c0y hS hh (List.mem_of_getElem? hk) hb)
      · rintro (h1 | h1)
        · exact .inl h1
        · obtain ⟨k,hk,hb⟩:=h4d hS h1 y rfl hy hne
          obtain ⟨j,hj,hjk⟩:=List.getElem_of_mem hk
          exact .inr ⟨j,hj,k,by rw [List.getElem?_eq_getElem hj,hjk],hb⟩
    refine b3w fun y hy => ?_
    by_cases e:y=h
    · subst e
      have hb:D y∨Below S (y:Int) (y:Int):=.inr .here
      rw [b0l,b0l]
      simp [stD,avD,hb,d1a]
    · rw [b0k e,b0k e]
      have:=hiff y hy e
      by_cases q:D y∨Below S (h:Int) (y:Int)
      · simp only [stD,avD,if_pos q,if_pos (this.2 q),and_self]
      · simp only [stD,avD,if_neg q,if_neg (fun z=>q (this.1 z)),and_self]
  rw [b0a T46,b0g rfl rfl]
  simp only [b1s] at hgh
  generalize stD S (DK S D h (S.kd h).length)=st2 at hloop hset
  generalize avD av (DK S D h (S.kd h).length)=av2 at hloop hset
  have hg2:(b0z S.N st2 av2).getD h []=b1s (st2 h) (av2 h):=b1w hh
  simp only [b1s] at hg2
  rcases hK.inv with ⟨hav,hk0⟩ | ⟨q,hav,hq⟩ | hav
  · simp only [hk0,List.length_nil,Int.natCast_zero] at hloop
    simp only [b0o,hav] at hloop hgh ⊢
    simp -implicitDefEqProofs (disch:=omega) only [Rx,simprocAttr,F46,k1,len1,hgh,hg2,hloop,hset]
  · simp only [b0o,hav] at hloop hgh ⊢
    simp -implicitDefEqProofs (disch:=omega) only [Rx,simprocAttr,F46,k1,len1,hgh,hg2,hloop,hset]
  · simp only [b0o,hav] at hloop hgh ⊢
    simp -implicitDefEqProofs (disch:=omega) only [Rx,simprocAttr,F46,k1,len1,hgh,hg2,il,hloop,hset]
theorem j1k {R:Nat} {S:MS} (hS:S.Ok R) (hN:S.N≤4194304) (av:Nat→AV) (rest:List AObj) (hM:MOk S.N av S.kd rest) {r:Nat→Nat} (hr1:∀ c,c<S.N→r c≤R) (hr2:∀ c p:Nat,c<S.N→(S.st c).up=(p:Int)→r p<r c) (n:Nat) (hn:S.N<n) :
    ∀ (d h : Nat) (D : Nat → Prop), h < S.N → R ≤ r h + d → (∀ y : Nat, y < S.N → Below S (h : Int) (y : Int) → ¬ D y) →
      b0f T (n+d+1) 46 [MP,.p (.int .i64 h)] (b0o S.N (stD S D) (avD av D) rest)=some (.tuple [],b0o S.N (stD S fun y=>D y∨Below S (h:Int) (y:Int)) (avD av fun y=>D y∨Below S (h:Int) (y:Int)) rest):=by
  intro d
  induction d with
  | zero =>
    intro h D hh hR hD
    exact g4f hS hN av rest hM n hn h D hh hD (fun c hc hcu=>by
      have:=hr1 c hc
      have:=hr2 c h hc hcu
      omega)
  | succ d ih =>
    intro h D hh hR hD
    exact g4f hS hN av rest hM (n+d+1) (by omega) h D hh hD (fun c hc hcu D hD=>by
      have:=hr2 c h hc hcu
      exact ih c D hc (by omega) hD)
theorem j1i {R : Nat} {S : MS} (hS : S.Ok R) (hN : S.N ≤ 4194304) (av : Nat → AV) (rest : List AObj) (hM : MOk S.N av S.kd rest) (h : Nat) (hh : h < S.N) {n : Nat} (hn : S.N < n) :
    ∃ av',b0f T (n+R+1) 46 [MP,.p (.int .i64 h)] (b0o S.N S.st av rest)=some (.tuple [],b0o S.N (endM S (h:Int)).st av' rest)∧MOk S.N av' (endM S (h:Int)).kd rest∧Fr S.N av rest S.N av' rest:=by
  classical
  obtain ⟨r,hr1,hr2⟩:=hS.rank
  have key:=j1k hS hN av rest hM hr1 hr2 n hn R h (fun _=>False) hh (by omega) (fun y _ _ h=>h)
  have e1:stD S (fun _=>False)=S.st:=by funext y;simp [stD]
  have e2:avD av (fun _=>False)=av:=by funext y;simp [avD]
  have e3:(stD S fun y=>False∨Below S (h:Int) (y:Int))=(endM S (h:Int)).st:=by funext y;simp [stD,endM]
  rw [e1,e2,e3] at key
  refine ⟨_,key,⟨fun y hy => ?_,fun y y' hy hy' hne => ?_⟩,⟨Nat.le_refl _,fun _ _ _=>rfl,fun y hy j hj _ => ?_⟩⟩
  rotate_left 2
  · by_cases e:Below S (h:Int) (y:Int)
    · simp only [avD,e,or_true,if_true] at hj;cases hj
    · simp only [avD,e,or_false,if_false] at hj;exact ⟨y,hy,hj⟩
  · by_cases e:Below S (h:Int) (y:Int)
    · simp only [avD,endM,e,or_true,if_true];exact .none
    · simp only [avD,endM,e,or_false,if_false];exact hM.kids y hy
  · by_cases e:Below S (h:Int) (y:Int)
    · left;simp only [avD,e,or_true,if_true];rfl
    · by_cases e':Below S (h:Int) (y':Int)
      · simp only [avD,e,e',or_false,or_true,if_false,if_true]
        cases hq:b1z (av y) with
        | none=>exact .inl rfl
        | some q=>exact .inr (by simp [b1z])
      · simp only [avD,e,e',or_false,if_false]
        exact hM.disj y y' hy hy' hne
end Go.TA.Tryz


end
section
/- attrs.With, attrs.Without. -/
namespace Go.TA.Tryz
def toAt (l:List Attr) (name:Bs) (i:Nat):Int:=if posAt l name<i then (posAt l name:Int) else (l.length:Int)
theorem h7l (l : List Attr) (name : Bs) (hl : l.length ≤ 1048577) (g : List AObj) {n : Nat} (hn : l.length < n) :
    b0f T (n+1) 108 [.p (.list (l.map Attr.pv)),.p (.str name)] g=some (.tuple [.p (.int .i64 (if fstAt l name<l.length then (fstAt l name:Int) else (posAt l name:Int))),.p (.bool (decide (fstAt l name<l.length)))],g):=by
  have hpl:posAt l name≤l.length:=List.findIdx_le_length
  have key:=b1i (C:=b0f T n) (N:=n) (B:=d0s) (σ := Nat) (S:=fun i=>⟨[(0,.p (.list (l.map Attr.pv))),(1,.p (.str name)),(6,.p (.int .i64 (toAt l name i))),(11,.p (.list (l.map Attr.pv))),(12,.p (.int .i64 l.length)),(13,.p (.int .i64 i))],[],[]⟩)
    (I:=fun i=>i≤l.length∧i≤fstAt l name) (μ := fun i=>l.length - i) (Q:=fun q=>q=if fstAt l name<l.length then (.ret,⟨[(4,.p (.int .i64 (fstAt l name))),(5,.p (.bool true))],[],[]⟩) else (.exit 0,⟨[(6,.p (.int .i64 (posAt l name)))],[],[]⟩)) ?_ 0 ⟨by omega,by omega⟩ (by omega)
  · obtain ⟨q,hq,rfl⟩:=key
    have e0:toAt l name 0=(l.length:Int):=by simp [toAt]
    simp only [Int.natCast_zero,e0] at hq
    rw [b0a T108,run_pure rfl rfl rfl]
    by_cases hc:fstAt l name<l.length
    · rw [if_pos hc] at hq
      rw [if_pos hc]
      have ed:decide (fstAt l name<l.length)=true:=by simpa using hc
      simp -implicitDefEqProofs (disch:=omega) only [Rx,simprocAttr,F108,hq,ed]
    · rw [if_neg hc] at hq
      rw [if_neg hc]
      have ed:decide (fstAt l name<l.length)=false:=by simpa using hc
      simp -implicitDefEqProofs (disch:=omega) only [Rx,simprocAttr,F108,hq,ed]
  rintro i ⟨h1,h2⟩
  by_cases hi:i<l.length
  · have k1 : (i : Int) < (l.length : Int) := by omega
    have hx:=List.getElem?_eq_getElem hi
    have hg:=b0s (f:=Attr.pv) hx
    generalize hxa:l[i]=a at hx hg
    by_cases e:i=fstAt l name
    · right
      have hp:(a.name==name)=true:=by
        have:=List.findIdx_getElem (xs:=l) (p:=fun a=>a.name==name) (w:=by unfold fstAt at e;omega)
        simp only [fstAt] at e
        subst e;rw [hxa] at this;exact this
      refine ⟨_, ?_, ?_,rfl⟩
      · rw [if_pos (by omega), ← e]
        simp -implicitDefEqProofs (disch:=omega) only [Rx,simprocAttr,d0s,k1,hg,Attr.pv,hp]
      · rw [if_pos (by omega)];simp
    · left
      have hp:(a.name==name)=false:=by
        have:=List.not_of_lt_findIdx (xs:=l) (p:=fun a=>a.name==name) (i:=i) (by unfold fstAt at e h2;omega)
        rw [hxa] at this
        simpa using this
      refine ⟨i+1, ?_,⟨by omega,by omega⟩,by omega⟩
      by_cases hlt:posAt l name<i
      · have e1:toAt l name i=(posAt l name:Int):=by simp [toAt,hlt]
        have e2:toAt l name (i+1)=(posAt l name:Int):=by rw [toAt,if_pos (by omega)]
        have k2:(posAt l name:Int)<(l.length:Int):=by omega
        rw [e1,e2]
        simp -implicitDefEqProofs (disch:=omega) only [Rx,simprocAttr,d0s,k1,k2,hg,Attr.pv,hp]
      · have e1:toAt l name i=(l.length:Int):=by simp [toAt,hlt]
        have k2:¬ (l.length:Int)<(l.length:Int):=by omega
        cases hs:b3f a.name name with
        | true =>
          have hne:posAt l name≠i:=fun e=>by
            have:=List.findIdx_getElem (xs:=l) (p:=fun a => !(b3f a.name name)) (w:=by unfold posAt at e;omega)
            simp only [posAt] at e
            subst e;rw [hxa,hs] at this;simp at this
          have e2:toAt l name (i+1)=(l.length:Int):=by rw [toAt,if_neg (by omega)]
          rw [e1,e2]
          simp -implicitDefEqProofs (disch:=omega) only [Rx,simprocAttr,d0s,k1,k2,hg,Attr.pv,hp,hs,binS]
        | false =>
          have hpi:posAt l name=i:=by
            have h3:¬ i<posAt l name:=fun h=>by
              have:=List.not_of_lt_findIdx (xs:=l) (p:=fun a:Attr => !(b3f a.name name)) (i:=i) (by unfold posAt at h;exact h)
              rw [hxa,hs] at this
              simp at this
            omega
          have e2:toAt l name (i+1)=(i:Int):=by rw [toAt,if_pos (by omega),hpi]
          rw [e1,e2]
          simp -implicitDefEqProofs (disch:=omega) only [Rx,simprocAttr,d0s,k1,k2,hg,Attr.pv,hp,hs,binS]
  · right
    obtain rfl:i=l.length:=by omega
    have k1:¬ (l.length:Int)<(l.length:Int):=by omega
    have e1:toAt l name l.length=(posAt l name:Int):=by
      unfold toAt
      split
      · rfl
      · omega
    refine ⟨_, ?_, ?_,rfl⟩
    · rw [if_neg (by omega),e1]
      simp -implicitDefEqProofs (disch:=omega) only [Rx,simprocAttr,d0s,k1]
    · rw [if_neg (by omega)];simp
theorem g1i (l:List Attr) (at':Nat) (a:Attr) (hat:at'≤l.length) (hl:l.length≤1048577) (n:Nat):b0f T (n+1) 109 [.own true 0 l.length,.p (.int .i64 at'),.p (.list [a.pv])] [.pcells 2 (l.map Attr.pv)]=some (.p (.list ((l.take at'++a::l.drop at').map Attr.pv)),[.dead]):=by
 rw [b5t T109]
 have h5:(l.length+1)*4096≤140737488355328:=by omega
 have h6:(at':Int)≤(l.length:Int):=by omega
 have h7:(a.pv.length==2)=true:=rfl
 simp [b8m,h7,h5,h6,List.map_take,List.map_drop]
theorem h5g (l:List Attr) (name v:Bs) (hl:l.length≤1048577) (g:List AObj) {n:Nat} (hn:l.length<n) :
  b0f T (n+2) 78 [.p (.list (l.map Attr.pv)),.p (.str name),.p (.str v)] g=some (.p (.list ((c0g l name v).map Attr.pv)),g):=by
 have hf:=h7l l name hl [] hn
 have hcl:=b5q l hl [] n
 have hpl:posAt l name≤l.length:=List.findIdx_le_length
 have hin:=g1i l (posAt l name) ⟨name,v⟩ hpl hl n
 rw [b0a T78,run_pure rfl rfl rfl]
 have ml:(l.map Attr.pv).length=l.length:=by simp
 simp only [List.length_nil,List.nil_append] at hcl
 by_cases hc:fstAt l name<l.length
 ·have ed:decide (fstAt l name<l.length)=true:=by simpa using hc
  rw [if_pos hc,ed] at hf
  have ew:(c0g l name v).map Attr.pv=(l.map Attr.pv).set (fstAt l name) [.str name,.str v]:=by rw [c0g,if_pos hc,List.map_set];rfl
  rw [ew]
  have hx:=List.getElem?_eq_getElem hc
  have hp:(l[fstAt l name]).name=name:=by
   have h9:((l[fstAt l name]).name==name)=true:=List.findIdx_getElem (xs:=l) (p:=fun a:Attr=>a.name==name) (w:=by unfold fstAt at hc;exact hc)
   exact beq_iff_eq.1 h9
  have hg:=b0s (f:=Attr.pv) hx
  simp only [Attr.pv,hp] at hg
  have k2:(fstAt l name:Int)<(l.length:Int):=by omega
  generalize fstAt l name=i at *
  have sl:((l.map Attr.pv).set i [.str name,.str v]).length=l.length:=by simp
  simp -implicitDefEqProofs (disch:=omega) only [Rx,simprocAttr,F78,hf,hcl,hg,k2,ml,sl]
 ·have ed:decide (fstAt l name<l.length)=false:=by simpa using hc
  rw [if_neg hc,ed] at hf
  have ew:c0g l name v=l.take (posAt l name)++⟨name,v⟩::l.drop (posAt l name):=by rw [c0g,if_neg hc]
  rw [ew]
  generalize l.take (posAt l name)++(⟨name,v⟩:Attr)::l.drop (posAt l name)=l' at hin
  simp only [Attr.pv] at hin
  simp -implicitDefEqProofs (disch:=omega) only [Rx,simprocAttr,F78,hf,hcl,hin]
end Go.TA.Tryz


end
section
/- slices.DeleteFunc on a row of attributes that was cloned; attrs.Without. -/
namespace Go.TA.Tryz
theorem c5e (l:List Attr):(l.map Attr.pv).length=l.length:=by simp
section
variable {h:Bs} {kb k:Nat}
theorem g4n (x:Attr) (g:List AObj) (hkb:g[kb]? = some (.pcells 1 [[.str h]])) (n:Nat):b0f T (n+1) 111 [.p (.agg x.pv),.ptr true kb 1 1 0 0] g=some (.p (.bool (x.name==h)),g):=by
 rw [b0a T111,b0g rfl rfl]
 have e0:Int.toNat 0=0:=rfl
 simp -implicitDefEqProofs (disch:=omega) only [Rx,simprocAttr,F111,Attr.pv,hkb]
theorem h2u (ks : List Attr) (g : List AObj) (hk : g[k]? = some (.pcells 2 (ks.map Attr.pv))) (hkb : g[kb]? = some (.pcells 1 [[.str h]])) (hl : ks.length ≤ 1048577) {n : Nat} (hn : ks.length + 1 < n) :
    b0f T (n+2) 127 [.own true k ks.length,.func 111 [.ptr true kb 1 1 0 0]] g=some (.p (.int .i64 (if ks.findIdx (fun a=>a.name==h)<ks.length then (ks.findIdx (fun a=>a.name==h):Int) else -1)),g):=by
  have il:=c5e ks
  have key:=b1i (C:=b0f T (n+1)) (N:=n+1) (B:=d9i) (σ := Nat) (S:=fun i=>⟨[(0,.own true k ks.length),(1,.func 111 [.ptr true kb 1 1 0 0]),(7,.p (.int .i64 ks.length)),(8,.p (.int .i64 i))],[],g⟩)
    (I:=fun i=>i≤ks.length∧i≤ks.findIdx (fun a=>a.name==h)) (μ := fun i=>ks.length - i) (Q:=fun q=>q=if ks.findIdx (fun a=>a.name==h)<ks.length then (.ret,⟨[(4,.p (.int .i64 (ks.findIdx (fun a=>a.name==h))))],[],g⟩) else (.exit 0,⟨[],[],g⟩)) ?_ 0 ⟨by omega,by omega⟩ (by omega)
  · obtain ⟨q,hq,rfl⟩:=key
    simp only [Int.natCast_zero] at hq
    rw [b0a T127,b0g rfl rfl]
    by_cases hc:ks.findIdx (fun a=>a.name==h)<ks.length
    · rw [if_pos hc] at hq
      rw [if_pos hc]
      simp -implicitDefEqProofs (disch:=omega) only [Rx,simprocAttr,F127,hq]
    · rw [if_neg hc] at hq
      rw [if_neg hc]
      simp -implicitDefEqProofs (disch:=omega) only [Rx,simprocAttr,F127,hq]
  rintro i ⟨h1,h2⟩
  by_cases hi:i<ks.length
  · have k1:(i:Int)<(ks.length:Int):=by omega
    have hg:=b0s (f:=Attr.pv) (List.getElem?_eq_getElem hi)
    have hc:=g4n (h:=h) ks[i] g hkb n
    simp only [Attr.pv] at hg hc
    by_cases e:i=ks.findIdx (fun a=>a.name==h)
    · right
      have hp:((ks[i]).name==h)=true:=by
        have:=List.findIdx_getElem (xs:=ks) (p:=(fun a=>a.name==h)) (w:=by omega)
        subst e;exact this
      rw [hp] at hc
      refine ⟨_, ?_, ?_,rfl⟩
      · rw [if_pos (by omega), ← e]
        simp -implicitDefEqProofs (disch:=omega) only [Rx,simprocAttr,d9i,k1,hg,hk,hc,il]
      · rw [if_pos (by omega)];simp
    · left
      have hp:((ks[i]).name==h)=false:=by
        have:=List.not_of_lt_findIdx (xs:=ks) (p:=(fun a=>a.name==h)) (i:=i) (by omega)
        simpa using this
      rw [hp] at hc
      refine ⟨i+1, ?_,⟨by omega,by omega⟩,by omega⟩
      simp -implicitDefEqProofs (disch:=omega) only [Rx,simprocAttr,d9i,k1,hg,hk,hc,il]
  · right
    obtain rfl:i=ks.length:=by omega
    have k1:¬ (ks.length:Int)<(ks.length:Int):=by omega
    refine ⟨_, ?_, ?_,rfl⟩
    · rw [if_neg (by omega)]
      simp -implicitDefEqProofs (disch:=omega) only [Rx,simprocAttr,d9i,k1]
    · rw [if_neg (by omega)];simp
theorem h3o (ks:List Attr) (g:List AObj) (hk:k<g.length) (hkb:g[kb]? = some (.pcells 1 [[.str h]])) (hne:k≠kb) (hl:ks.length≤1048577) (n N:Nat) (hN:ks.length<N) (j0 i0:Nat) (h0:b8i (notN h) ks j0 i0 ks) (hj0:j0≤ks.length) :
    ∃ cur i,b0t (b0f T (n+1)) N (.loop b6y) ⟨[(0,.own true k ks.length),(1,.func 111 [.ptr true kb 1 1 0 0]),(5,.p (.int .i64 i0)),(6,.p (.int .i64 j0))],[],g.set k (.pcells 2 (ks.map Attr.pv))⟩=some (.exit 0,⟨[(0,.own true k ks.length),(5,.p (.int .i64 (i:Nat)))],[],g.set k (.pcells 2 (cur.map Attr.pv))⟩)∧b8i (notN h) ks ks.length i cur:=by
  have key:=b1i (C:=b0f T (n+1)) (N:=N) (B:=b6y) (σ := Nat × Nat × List Attr) (S:=fun s=>⟨[(0,.own true k ks.length),(1,.func 111 [.ptr true kb 1 1 0 0]),(5,.p (.int .i64 s.1)),(6,.p (.int .i64 s.2.1))],[],g.set k (.pcells 2 (s.2.2.map Attr.pv))⟩)
    (I:=fun s=>s.2.1≤ks.length∧b8i (notN h) ks s.2.1 s.1 s.2.2) (μ := fun s=>ks.length - s.2.1) (Q:=fun q=>∃ cur i,q=(.exit 0,⟨[(0,.own true k ks.length),(5,.p (.int .i64 (i:Nat)))],[],g.set k (.pcells 2 (cur.map Attr.pv))⟩)∧b8i (notN h) ks ks.length i cur) ?_ (i0,j0,ks) ⟨hj0,h0⟩ (by simp only;omega)
  · obtain ⟨q,hq,cur,i,rfl,hg⟩:=key
    exact ⟨cur,i,hq,hg⟩
  rintro ⟨i,j,cur⟩ ⟨h1,h2⟩
  simp only at h1 h2 ⊢
  have hgk:(g.set k (.pcells 2 (cur.map Attr.pv)))[k]? = some (.pcells 2 (cur.map Attr.pv)):=by rw [List.getElem?_set,if_pos rfl,if_pos hk]
  have hgb:(g.set k (.pcells 2 (cur.map Attr.pv)))[kb]? = some (.pcells 1 [[.str h]]):=by rw [List.getElem?_set,if_neg hne];exact hkb
  have hss:∀ o o':AObj,(g.set k o).set k o'=g.set k o':=fun o o'=>by simp
  have il:=c5e cur
  rw [h2.len] at il
  have hlt:=h2.lt
  by_cases hj:j<ks.length
  · left
    obtain ⟨x,hx⟩:∃ x,ks[j]? = some x:=⟨_,List.getElem?_eq_getElem hj⟩
    have k1:(j:Int)<(ks.length:Int):=by omega
    have k2:(i:Int)<(ks.length:Int):=by omega
    have hg:=b0s (f:=Attr.pv) (h2.at.trans hx)
    have hc:=g4n (h:=h) x (g.set k (.pcells 2 (cur.map Attr.pv))) hgb n
    simp only [Attr.pv] at hg hc
    cases hp:(x.name==h) with
    | true =>
      rw [hp] at hc
      refine ⟨(i,j+1,cur), ?_,⟨by simp only;omega,h2.skip hx (by simp [notN,hp])⟩,by simp only;omega⟩
      simp -implicitDefEqProofs (disch:=omega) only [Rx,simprocAttr,b6y,k1,hg,hgk,hc,il]
    | false =>
      rw [hp] at hc
      have hset:(cur.map Attr.pv).set i [.str x.name,.str x.value]=(cur.set i x).map Attr.pv:=by simp [List.map_set,Attr.pv]
      have hgi:=b0s (f:=Attr.pv) (List.getElem?_eq_getElem (show i<cur.length by rw [h2.len];omega))
      simp only [Attr.pv] at hgi
      refine ⟨(i+1,j+1,cur.set i x), ?_,⟨by simp only;omega,h2.take hx (by simp [notN,hp])⟩,by simp only;omega⟩
      simp -implicitDefEqProofs (disch:=omega) only [Rx,simprocAttr,b6y,k1,k2,hg,hgi,hgk,hc,il,hset,hss]
  · right
    obtain rfl:j=ks.length:=by omega
    have k1:¬ (ks.length:Int)<(ks.length:Int):=by omega
    refine ⟨_, ?_, ?_,cur,i,rfl,h2⟩
    · simp -implicitDefEqProofs (disch:=omega) only [Rx,simprocAttr,b6y,k1]
    · simp
theorem h8c (ks : List Attr) (g : List AObj) (hk : g[k]? = some (.pcells 2 (ks.map Attr.pv))) (hkb : g[kb]? = some (.pcells 1 [[.str h]])) (hne : k ≠ kb) (hl : ks.length ≤ 1048577) {n : Nat} (hn : ks.length + 1 < n) :
    b0f T (n+3) 110 [.own true k ks.length,.func 111 [.ptr true kb 1 1 0 0]] g=some (.p (.list ((ks.filter (notN h)).map Attr.pv)),g.set k .dead):=by
  rw [b5t T110]
  have hf:=h2u ks g hk hkb hl hn
  have il:=c5e ks
  have hkl:k<g.length:=(List.getElem?_eq_some_iff.1 hk).1
  unfold b8n
  simp only
  by_cases hc:ks.findIdx (fun a=>a.name==h)<ks.length
  · rw [if_pos hc] at hf
    generalize hi:ks.findIdx (fun a=>a.name==h)=i0 at hc hf
    have hpre:∀ m,m<i0→∀ x,ks[m]? = some x→notN h x=true:=fun m hm x hx=>by
      have hml:m<ks.length:=(List.getElem?_eq_some_iff.1 hx).1
      have:=List.not_of_lt_findIdx (xs:=ks) (p:=(fun a=>a.name==h)) (i:=m) (by omega)
      rw [(List.getElem?_eq_some_iff.1 hx).2] at this
      simpa [notN] using this
    obtain ⟨a,hat,hah⟩:∃ a,ks[i0]? = some a∧(a.name==h)=true:=by
      have h9:=List.findIdx_getElem (xs:=ks) (p:=(fun a=>a.name==h)) (w:=by omega)
      subst hi
      exact ⟨_,List.getElem?_eq_getElem hc,h9⟩
    have hgo:b8i (notN h) ks (i0+1) i0 ks:=by
      have h1:b8i (notN h) ks i0 i0 ks:=by
        refine ⟨rfl,Nat.le_refl _, ?_,rfl⟩
        rw [b9r]
        intro x hx
        obtain ⟨m,hm,rfl⟩:=List.getElem_of_mem hx
        rw [List.length_take] at hm
        refine hpre m (by omega) _ ?_
        rw [List.getElem_take,List.getElem?_eq_getElem]
      exact h1.skip hat (by simp [notN,hah])
    obtain ⟨cur,i,hloop,hend⟩:=h3o (h:=h) (kb:=kb) ks g hkl hkb hne hl (n+1) (ks.length+2) (by omega) (i0+1) i0 hgo (by omega)
    have hself:g.set k (.pcells 2 (ks.map Attr.pv))=g:=by
      apply List.ext_getElem?
      intro m
      rw [List.getElem?_set]
      by_cases e:k=m
      · subst e;rw [if_pos rfl,if_pos hkl,hk]
      · rw [if_neg e]
    rw [hself] at hloop
    have e1:((i0:Int) == -1)=false:=by simp
    have hilt:=hend.il (Nat.le_refl _)
    have hihave:=hend.have'
    rw [List.take_length] at hilt hihave
    have hlt2:i<ks.length:=by
      rw [hilt]
      exact List.length_filter_lt_length_iff_exists.2 ⟨a,List.mem_of_getElem? hat,by simp [notN,hah]⟩
    have hrun:b0t (b0f T (n+2)) (ks.length+2) (b8q 127 b6y) (b4b [.own true k ks.length,.func 111 [.ptr true kb 1 1 0 0]] g)=some (.normal,⟨[(0,.own true k ks.length),(5,.p (.int .i64 (i:Nat)))],[],g.set k (.pcells 2 (cur.map Attr.pv))⟩):=by
      simp only [Int.natCast_add,Int.natCast_one] at hloop
      simp -implicitDefEqProofs (disch:=omega) only [Rx,simprocAttr,b8q,hf,hloop,e1]
    rw [hrun]
    have hgk:(g.set k (.pcells 2 (cur.map Attr.pv)))[k]? = some (.pcells 2 (cur.map Attr.pv)):=by rw [List.getElem?_set,if_pos rfl,if_pos hkl]
    have il2:(cur.map Attr.pv).length=ks.length:=by rw [c5e,hend.len]
    have hi2:(i:Int)<(ks.length:Int):=by omega
    have ht:(cur.map Attr.pv).take i=(ks.filter (notN h)).map Attr.pv:=by rw [← hihave];simp [List.map_take]
    simp [Option.bind_some,c7b,St.get,lk,c4c,hgk,il2,hi2,ht]
  · rw [if_neg hc] at hf
    have hall:ks.filter (notN h)=ks:=b9r fun x hx=>by
      have h1:¬ ks.findIdx (fun a=>a.name==h)<ks.length:=hc
      rw [List.findIdx_lt_length] at h1
      cases hq:(x.name==h) with
      | false=>simp [notN,hq]
      | true=>exact absurd ⟨x,hx,hq⟩ h1
    have hrun:b0t (b0f T (n+2)) (ks.length+2) (b8q 127 b6y) (b4b [.own true k ks.length,.func 111 [.ptr true kb 1 1 0 0]] g)=some (.ret,⟨[(4,.own true k ks.length)],[],g⟩):=by
      simp -implicitDefEqProofs (disch:=omega) only [Rx,simprocAttr,b8q,hf]
    rw [hrun,hall]
    simp [c7b,St.get,lk,c4c,hk,il]
end
theorem d9o (l:List Attr) (name:Bs) (hl:l.length≤1048577) (g:List AObj) {n:Nat} (hn:l.length+1<n) :
  b0f T (n+4) 79 [.p (.list (l.map Attr.pv)),.p (.str name)] g=some (.tuple [.p (.list ((b3t l name).map Attr.pv)),.p (.bool (decide ((b3t l name).length<l.length)))],g):=by
 have hcl:=b5q l hl [.pcells 1 [[.str name]]] (n+2)
 have hd:=h8c (h:=name) (kb:=0) (k:=1) l [.pcells 1 [[.str name]],.pcells 2 (l.map Attr.pv)] rfl rfl (by omega) hl hn
 rw [b0a T79,run_pure rfl rfl rfl]
 have wl:((b3t l name).map Attr.pv).length=(b3t l name).length:=by simp
 have ml:(l.map Attr.pv).length=l.length:=by simp
 unfold b3t at wl ⊢
 generalize l.filter (notN name)=l' at hd wl ⊢
 simp only [List.length_singleton,List.cons_append,List.nil_append] at hcl
 by_cases hlt:l'.length<l.length
 ·have hlt':(l'.length:Int)<(l.length:Int):=by omega
  have ed:decide (l'.length<l.length)=true:=by simpa using hlt
  rw [ed]
  simp -implicitDefEqProofs (disch:=omega) only [Rx,simprocAttr,F79,hcl,hd,wl,ml,hlt']
 ·have hlt':¬ (l'.length:Int)<(l.length:Int):=by omega
  have ed:decide (l'.length<l.length)=false:=by simpa using hlt
  rw [ed]
  simp -implicitDefEqProofs (disch:=omega) only [Rx,simprocAttr,F79,hcl,hd,wl,ml,hlt']
end Go.TA.Tryz


end
