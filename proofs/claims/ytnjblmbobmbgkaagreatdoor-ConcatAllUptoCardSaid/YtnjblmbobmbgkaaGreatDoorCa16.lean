/- Part 16 of 16 of a proof; joined from CalPRows, CalEndRun, CalAllM, CalConcatR, CalHeavyG, CalAttrsEq, CalShapesX, CalOpsEq, CalSame31, CalAllLaw, CalConcatAllFin. The law ConcatAll, for every input of bulk at most 1048576: the call returns true, and nothing that was there has changed. -/
import Derived.Test.YtnjblmbobmbgkaaGreatDoorCa1
import Derived.Test.YtnjblmbobmbgkaaGreatDoorCa14
import Derived.Test.YtnjblmbobmbgkaaGreatDoorCa6
import Derived.Test.YtnjblmbobmbgkaaGreatDoorCa15
import Derived.Test.YtnjblmbobmbgkaaGreatDoorCa12
import Derived.Test.YtnjblmbobmbgkaaGreatDoorCa10
import Derived.Test.YtnjblmbobmbgkaaGreatDoorCa7
import Derived.Test.YtnjblmbobmbgkaaGreatDoorCards
import Derived.Test.YtnjblmbobmbgkaaGreatDoorTie
import Derived.WalkKit
import Derived.ProofKit
import Derived.OpenShut
import Derived.JoinedCond
import Derived.Deep.DeepHandedRow
import Derived.Lib.LaidTab
set_option linter.unusedSimpArgs false
set_option linter.unusedVariables false
set_option linter.defProp false
set_option maxRecDepth 100000
set_option maxHeartbeats 8000000
section
/- The rows of the machine of rows. -/
namespace Go.TA.Tryz
def rowS (l:List GRow) (av:Nat→AV) (rest:List AObj) (q h:Nat) (i cur:Nat):St:=⟨[(0,.ptr true 1 1 1 0 0),(1,.own true (q+1+1) cur),(3,.p (.int .i64 h)),(19,av h),(20,.p (.int .i64 (kd0 l l.length h).length)),(21,.p (.int .i64 i))],[],b0o (l.length+1) (st0 l) av (rest.set q (.pcells 6 (b7o l cur)))⟩
theorem h0c {n N : Nat} (l : List GRow) (hl : l.length ≤ 1048576) (hal : ∀ x ∈ l, x.attrs.length ≤ 1048577) (hs : b5x l) (av : Nat → AV) (rest : List AObj) (hM : MOk (l.length + 1) av (kd0 l l.length) rest) (hp : ∀ k, k < l.length + 1 → ∀ ks, av k ≠ .p ks) (q : Nat) (hq : q < rest.length) (hqf : ∀ k, k < l.length + 1 → b1z (av k) ≠ some (q + 1 + 1))
    (h:Nat) (hh:h≤l.length) (hN:l.length<N)
    (ih:∀ cur,h≤cur→cur<b2l l h→b0f T (n+1) 48 [.ptr true 1 1 1 0 0,.own true (q+1+1) (cur+1),.p (.int .i64 ((cur:Int)+1)),.p (.int .i64 ((cur:Int)+1))] (b0o (l.length+1) (st0 l) av (rest.set q (.pcells 6 (b7o l (cur+1)))))=some (.own true (q+1+1) (b2l l (cur+1)),b0o (l.length+1) (st0 l) av (rest.set q (.pcells 6 (b7o l (b2l l (cur+1))))))) :
    b0t (b0f T (n+1)) N (.loop d1d) (rowS l av rest q h (kd0 l h h).length h)=some (.exit 0,⟨[(1,.own true (q+1+1) (b2l l h))],[],b0o (l.length+1) (st0 l) av (rest.set q (.pcells 6 (b7o l (b2l l h))))⟩):=by
  have he:=b4k (l:=l) hh
  have key:=b1i (C:=b0f T (n+1)) (N:=N) (B:=d1d) (σ := Nat) (S:=fun cur=>rowS l av rest q h (kd0 l cur h).length cur)
    (I:=fun cur=>h≤cur∧cur≤b2l l h∧(cur=h∨∃ m,h≤m∧m<cur∧cur=b2l l (m+1)∧upAt l (m+1)=h)) (μ := fun cur=>l.length - cur)
    (Q:=fun r=>r=(.exit 0,⟨[(1,.own true (q+1+1) (b2l l h))],[],b0o (l.length+1) (st0 l) av (rest.set q (.pcells 6 (b7o l (b2l l h))))⟩)) ?_ h ⟨Nat.le_refl _,he.1,.inl rfl⟩ (by omega)
  · obtain ⟨r,hr,rfl⟩:=key
    exact hr
  rintro cur ⟨h1,h2,h3⟩
  have hK:=hM.kids h (by omega)
  by_cases hc:cur<b2l l h
  · left
    obtain ⟨x,hx,hu⟩:=g3q hs h1 hc h3 hh
    obtain ⟨hkid,hnext⟩:=h7e hs hx hu
    have hend:=b4k (l:=l) (h:=cur+1) (by omega)
    have hkl:(kd0 l cur h).length<(kd0 l l.length h).length:=(List.getElem?_eq_some_iff.1 hkid).1
    refine ⟨b2l l (cur+1), ?_,⟨by omega,g4e h1 hc hh,.inr ⟨cur,h1,by omega,rfl, ?_⟩⟩,by omega⟩
    rotate_left
    · have:=h9q hs hx
      omega
    have kb:=j0w (l:=l) cur h
    have hnl:(kd0 l (b2l l (cur+1)) h).length=(kd0 l cur h).length+1:=by rw [hnext,List.length_append];rfl
    have ihc:=ih cur h1 hc
    have hcl:=b5q x.attrs (hal x (List.mem_of_getElem? hx)) [] n
    have hst:st0 l (cur+1)=b5o x:=by simp [st0,hx]
    have hgn:(b0z (l.length+1) (st0 l) av).getD (cur+1) []=b1s (b5o x) (av (cur+1)):=by rw [b1w (by omega),hst]
    have len1:(b0z (l.length+1) (st0 l) av).length=l.length+1:=b1y
    have ol:=d6w (l:=l) (j:=cur) (by omega)
    have ol2:=d6w (l:=l) (j:=cur+1) (by omega)
    have os:=g5v hx
    simp only [GRow.pv,b0b,hu] at os
    have k1:((kd0 l cur h).length:Int)<((kd0 l l.length h).length:Int):=by omega
    have k2:(cur:Int)<(l.length:Int):=by omega
    have k5:((cur:Int)+1).toNat=cur+1:=by omega
    have hgq:(rest.set q (.pcells 6 (b7o l cur)))[q]? = some (.pcells 6 (b7o l cur)):=by rw [List.getElem?_set,if_pos rfl,if_pos hq]
    have hss:∀ o o',(rest.set q o).set q o'=rest.set q o':=fun o o'=>by simp
    simp only [b1s,b5o] at hgn
    rcases hK.inv with ⟨_,h0⟩ | ⟨r,hav,hr⟩ | hav
    · rw [h0] at hkl;simp at hkl
    rotate_left
    · exact absurd hav (hp h (by omega) _)
    · have hrq:r≠q:=fun e=>hqf h (by omega) (by rw [hav,e];rfl)
      have hgr:(rest.set q (.pcells 6 (b7o l cur)))[r]? = some (.pcells 1 (b0j (kd0 l l.length h))):=by rw [List.getElem?_set,if_neg (fun e=>hrq e.symm)];exact hr
      have hgi:=b4e hkid
      have il:=b0v (kd0 l l.length h)
      rcases (hM.kids (cur+1) (by omega)).inv with ⟨hav2,_⟩ | ⟨r2,hav2,_⟩ | hav2
      rotate_left 2
      · exact absurd hav2 (hp (cur+1) (by omega) _)
      all_goals
        simp only [hav2] at hgn
        simp only [rowS,b0o,hav,hnl] at ihc ⊢
        simp -implicitDefEqProofs (disch:=omega) only [Rx,simprocAttr,d1d,k1,k5,hgn,len1,hgq,hgr,hgi,il,hss,hcl,ol,ol2,os,ihc]
  · right
    obtain rfl:cur=b2l l h:=by omega
    have hkl:(kd0 l (b2l l h) h).length=(kd0 l l.length h).length:=by rw [h7d hs hh]
    have k1:¬ ((kd0 l l.length h).length:Int)<((kd0 l l.length h).length:Int):=by omega
    refine ⟨_, ?_, ?_,rfl⟩
    · rcases hK.inv with ⟨hav,_⟩ | ⟨r,hav,_⟩ | hav
      all_goals
        simp only [rowS,hkl,hav]
        simp -implicitDefEqProofs (disch:=omega) only [Rx,simprocAttr,d1d,k1]
    · simp
theorem d6h (l : List GRow) (hl : l.length ≤ 1048576) (hal : ∀ x ∈ l, x.attrs.length ≤ 1048577) (hs : b5x l) (av : Nat → AV) (rest : List AObj) (hM : MOk (l.length + 1) av (kd0 l l.length) rest) (hp : ∀ k, k < l.length + 1 → ∀ ks, av k ≠ .p ks) (q : Nat) (hq : q < rest.length) (hqf : ∀ k, k < l.length + 1 → b1z (av k) ≠ some (q + 1 + 1))
    (n D h:Nat) (hh:h≤l.length)
    (ih:∀ cur,h≤cur→cur<b2l l h→b0f T (n+l.length+D+2) 48 [.ptr true 1 1 1 0 0,.own true (q+1+1) (cur+1),.p (.int .i64 ((cur:Int)+1)),.p (.int .i64 ((cur:Int)+1))] (b0o (l.length+1) (st0 l) av (rest.set q (.pcells 6 (b7o l (cur+1)))))=some (.own true (q+1+1) (b2l l (cur+1)),b0o (l.length+1) (st0 l) av (rest.set q (.pcells 6 (b7o l (b2l l (cur+1))))))) :
    b0f T (n+l.length+D+3) 48 [.ptr true 1 1 1 0 0,.own true (q+1+1) h,.p (.int .i64 h),.p (.int .i64 h)] (b0o (l.length+1) (st0 l) av (rest.set q (.pcells 6 (b7o l h))))=some (.own true (q+1+1) (b2l l h),b0o (l.length+1) (st0 l) av (rest.set q (.pcells 6 (b7o l (b2l l h))))):=by
  have hloop:=h0c (n:=n+l.length+D+1) (N:=n+l.length+D+2) l hl hal hs av rest hM hp q hq hqf h hh (by omega) ih
  have h0:(kd0 l h h).length=0:=by
    have:kd0 l h h=[]:=by
      unfold kd0
      rw [List.map_eq_nil_iff,List.filter_eq_nil_iff]
      intro k hk
      have hk:=List.mem_range.1 hk
      cases hx:l[k]? with
      | none=>simp
      | some x =>
        have:=hs.1 k x (List.getElem?_eq_some_iff.1 hx).1 hx
        simp
        omega
    rw [this];rfl
  rw [h0] at hloop
  have hgn:(b0z (l.length+1) (st0 l) av).getD h []=b1s (st0 l h) (av h):=b1w (by omega)
  have len1:(b0z (l.length+1) (st0 l) av).length=l.length+1:=b1y
  have hK:=hM.kids h (by omega)
  have k2:(h:Int)<(l.length:Int)+1:=by omega
  simp only [b1s] at hgn
  rw [b0a T48,b0g rfl rfl]
  rcases hK.inv with ⟨hav,hk0⟩ | ⟨r,hav,hr⟩ | hav
  · simp only [rowS,b0o,hav,hk0,List.length_nil,Int.natCast_zero] at hloop hgn ⊢
    simp -implicitDefEqProofs (disch:=omega) only [Rx,simprocAttr,F48,k2,hgn,len1,hloop]
  · have hrq:r≠q:=fun e=>hqf h (by omega) (by rw [hav,e];rfl)
    have hgr:(rest.set q (.pcells 6 (b7o l h)))[r]? = some (.pcells 1 (b0j (kd0 l l.length h))):=by rw [List.getElem?_set,if_neg (fun e=>hrq e.symm)];exact hr
    have il:=b0v (kd0 l l.length h)
    simp only [rowS,b0o,hav,Int.natCast_zero] at hloop hgn ⊢
    simp -implicitDefEqProofs (disch:=omega) only [Rx,simprocAttr,F48,k2,hgn,len1,hloop]
  · exact absurd hav (hp h (by omega) _)
theorem h5x (l:List GRow) (hl:l.length≤1048576) (hal:∀ x ∈ l,x.attrs.length≤1048577) (hs:b5x l) (av:Nat→AV) (rest:List AObj) (hM:MOk (l.length+1) av (kd0 l l.length) rest) (hp:∀ k,k<l.length+1→∀ ks,av k ≠ .p ks) (q:Nat) (hq:q<rest.length) (hqf:∀ k,k<l.length+1→b1z (av k)≠some (q+1+1)) :
    ∀ (D n h:Nat),h≤l.length→l.length - h≤D→b0f T (n+l.length+D+3) 48 [.ptr true 1 1 1 0 0,.own true (q+1+1) h,.p (.int .i64 h),.p (.int .i64 h)] (b0o (l.length+1) (st0 l) av (rest.set q (.pcells 6 (b7o l h))))=some (.own true (q+1+1) (b2l l h),b0o (l.length+1) (st0 l) av (rest.set q (.pcells 6 (b7o l (b2l l h))))):=by
  intro D
  induction D with
  | zero =>
    intro n h hh hD
    exact d6h l hl hal hs av rest hM hp q hq hqf n 0 h hh (fun cur h1 h2=>by have:=b4k (l:=l) hh;omega)
  | succ D ih =>
    intro n h hh hD
    exact d6h l hl hal hs av rest hM hp q hq hqf n (D+1) h hh (fun cur h1 h2=>by
      have he:=b4k (l:=l) hh
      have:=ih n (cur+1) (by omega) (by omega)
      simp only [Int.natCast_add,Int.natCast_one] at this
      exact this)
end Go.TA.Tryz


end
section
/- The empty script on rows that are right. -/
namespace Go.TA.Tryz
theorem c3f:∀ (l:List GRow) (i:Nat),(c3g l i).map b4l=l.map b4l
 | [],_=>rfl
 | x::r,i=>by simp only [c3g,List.map_cons,c3f r];rfl
theorem d5i (l:List GRow):b0r (c3g l 0)=b0r l:=by rw [← b4w,c3f,b4w]
theorem h0t (l:List GRow):b7o l l.length=(c3g l 0).map GRow.pv:=by unfold b7o;rw [List.take_of_length_le (by rw [Go.TA.c0x];exact Nat.le_refl _)]
section
variable (l:List GRow) (hl:l.length≤1048576) (hal:∀ x ∈ l,x.attrs.length≤1048577) (hs:b5x l) (av:Nat→AV) (rest:List AObj) (hM:MOk (l.length+1) av (kd0 l l.length) rest) (hp:∀ k,k<l.length+1→∀ ks,av k ≠ .p ks)
include hl hal hs hM hp
theorem h0p (n:Nat):b0f T (n+l.length+l.length+4) 16 [.ptr true 1 1 1 0 0] (b0o (l.length+1) (st0 l) av rest)=some (.own true (rest.length+1+1) l.length,b0o (l.length+1) (st0 l) av (rest++[.pcells 6 (b7o l l.length)])):=by
 have hM':MOk (l.length+1) av (kd0 l l.length) (rest++[.pcells 6 []]):=⟨fun h hh=>(hM.kids h hh).more _,hM.disj⟩
 have hr:=h5x l hl hal hs av (rest++[.pcells 6 []]) hM' hp rest.length (by simp) (fun k hk e=>by
  have:=(hM.kids k hk).ref_lt e
  omega) l.length n 0 (by omega) (by omega)
 have hset:∀ o o':AObj,(rest++[o]).set rest.length o'=rest++[o']:=fun o o'=>by simp [List.set_append]
 simp only [hset,h7p hs,g5u,Int.natCast_zero] at hr
 rw [b0a T16,b0g rfl rfl]
 have len1:(b0z (l.length+1) (st0 l) av).length=l.length+1:=b1y
 have k0:((l.length:Int)+1==0)=false:=by simp;omega
 simp only [b0o] at hr ⊢
 simp -implicitDefEqProofs (disch:=omega) only [Rx,simprocAttr,F16,k0,hr]
end
end Go.TA.Tryz


end
section
/- Any number of scripts, one behind the other. -/
namespace Go.TA
theorem h8i {a b:Attr} (h:a.pv=b.pv):a=b:=by
 obtain ⟨n,v⟩:=a
 obtain ⟨n',v'⟩:=b
 simp only [Attr.pv,List.cons.injEq,PV.str.injEq,and_true] at h
 obtain ⟨rfl,rfl⟩:=h
 rfl
theorem d4g {α β : Type} {f : α → β} (hf:∀ a b,f a=f b→a=b):∀ {l k:List α},l.map f=k.map f→l=k
  | [],[],_=>rfl
  | [],_::_,h=>by simp at h
  | _::_,[],h=>by simp at h
  | a :: l, b :: k, h => by
    simp only [List.map_cons,List.cons.injEq] at h
    rw [hf a b h.1,d4g hf h.2]
theorem j0a {x y:GRow} (h:x.pv=y.pv):x=y:=by
 obtain ⟨i1,u1,a1,a2,a3,a4⟩:=x
 obtain ⟨i2,u2,b1,b2,b3,b4⟩:=y
 simp only [GRow.pv,b0b,List.cons.injEq,PV.int.injEq,PV.str.injEq,PV.list.injEq,true_and,and_true] at h
 obtain ⟨rfl,rfl,rfl,rfl,rfl,h⟩:=h
 rw [d4g (fun a b=>h8i) h]
theorem g4r {R R':Nat} (h:R≤R'):∀ k,Tryz.bnd R k≤Tryz.bnd R' k
 | 0=>h
 | k+1=>by have:=g4r h k;simp only [Tryz.bnd];omega
namespace Tryz
theorem d0h {R R' k k':Nat} (h:R≤R') (hk:k≤k'):bnd R k≤bnd R' k':=Nat.le_trans (g4r h k) (b9w R' hk)
theorem h5y (l:List GRow) (hsm:Rows.mid 1048577 l) (hc:b0r l=0):b2j (S0 l) l.length=c3g l 0:=by
 have hlen:=hsm.len
 have hs:b5x l:=b3x (b5s hc).1
 have hS0:=g8n hs hsm (Nat.le_refl _)
 obtain ⟨av,rest,_,hM,hp⟩:=h1m l hsm (Nat.le_refl _) hc (n:=1048578) (by omega)
 have h1:=h0p l (by omega) (fun x hx=>by have:=(hsm.row x hx).attrs;omega) hs av rest hM hp 10
 have hN:(S0 l).N=l.length+1:=rfl
 have h2:=g4z hS0 (by omega) av rest hM (n:=l.length+12) (by omega)
 rw [show l.length+12+l.length+2=10+l.length+l.length+4 by omega] at h2
 have hmg:∀ X,b0o (S0 l).N (S0 l).st av X=b0o (l.length+1) (st0 l) av X:=fun X=>rfl
 rw [hmg,hmg] at h2
 rw [show MP=AV.ptr true 1 1 1 0 0 from rfl] at h2
 rw [h1] at h2
 simp only [Option.some.injEq,Prod.mk.injEq,b0o,List.cons.injEq,true_and,List.append_cancel_left_eq,AObj.pcells.injEq,and_true] at h2
 have h3:=h2.2
 rw [h0t] at h3
 exact (d4g (fun a b=>j0a) h3).symm
theorem g4y (l:List GRow):S0 (l.map b4l)=S0 l:=by
 have e1:st0 (l.map b4l)=st0 l:=by
  funext h
  cases h with
  | zero=>rfl
  | succ h=>simp only [st0,List.getElem?_map,Option.map_map];rfl
 have e2:kd0 (l.map b4l) (l.map b4l).length=kd0 l l.length:=by
  funext h
  simp only [kd0,List.length_map,List.getElem?_map,Option.map_map];rfl
 unfold S0
 rw [e1,e2,List.length_map]
theorem d9r {l k:List GRow} (h:l.map b4l=k.map b4l) (L:List GOp) (left:Int):b0y l L left=b0y k L left∧b3k l L left=b3k k L left:=by
 have h1:S0 l=S0 k:=by rw [← g4y l,h,g4y k]
 have h2:b0r l=b0r k:=by rw [← b4w l,h,b4w k]
 have h3:l.length=k.length:=by have:=congrArg List.length h;simpa using this
 have e:b0y l L left=b0y k L left:=by unfold b0y b8o b9o;rw [h1,h2,h3]
 refine ⟨e, ?_⟩
 unfold b3k b6c b9o
 rw [e,h1,h3]
theorem h6w {l:List GRow} (hs:b5x l):b3r (S0 l)=[]:=by
  unfold b3r
  rw [List.map_eq_nil_iff,List.filter_eq_nil_iff]
  intro h hh
  obtain ⟨h1,_⟩:=b1m.1 hh
  simp only [S0] at h1
  cases h with
  | zero=>simp
  | succ j =>
    obtain ⟨x,hx⟩:=b0m (show j<l.length by omega)
    have hst:=hs.1 j x (by omega) hx
    have e:((S0 l).st (j+1)).up=x.up:=by simp [S0,st0,hx,b5o]
    rw [e]
    have:¬ x.up<0:=by omega
    simp [this]
theorem h9s {l:List GRow} (hs:b5x l):¬ 1<(kd0 l l.length 0).length:=by
  have hone:∀ k ∈ kd0 l l.length 0,k=1:=fun k hk=>by
    obtain ⟨j,x,hj,hx,hu,rfl⟩:=d4e.1 hk
    rcases hs.2 j x hx with ⟨h,_⟩ | ⟨h,y,hy,hyu⟩
    · omega
    · have:=c4z hy;omega
  have hnd:=d7l l l.length 0
  generalize kd0 l l.length 0=k at *
  match k,hone,hnd with
  | [],_,_=>simp
  | [a],_,_=>simp
  | a :: b :: r, ho, hd =>
    have h1:=ho a (by simp)
    have h2:=ho b (by simp)
    rw [h1,h2] at hd
    simp at hd
theorem c6k (l:List GRow) (hsm:Rows.mid 1048577 l) (hc:b0r l=0) {left:Int} (h0:0≤left):b0y l [] left=(0,0)∧(b3k l [] left).map b4l=l.map b4l:=by
 have hs:b5x l:=b3x (b5s hc).1
 have hr:=h5y l hsm hc
 have hR:b6c l []=c3g l 0:=hr
 have hE:b8o l [] left=0:=by
  refine h2y (h6w hs) ?_ ?_ ?_
  ·have:tops (b2j (b9o l []) (bnd l.length ([]:List GOp).length))=(kd0 l l.length 0).length:=d5r _ _
   rw [this]
   exact h9s hs
  ·show b0r (b6c l [])=0
   rw [hR,d5i,hc]
  ·exact h0
 obtain ⟨v1,v2⟩:=d5o (L:=[]) hc (by simp) rfl hE
 exact ⟨v1,by rw [v2,hR,c3f]⟩
noncomputable def allE (l:List GRow):List GOp→List (List GOp)→List GOp × Nat × Int
 | want,[]=>(want,0,0)
 | want,s::r=>if (b3c l want s).2=0 then allE l (b4c l want s) r else ([],(b3c l want s).1,(b3c l want s).2)
theorem d9a (l:List GRow) (want:List GOp) {Ls:List (List GOp)} {i:Nat} {s:List GOp} (hs:Ls[i]? = some s):allE l want (Ls.drop i)=if (b3c l want s).2=0 then allE l (b4c l want s) (Ls.drop (i+1)) else ([],(b3c l want s).1,(b3c l want s).2):=by
 have:Ls.drop i=s::Ls.drop (i+1):=by rw [List.drop_eq_getElem?_toList_append,hs];rfl
 rw [this,allE]
structure Seq (l:List GRow) (m i:Nat) (want:List GOp) (now:List GRow):Prop where
 ok:(b0y l want 1048576).2=0
 small:∀ x ∈ want,smallOp x
 len:want.length≤m*i
 rows:(midR l want).map b4l=now.map b4l
theorem g2t {l:List GRow} (hsm:Rows.mid 1048577 l) (hl:l.length≤1000) {m i:Nat} (hmi:m*(i+1)≤1000) {want:List GOp} {now:List GRow} (h:Seq l m i want now) {s:List GOp} (hs:∀ x ∈ s,smallOp x) (hsl:s.length≤m) (he:(b3c l want s).2=0) :
  (b0y now s 1048576).2=0∧Seq l m (i+1) (b4c l want s) (b3k now s 1048576):=by
 have hwl:=h.len
 have hmm:m*(i+1)=m*i+m:=Nat.mul_succ m i
 have h2:(b0y (midR l want) s 1048576).2=0:=by
  unfold b3c at he
  rw [if_neg (by rw [h.ok];simp)] at he
  split at he
  ·rename_i q;exact absurd he q
  ·rename_i q;simpa using q
 have eL:b4c l want s=want++s.map (b0i (b3a (midR l want) ((l.length:Int)+b2g want 1))):=by unfold b4c;rw [if_pos he]
 obtain ⟨v1, φ,v2⟩:=d8n l hsm want s h.small hs (by omega) (by omega) (by omega) h.ok rfl h2 (left:=1048576) (by
  rw [← eL]
  have:=c1m (b4c l want s) 1
  rw [eL] at this ⊢
  simp only [List.length_append,List.length_map] at this
  omega)
 rw [← eL] at v1 v2
 obtain ⟨w1,w2⟩:=d9r h.rows s 1048576
 refine ⟨by rw [← w1];exact h2,⟨by rw [v1],fun x hx => ?_,by rw [eL];simp;omega, ?_⟩⟩
 ·rw [eL] at hx
  rcases List.mem_append.1 hx with q | q
  ·exact h.small x q
  ·obtain ⟨y,hy,rfl⟩:=List.mem_map.1 q
   exact c8n (hs y hy)
 ·show (b3k l (b4c l want s) 1048576).map b4l=_
  rw [v2,d1m,w2]
end Tryz
end Go.TA


end
section
/- Two scripts together: the document's answer. -/
namespace Go.TA.Tryz
theorem c0n (mid:List GRow) (hmid:mid.length≤1048576) (made:Int) (hm:0≤made) (hm2:made≤4194304) {h:Int} (hh:g3y h) (g:List AObj) (n:Nat) :
  b0f T (n+1) 59 [.p (.int .i64 h),.p (.list (mid.map GRow.pv)),.p (.int .i64 made)] g=some (.p (.int .i64 (b3a mid made h)),g):=by
 have ml:(mid.map GRow.pv).length=mid.length:=by simp
 obtain ⟨h1,h2⟩:=hh
 rw [b0a T59,run_pure rfl rfl rfl]
 by_cases h0:h=0
 ·subst h0
  have e:b3a mid made 0=0:=rfl
  rw [e]
  simp -implicitDefEqProofs (disch:=omega) only [Rx,simprocAttr,F59]
 have e0:(h==0)=false:=by simpa using h0
 by_cases hle:h≤(mid.length:Int)
 ·obtain ⟨k,rfl⟩:∃ k:Nat,h=(k:Int)+1:=⟨(h - 1).toNat,by omega⟩
  obtain ⟨x,hx⟩:=b0m (show k<mid.length by omega)
  have hg:=b0s (f:=GRow.pv) hx
  have e1:(k:Int)+1 - 1=(k:Int):=by omega
  have e:b3a mid made ((k:Int)+1)=x.id:=by
   unfold b3a
   rw [if_neg h0,if_pos hle,e1,Int.toNat_natCast,hx];rfl
  have k1:(k:Int)<(mid.length:Int):=by omega
  have hnl:¬ (mid.length:Int)<(k:Int)+1:=by omega
  rw [e]
  simp -implicitDefEqProofs (disch:=omega) only [Rx,simprocAttr,F59,e0,hnl,ml,hg,GRow.pv,e1,k1]
 ·have e:b3a mid made h=made+h - (mid.length:Int):=by
   unfold b3a
   rw [if_neg h0,if_neg hle]
  have hgl:(mid.length:Int)<h:=by omega
  rw [e]
  simp -implicitDefEqProofs (disch:=omega) only [Rx,simprocAttr,F59,e0,hgl,ml]
def ofS (mid:List GRow) (made:Int) (t:List GOp) (A:List (List PV)) (i:Nat):St:=⟨[(2,.p (.list (t.map GOp.pv))),(9,.p (.list (mid.map GRow.pv))),(15,.p (.int .i64 made)),(16,.own false 1000 A.length),(59,.p (.int .i64 t.length)),(60,.p (.int .i64 i))],[(1000,.pcells 9 A)],[]⟩
theorem j0p (mid:List GRow) (hmid:mid.length≤1048576) (made:Int) (hm:0≤made) (hm2:made≤4194304) (s t:List GOp) (hs:s.length≤1048576) (ht:t.length≤1048576) (hok:∀ x ∈ t,okH g3y x) {n:Nat} (hn:t.length<n) :
  b0t (b0f T n) n (.loop h5a) (ofS mid made t (s.map GOp.pv) 0)=some (.exit 0,⟨[(16,.own false 1000 (s.length+t.length))],[(1000,.pcells 9 ((s++t.map (b0i (b3a mid made))).map GOp.pv))],[]⟩):=by
 have lt:(t.map GOp.pv).length=t.length:=by simp
 have key:=b1k (C:=b0f T n) (N:=n) (B:=h5a) (σ := Nat) (S:=fun i=>ofS mid made t ((s++(t.take i).map (b0i (b3a mid made))).map GOp.pv) i)
  (I:=fun i=>i≤t.length) (μ := fun i=>t.length - i) (Φ := fun i=>(.exit 0,⟨[(16,.own false 1000 (s.length+t.length))],[(1000,.pcells 9 ((s++t.map (b0i (b3a mid made))).map GOp.pv))],[]⟩)) ?_ 0 (by omega) (by omega)
 ·simpa using key
 intro i hi
 by_cases h:i<t.length
 ·left
  obtain ⟨x,hx⟩:=b0m h
  have hg:=b0s (f:=GOp.pv) hx
  have k1:(i:Int)<(t.length:Int):=by omega
  obtain ⟨o1,o2,o3⟩:=hok x (List.mem_of_getElem? hx)
  obtain ⟨m,rfl⟩:∃ m,n=m+1:=⟨n - 1,by omega⟩
  have c1:=c0n mid hmid made hm hm2 o1 [] m
  have c2:=c0n mid hmid made hm hm2 o2 [] m
  have c3:=c0n mid hmid made hm hm2 o3 [] m
  have hS:(s++(t.take (i+1)).map (b0i (b3a mid made))).map GOp.pv=(s++(t.take i).map (b0i (b3a mid made))).map GOp.pv++[(b0i (b3a mid made) x).pv]:=by
   rw [List.take_add_one,hx]
   simp
  have hli:((s++(t.take i).map (b0i (b3a mid made))).map GOp.pv).length≤2097152:=by simp;omega
  refine ⟨i+1, ?_,by omega,by omega,rfl⟩
  rw [hS]
  generalize (s++(t.take i).map (b0i (b3a mid made))).map GOp.pv=A at hli
  simp only [GOp.pv,b0b,b0i,ofS] at hg ⊢
  simp -implicitDefEqProofs (disch:=omega) only [Rx,simprocAttr,h5a,k1,lt,hg,c1,c2,c3,List.length_append]
 ·right
  obtain rfl:i=t.length:=by omega
  have k1:¬ (t.length:Int)<(t.length:Int):=by omega
  refine ⟨?_,by simp⟩
  have e:((s++(t.take t.length).map (b0i (b3a mid made))).map GOp.pv).length=s.length+t.length:=by simp
  simp only [ofS,e]
  rw [List.take_length]
  simp -implicitDefEqProofs (disch:=omega) only [Rx,simprocAttr,h5a,k1]
theorem h0m (l:List GRow) (hsm:Rows.mid 1048577 l) (s t:List GOp) (hs:∀ x ∈ s,smallOp x) (ht:∀ x ∈ t,smallOp x) (hl:l.length≤200000) (hsl:s.length≤200000) (htl:t.length≤200000) (g:List AObj) {F:Nat}
  (hF:bnd l.length s.length+bnd l.length s.length+6000001<F) (hF2:bnd (midR l s).length t.length+bnd (midR l s).length t.length+6000001<F) :
  b0f T (F+1) 32 [.p (.list (l.map GRow.pv)),.p (.list (s.map GOp.pv)),.p (.list (t.map GOp.pv))] g=some (.tuple [.p (.list ((b4c l s t).map GOp.pv)),.p (.int .i64 (b3c l s t).1),.p (.int .i64 (b3c l s t).2)],g):=by
 obtain ⟨hmid,hml⟩:=c5l l hsm s hs (by omega) (by omega) 1048576
 have eM:midR l s=b3k l s 1048576:=rfl
 rw [← eM] at hmid hml
 have hv1:=c3q l hsm s hs (by omega) (by omega) 1048576 [] (F:=F - 1) (by omega)
 have hv2:=c3q (midR l s) hmid t ht (by omega) (by omega) 1048576 [] (F:=F - 1) (by omega)
 rw [show F - 1+1=F by omega] at hv1 hv2
 rw [← eM] at hv1
 have eC:b3c l s t=if (b0y l s 1048576).2≠0 then b0y l s 1048576 else if (b0y (midR l s) t 1048576).2≠0 then (s.length+(b0y (midR l s) t 1048576).1,(b0y (midR l s) t 1048576).2) else (0,0):=rfl
 have ls:(s.map GOp.pv).length=s.length:=by simp
 have lt:(t.map GOp.pv).length=t.length:=by simp
 have lr:(l.map GRow.pv).length=l.length:=by simp
 have hcount:=d5s s (by omega) 1 [] (n:=F - 1) (by omega)
 rw [show F - 1+1=F by omega] at hcount
 have htm:=c1m s 1
 rw [b0a T32,run_pure rfl rfl rfl]
 unfold b4c
 by_cases h1:(b0y l s 1048576).2=0
 rotate_left
 ·have e1:((b0y l s 1048576).2==0)=false:=by simpa using h1
  rw [eC,if_pos h1]
  generalize (b0y l s 1048576).1=a at *
  generalize (b0y l s 1048576).2=e at *
  generalize (midR l s).map GRow.pv=M at *
  simp -implicitDefEqProofs (disch:=omega) only [Rx,simprocAttr,F32,hv1,e1,h1]
 rw [if_neg (by simpa using h1)] at eC
 rw [h1] at hv1
 generalize (b0y l s 1048576).1=a0 at hv1
 by_cases h2:(b0y (midR l s) t 1048576).2=0
 rotate_left
 ·have e1:((b0y (midR l s) t 1048576).2==0)=false:=by simpa using h2
  have hat:(b0y (midR l s) t 1048576).1≤1048576:=by have:=d5p (midR l s) t 1048576;omega
  rw [eC,if_pos h2]
  generalize (b0y (midR l s) t 1048576).1=a at *
  generalize (b0y (midR l s) t 1048576).2=e at *
  generalize (midR l s).map GRow.pv=M at *
  simp -implicitDefEqProofs (disch:=omega) only [Rx,simprocAttr,F32,hv1,hv2,ls,e1,h2]
 rw [if_neg (by simpa using h2)] at eC
 have hop:=c5m h2
 rw [h2] at hv2
 generalize (b0y (midR l s) t 1048576).1=a1 at hv2
 have hloop:=j0p (midR l s) (by omega) ((l.length:Int)+b2g s 1) (by omega) (by omega) s t (by omega) (by omega) (fun x hx=>c5z (hop x hx)) (n:=F) (by omega)
 rw [eC,if_pos rfl]
 have hlen:((s++t.map (b0i (b3a (midR l s) ((l.length:Int)+b2g s 1)))).map GOp.pv).length=s.length+t.length:=by simp
 have ha9:(s.map GOp.pv).all (fun x=>x.length==9)=true:=by simp [List.all_eq_true,GOp.pv]
 simp only [ofS,ls,Int.natCast_zero] at hloop
 generalize (s++t.map (b0i (b3a (midR l s) ((l.length:Int)+b2g s 1)))).map GOp.pv=Y at *
 generalize s.map GOp.pv=X at *
 generalize (midR l s).map GRow.pv=M at *
 generalize b2g s 1=t1 at *
 have hcap:s.length*120≤140737488355328:=by omega
 have hbig:¬ (1048576:Int)<(s.length:Int)+(t.length:Int):=by omega
 simp -implicitDefEqProofs (disch:=omega) only [Rx,simprocAttr,F32,hv1,hv2,hcount,hloop,ls,lt,lr,hlen,ha9,hbig]
end Go.TA.Tryz


end
section
/- Are rows, or scripts, more than are gone through? -/
namespace Go.TA.Tryz
def b4y (l:List GOp):List PV:=[.list (l.map GOp.pv)]
def c4p (l:List GRow) (Ls:List (List GOp)):Bool:=decide (5<Ls.length) || (!c3k l 100 || Ls.any fun L => !b9c L 100)
theorem h2p (l:List GRow) (Ls:List (List GOp)) (hsm:Rows.small 1048577 l) (hL:∀ L ∈ Ls,L.length≤1048576∧∀ x ∈ L,smallOp x) (hLs:Ls.length≤1048576) (g:List AObj) {n:Nat} (hn:1048577<n) :
    b0f T (n+2) 29 [.p (.list (l.map GRow.pv)),.p (.list (Ls.map b4y))] g=some (.p (.bool (c4p l Ls)),g):=by
  have hfr:=fun g=>h7n l 100 g hsm (Nat.le_refl _) (by omega) (by omega) (m:=n) (by omega)
  have hfo:=fun L (hm:L ∈ Ls) g=>j1f L 100 g (n:=n) (fun y hy=>⟨(hL L hm).2 y hy,by have:=((hL L hm).2 y hy).1;omega⟩) (hL L hm).1 (by have:=(hL L hm).1;omega) (by omega) (by omega)
  have ll:(Ls.map b4y).length=Ls.length:=by simp
  rw [b0a T29,run_pure rfl rfl rfl]
  by_cases h5:5<Ls.length
  · have k5:(5:Int)<(Ls.length:Int):=by omega
    have e:c4p l Ls=true:=by simp [c4p,h5]
    rw [e]
    simp -implicitDefEqProofs (disch:=omega) only [Rx,simprocAttr,F29,ll,k5]
  have k5:¬ (5:Int)<(Ls.length:Int):=by omega
  cases h1:c3k l 100 with
  | false =>
    rw [h1] at hfr
    have e:c4p l Ls=true:=by simp [c4p,h1]
    rw [e]
    simp -implicitDefEqProofs (disch:=omega) only [Rx,simprocAttr,F29,ll,k5,hfr]
  | true=>
  rw [h1] at hfr
  have e:c4p l Ls=Ls.any fun L => !b9c L 100:=by simp [c4p,h1,h5]
  rw [e]
  have key:=b1i (C:=b0f T (n+1)) (N:=n+1) (B:=h5b) (σ := Nat) (S:=fun i=>⟨[(1,.p (.list (Ls.map b4y))),(15,.p (.int .i64 Ls.length)),(16,.p (.int .i64 i))],[],[]⟩)
    (I:=fun i=>i≤Ls.length∧((Ls.any fun L => !b9c L 100)=(Ls.drop i).any fun L => !b9c L 100)) (μ := fun i=>Ls.length - i) (Q:=fun r=>((Ls.any fun L => !b9c L 100)=true∧r=(.ret,⟨[(4,.p (.bool true))],[],[]⟩))∨((Ls.any fun L => !b9c L 100)=false∧r=(.exit 0,⟨[],[],[]⟩))) ?_ 0 (by simp) (by omega)
  · obtain ⟨r,hr,hq⟩:=key
    simp only [Int.natCast_zero] at hr
    rcases hq with ⟨e,rfl⟩ | ⟨e,rfl⟩
    · rw [e]
      simp -implicitDefEqProofs (disch:=omega) only [Rx,simprocAttr,F29,ll,k5,hfr,hr]
    · rw [e]
      simp -implicitDefEqProofs (disch:=omega) only [Rx,simprocAttr,F29,ll,k5,hfr,hr]
  rintro i ⟨hi,hd⟩
  by_cases h:i<Ls.length
  · obtain ⟨L,hx⟩:=b0m h
    have hg:(Ls.map b4y).getD i []=b4y L:=b0s (f:=b4y) hx
    have k1:(i:Int)<(Ls.length:Int):=by omega
    have hf:=hfo L (List.mem_of_getElem? hx)
    have hdr:Ls.drop i=L::Ls.drop (i+1):=by rw [List.drop_eq_getElem?_toList_append,hx];rfl
    rw [hdr,List.any_cons] at hd
    cases h2:b9c L 100 with
    | false =>
      right
      rw [h2] at hf hd
      refine ⟨_, ?_, ?_,.inl ⟨by simpa using hd,rfl⟩⟩
      · simp -implicitDefEqProofs (disch:=omega) only [Rx,simprocAttr,h5b,k1,ll,hg,b4y,hf]
      · simp
    | true =>
      left
      rw [h2] at hf hd
      refine ⟨i+1, ?_,⟨by omega,by simpa using hd⟩,by omega⟩
      simp -implicitDefEqProofs (disch:=omega) only [Rx,simprocAttr,h5b,k1,ll,hg,b4y,hf]
  · right
    obtain rfl:i=Ls.length:=by omega
    have k1:¬ (Ls.length:Int)<(Ls.length:Int):=by omega
    rw [List.drop_length] at hd
    refine ⟨_, ?_, ?_,.inr ⟨hd,rfl⟩⟩
    · simp -implicitDefEqProofs (disch:=omega) only [Rx,simprocAttr,h5b,k1]
    · simp
end Go.TA.Tryz


end
section
/- Attributes held against themselves. -/
namespace Go.TA.Tryz
theorem d0l (l:List Attr) (hl:l.length≤4194304) (g:List AObj) {n:Nat} (hn:l.length<n):b0f T (n+1) 60 [.p (.list (l.map Attr.pv)),.p (.list (l.map Attr.pv))] g=some (.p (.bool true),g):=by
 have ll:(l.map Attr.pv).length=l.length:=by simp
 have hl:=b1k (C:=b0f T n) (N:=n) (B:=h8u) (σ := Nat) (S:=fun i=>⟨[(0,.p (.list (l.map Attr.pv))),(1,.p (.list (l.map Attr.pv))),(12,.p (.int .i64 l.length)),(13,.p (.int .i64 i))],[],[]⟩) (I:=fun i=>i≤l.length) (μ := fun i=>l.length - i) (Φ := fun i=>(.exit 0,⟨[],[],[]⟩)) ?_ 0 (by omega) (by omega)
 ·rw [b0a T60,run_pure rfl rfl rfl]
  simp only [Int.natCast_zero] at hl
  simp -implicitDefEqProofs (disch:=omega) only [Rx,simprocAttr,F60,hl,ll]
 intro i hi
 by_cases h:i<l.length
 ·left
  obtain ⟨x,hx⟩:=b0m h
  have hg:=b0s (f:=Attr.pv) hx
  have k1:(i:Int)<(l.length:Int):=by omega
  refine ⟨i+1, ?_,by omega,by omega,rfl⟩
  simp -implicitDefEqProofs (disch:=omega) only [Rx,simprocAttr,h8u,k1,ll,hg,Attr.pv,Bool.and_self]
 ·right
  obtain rfl:i=l.length:=by omega
  have k1:¬ (l.length:Int)<(l.length:Int):=by omega
  refine ⟨?_,by simp⟩
  simp -implicitDefEqProofs (disch:=omega) only [Rx,simprocAttr,h8u,k1]
end Go.TA.Tryz


end
section
/- Rows that differ in IDs alone have one shape. -/
namespace Go.TA.Tryz
theorem g2q {a b:List GRow} (h:a.map b4l=b.map b4l) {i:Nat} {x:GRow} (hx:a[i]? = some x):∃ z,b[i]? = some { x with id:=z }:=by
  have e:(a.map b4l)[i]? = (b.map b4l)[i]? := by rw [h]
  rw [List.getElem?_map,List.getElem?_map,hx] at e
  cases hy:b[i]? with
  | none=>rw [hy] at e;cases e
  | some y =>
    rw [hy] at e
    simp only [Option.map_some,Option.some.injEq,b4l] at e
    obtain ⟨i1,u1,a1,a2,a3,a4⟩:=x
    obtain ⟨i2,u2,b1,b2,b3,b4⟩:=y
    simp only [GRow.mk.injEq] at e
    obtain ⟨_,rfl,rfl,rfl,rfl,rfl⟩:=e
    exact ⟨i2,rfl⟩
theorem d9x (a b:List GRow) (h:a.map b4l=b.map b4l) (hl:a.length≤8589934592) (ha:∀ x ∈ a,x.attrs.length≤4194304) (g:List AObj) {n:Nat} (hn:a.length<n) (hn2:4194304<n):b0f T (n+2) 34 [.p (.list (a.map GRow.pv)),.p (.list (b.map GRow.pv))] g=some (.p (.bool true),g):=by
 have hab:b.length=a.length:=by have:=congrArg List.length h;simpa using this.symm
 have ll:(a.map GRow.pv).length=a.length:=by simp
 have lb:(b.map GRow.pv).length=a.length:=by simp [hab]
 have hl:=b1k (C:=b0f T (n+1)) (N:=n+1) (B:=h8v) (σ := Nat) (S:=fun i=>⟨[(0,.p (.list (a.map GRow.pv))),(1,.p (.list (b.map GRow.pv))),(14,.p (.int .i64 a.length)),(15,.p (.int .i64 i))],[],[]⟩) (I:=fun i=>i≤a.length) (μ := fun i=>a.length - i) (Φ := fun i=>(.exit 0,⟨[],[],[]⟩)) ?_ 0 (by omega) (by omega)
 ·rw [b0a T34,run_pure rfl rfl rfl]
  simp only [Int.natCast_zero] at hl
  simp -implicitDefEqProofs (disch:=omega) only [Rx,simprocAttr,F34,hl,ll,lb]
 intro i hi
 by_cases hh:i<a.length
 ·left
  obtain ⟨x,hx⟩:=b0m hh
  obtain ⟨z,hz⟩:=g2q h hx
  have hg:=b0s (f:=GRow.pv) hx
  have hg2:=b0s (f:=GRow.pv) hz
  have k1:(i:Int)<(a.length:Int):=by omega
  have hat:=fun g=>d0l x.attrs (ha x (List.mem_of_getElem? hx)) g (n:=n) (by have:=ha x (List.mem_of_getElem? hx);omega)
  refine ⟨i+1, ?_,by omega,by omega,rfl⟩
  simp -implicitDefEqProofs (disch:=omega) only [Rx,simprocAttr,h8v,k1,ll,lb,hg,hg2,GRow.pv,b0b,hat]
 ·right
  obtain rfl:i=a.length:=by omega
  have k1:¬ (a.length:Int)<(a.length:Int):=by omega
  refine ⟨?_,by simp⟩
  simp -implicitDefEqProofs (disch:=omega) only [Rx,simprocAttr,h8v,k1]
end Go.TA.Tryz


end
section
/- Scripts held against themselves. -/
namespace Go.TA.Tryz
theorem h6m (x:GOp) (hx:x.attrs.length≤4194304) (g:List AObj) {n:Nat} (hn:x.attrs.length<n):b0f T (n+2) 57 [.p (.agg x.pv),.p (.agg x.pv)] g=some (.p (.bool true),g):=by
 have ha:=fun g=>d0l x.attrs hx g hn
 rw [b0a T57,run_pure rfl rfl rfl]
 simp -implicitDefEqProofs (maxSteps:=4000000) (disch:=omega) only [Rx,simprocAttr,c1n,F57,GOp.pv,b0b,ha]
theorem h0v (L:List GOp) (hl:L.length≤4194304) (ha:∀ x ∈ L,x.attrs.length≤4194304) (g:List AObj) {n:Nat} (hn:L.length<n) (hn2:4194304<n):b0f T (n+3) 33 [.p (.list (L.map GOp.pv)),.p (.list (L.map GOp.pv))] g=some (.p (.bool true),g):=by
 have ll:(L.map GOp.pv).length=L.length:=by simp
 have hl:=b1k (C:=b0f T (n+2)) (N:=n+2) (B:=h8w) (σ := Nat) (S:=fun i=>⟨[(0,.p (.list (L.map GOp.pv))),(1,.p (.list (L.map GOp.pv))),(12,.p (.int .i64 L.length)),(13,.p (.int .i64 i))],[],[]⟩) (I:=fun i=>i≤L.length) (μ := fun i=>L.length - i) (Φ := fun i=>(.exit 0,⟨[],[],[]⟩)) ?_ 0 (by omega) (by omega)
 ·rw [b0a T33,run_pure rfl rfl rfl]
  simp only [Int.natCast_zero] at hl
  simp -implicitDefEqProofs (disch:=omega) only [Rx,simprocAttr,F33,hl,ll]
 intro i hi
 by_cases h:i<L.length
 ·left
  obtain ⟨x,hx⟩:=b0m h
  have hg:=b0s (f:=GOp.pv) hx
  have hxa:=ha x (List.mem_of_getElem? hx)
  have k1:(i:Int)<(L.length:Int):=by omega
  have he:=h6m x hxa [] (n:=n) (by omega)
  simp only [GOp.pv,b0b] at he
  refine ⟨i+1, ?_,by omega,by omega,rfl⟩
  simp -implicitDefEqProofs (disch:=omega) only [Rx,simprocAttr,h8w,k1,ll,hg,GOp.pv,b0b,he]
 ·right
  obtain rfl:i=L.length:=by omega
  have k1:¬ (L.length:Int)<(L.length:Int):=by omega
  refine ⟨?_,by simp⟩
  simp -implicitDefEqProofs (disch:=omega) only [Rx,simprocAttr,h8w,k1]
end Go.TA.Tryz


end
section
/- The example that the statements contain, run. -/
namespace Go.TA.Tryz
theorem j2t (n:Nat):b0f T (n+80) 30 [] []=some (.p (.bool true),[]):=by kernel_rfl
end Go.TA.Tryz


end
section
/- The law ConcatAll, in the machine. -/
namespace Go.TA.Tryz
theorem h1u {a b:List GRow} (h:a.map b4l=b.map b4l) {n:Nat} (ha:Rows.mid n a):Rows.mid n b:=by
 have hab:b.length=a.length:=by have:=congrArg List.length h;simpa using this.symm
 refine ⟨by rw [hab];exact ha.len,fun y hy => ?_⟩
 obtain ⟨i,hi⟩:=List.getElem?_of_mem hy
 obtain ⟨z,hz⟩:=g2q h.symm hi
 have:=ha.row _ (List.mem_of_getElem? hz)
 exact ⟨this.attrs,this.small⟩
theorem d9y {l:List GRow} (hsm:Rows.mid 1048577 l) (hl:l.length≤1000) {m i:Nat} (hmi:m*i≤1000) {want:List GOp} {now:List GRow} (h:Seq l m i want now):Rows.mid 1048577 (midR l want)∧(midR l want).length≤l.length+want.length+1∧Rows.mid 1048577 now∧now.length=(midR l want).length:=by
 have:=h.len
 obtain ⟨h1,h2⟩:=c5l l hsm want h.small (by omega) (by omega) 1048576
 exact ⟨h1,h2,h1u h.rows h1,by have:=congrArg List.length h.rows;simpa using this.symm⟩
theorem j2k (l : List GRow) (hsm : Rows.mid 1048577 l) (hl : l.length ≤ 100) (Ls : List (List GOp)) (hL : ∀ s ∈ Ls, s.length ≤ 100 ∧ ∀ x ∈ s, smallOp x) (hLs : Ls.length ≤ 5) (g : List AObj) {F : Nat} (hF : bnd 1200 1200 + bnd 1200 1200 + 6000010 < F) :
    (b0r l≠0→b0f T (F+1) 35 [.p (.list (l.map GRow.pv)),.p (.list (Ls.map b4y))] g=some (.tuple [.p (.list []),.p (.int .i64 0),.p (.int .i64 (b0r l))],g)) ∧
    (b0r l=0→b0f T (F+1) 35 [.p (.list (l.map GRow.pv)),.p (.list (Ls.map b4y))] g=some (.tuple [.p (.list ((allE l [] Ls).1.map GOp.pv)),.p (.int .i64 (allE l [] Ls).2.1),.p (.int .i64 (allE l [] Ls).2.2)],g)):=by
  have hb0:=d0h (show l.length≤1200 by omega) (show ([]:List GOp).length≤1200 by simp)
  have hv:=c8d l hsm [] (by simp) (by omega) (by simp) 0 [] (F:=F - 1) (by omega)
  rw [show F - 1+1=F by omega] at hv
  simp only [List.map_nil] at hv
  have ll:(Ls.map b4y).length=Ls.length:=by simp
  refine ⟨fun hc => ?_,fun hc => ?_⟩
  · have e:b0y l [] 0=(0,b0r l):=by unfold b0y;rw [if_pos hc]
    have e1:(b0r l==0)=false:=by simpa using hc
    rw [e] at hv
    rw [b0a T35,run_pure rfl rfl rfl]
    generalize (b3k l [] 0).map GRow.pv=X at hv
    generalize b0r l=c at *
    simp only [Int.natCast_zero] at hv
    simp -implicitDefEqProofs (disch:=omega) only [Rx,simprocAttr,F35,hv,e1]
  obtain ⟨b1,_⟩:=c6k l hsm hc (left:=0) (by omega)
  obtain ⟨b2,b3⟩:=c6k l hsm hc (left:=1048576) (by omega)
  rw [b1] at hv
  have hS0:Seq l 100 0 [] l:=⟨by rw [b2],by simp,by simp,b3⟩
  have key:=b1i (C:=b0f T F) (N:=F) (B:=h4z) (σ := Nat × List GOp × List GRow) (S:=fun s=>⟨[(0,.p (.list (l.map GRow.pv))),(7,.p (.list (s.2.1.map GOp.pv))),(25,.p (.list (Ls.map b4y))),(26,.p (.int .i64 Ls.length)),(27,.p (.int .i64 s.1))],[],[]⟩)
    (I:=fun s=>s.1≤Ls.length∧Seq l 100 s.1 s.2.1 s.2.2∧allE l [] Ls=allE l s.2.1 (Ls.drop s.1)) (μ := fun s=>Ls.length - s.1)
    (Q:=fun r=>(∃ want,allE l [] Ls=(want,0,0)∧r=(.exit 0,⟨[(7,.p (.list (want.map GOp.pv)))],[],[]⟩))∨((allE l [] Ls).1=[]∧r=(.ret,⟨[(4,.p (.list [])),(5,.p (.int .i64 (allE l [] Ls).2.1)),(6,.p (.int .i64 (allE l [] Ls).2.2))],[],[]⟩))) ?_ (0,[],l) ⟨by simp,hS0,by simp⟩ (by simp only;omega)
  · obtain ⟨r,hr,hq⟩:=key
    simp only [Int.natCast_zero,List.map_nil] at hr hv
    rw [b0a T35,run_pure rfl rfl rfl]
    generalize (b3k l [] 0).map GRow.pv=X at hv
    rcases hq with ⟨want,e,rfl⟩ | ⟨e,rfl⟩
    · rw [e]
      simp -implicitDefEqProofs (disch:=omega) only [Rx,simprocAttr,F35,hv,hr,ll,Int.natCast_zero]
    · rw [e]
      generalize (allE l [] Ls).2.1=a at *
      generalize (allE l [] Ls).2.2=b at *
      simp -implicitDefEqProofs (disch:=omega) only [Rx,simprocAttr,F35,hv,hr,ll]
  rintro ⟨i,want,now⟩ ⟨h1,h2,h3⟩
  simp only at h1 h2 h3 ⊢
  by_cases h:i<Ls.length
  · obtain ⟨s,hs⟩:=b0m h
    obtain ⟨hsl,hss⟩:=hL s (List.mem_of_getElem? hs)
    have hg:(Ls.map b4y).getD i []=b4y s:=b0s (f:=b4y) hs
    have k1:(i:Int)<(Ls.length:Int):=by omega
    have hwl:=h2.len
    obtain ⟨m1,m2,m3,m4⟩:=d9y hsm (by omega) (by omega) h2
    have q1:=d0h (show l.length≤1200 by omega) (show want.length≤1200 by omega)
    have q2:=d0h (show (midR l want).length≤1200 by omega) (show s.length≤1200 by omega)
    have ht:=h9r l hsm want s h2.small hss (by omega) (by omega) (by omega) [] (F:=F - 1) (by omega) (by omega)
    rw [show F - 1+1=F by omega] at ht
    rw [d9a l want hs] at h3
    by_cases he:(b3c l want s).2=0
    · left
      rw [if_pos he] at h3
      obtain ⟨n1,n2⟩:=g2t hsm (by omega) (by omega) h2 hss hsl he
      refine ⟨(i+1,b4c l want s,b3k now s 1048576), ?_,⟨by simp only;omega,n2,h3⟩,by simp only;omega⟩
      rw [he] at ht
      generalize (b3c l want s).1=a at ht
      generalize (b4c l want s).map GOp.pv=Y at ht ⊢
      generalize want.map GOp.pv=W at ht ⊢
      simp only [b4y] at hg
      simp -implicitDefEqProofs (disch:=omega) only [Rx,simprocAttr,h4z,k1,ll,hg,ht]
    · right
      rw [if_neg he] at h3
      have e1:((b3c l want s).2==0)=false:=by simpa using he
      have eL:b4c l want s=[]:=by unfold b4c;rw [if_neg he]
      rw [h3]
      refine ⟨_, ?_, ?_,.inr ⟨rfl,rfl⟩⟩
      · rw [eL] at ht
        generalize (b3c l want s).1=a at ht
        generalize (b3c l want s).2=b at ht e1
        generalize want.map GOp.pv=W at ht
        simp only [b4y,List.map_nil] at hg ht
        simp -implicitDefEqProofs (disch:=omega) only [Rx,simprocAttr,h4z,k1,ll,hg,ht,e1]
      · simp
  · right
    obtain rfl:i=Ls.length:=by omega
    have k1:¬ (Ls.length:Int)<(Ls.length:Int):=by omega
    rw [List.drop_length] at h3
    refine ⟨_, ?_, ?_,.inl ⟨want,h3,rfl⟩⟩
    · simp -implicitDefEqProofs (disch:=omega) only [Rx,simprocAttr,h4z,k1]
    · simp
theorem d5g (l : List GRow) (Ls : List (List GOp)) (hsm : Rows.small 1048577 l) (hL : ∀ s ∈ Ls, s.length ≤ 1048575 ∧ ∀ x ∈ s, smallOp x) (hLs : Ls.length ≤ 1048575) :
    ∃ n,b0f T n 8 [.p (.list (l.map GRow.pv)),.p (.list (Ls.map b4y))] []=some (.p (.bool true),[]):=by
  obtain ⟨F,hF⟩:∃ F,F=bnd 1200 1200+bnd 1200 1200+12000000:=⟨_,rfl⟩
  refine ⟨F+1, ?_⟩
  have hsame:=j2t (F - 80)
  rw [show F - 80+80=F by omega] at hsame
  have hhv:=h2p l Ls hsm (fun s hs=>⟨by have:=(hL s hs).1;omega,(hL s hs).2⟩) (by omega) [] (n:=F - 2) (by omega)
  rw [show F - 2+2=F by omega] at hhv
  have ll:(Ls.map b4y).length=Ls.length:=by simp
  rw [b0a T8,run_pure rfl rfl rfl]
  cases h1:c4p l Ls with
  | true =>
    rw [h1] at hhv
    simp -implicitDefEqProofs (disch:=omega) only [Rx,simprocAttr,F8,hhv,hsame]
  | false=>
  rw [h1] at hhv
  simp only [c4p,Bool.or_eq_false_iff,Bool.not_eq_false',decide_eq_false_iff_not,List.any_eq_false,Bool.not_eq_true'] at h1
  obtain ⟨h5,h2,h3⟩:=h1
  have l1:=g1n h2
  have hL2:∀ s ∈ Ls,s.length≤100∧∀ x ∈ s,smallOp x:=fun s hs=>⟨by
    have:=g7d (show b9c s 100=true by simpa using h3 s hs)
    omega,(hL s hs).2⟩
  obtain ⟨p1,p2⟩:=j2k l hsm.mid (by omega) Ls hL2 (by omega) [] (F:=F - 1) (by omega)
  rw [show F - 1+1=F by omega] at p1 p2
  have hck:=g1x l hsm (Nat.le_refl _) (n:=F - 38) (by omega) []
  rw [show F - 38+38=F by omega] at hck
  by_cases hc:b0r l=0
  rotate_left
  · have hp:=p1 hc
    have e1:(b0r l==0)=false:=by simpa using hc
    generalize b0r l=c at *
    simp -implicitDefEqProofs (disch:=omega) only [Rx,simprocAttr,F8,hhv,hp,hck,e1,hsame]
  have hp:=p2 hc
  rw [hc] at hck
  obtain ⟨b2,b3⟩:=c6k l hsm.mid hc (left:=1048576) (by omega)
  have hS0:Seq l 100 0 [] l:=⟨by rw [b2],by simp,by simp,b3⟩
  have key:=b1i (C:=b0f T F) (N:=F) (B:=B8x0) (σ := Nat × List GOp × List GRow) (S:=fun s=>⟨[(0,.p (.list (l.map GRow.pv))),(1,.p (.list (Ls.map b4y))),(5,.p (.list ((allE l [] Ls).1.map GOp.pv))),(6,.p (.int .i64 (allE l [] Ls).2.1)),(7,.p (.int .i64 (allE l [] Ls).2.2)),(8,.p (.list (s.2.1.map GOp.pv))),(9,.p (.list (s.2.2.map GRow.pv))),(52,.p (.int .i64 Ls.length)),(53,.p (.int .i64 s.1))],[],[]⟩)
    (I:=fun s=>s.1≤Ls.length∧Seq l 100 s.1 s.2.1 s.2.2∧allE l [] Ls=allE l s.2.1 (Ls.drop s.1)) (μ := fun s=>Ls.length - s.1)
    (Q:=fun r=>(∃ want now,Seq l 100 Ls.length want now∧allE l [] Ls=(want,0,0)∧r=(.exit 0,⟨[(0,.p (.list (l.map GRow.pv))),(5,.p (.list (want.map GOp.pv))),(6,.p (.int .i64 0)),(7,.p (.int .i64 0)),(8,.p (.list (want.map GOp.pv))),(9,.p (.list (now.map GRow.pv)))],[],[]⟩))∨r=(.ret,⟨[(4,.p (.bool true))],[],[]⟩)) ?_ (0,[],l) ⟨by simp,hS0,by simp⟩ (by simp only;omega)
  · obtain ⟨r,hr,hq⟩:=key
    simp only [Int.natCast_zero,List.map_nil] at hr
    rcases hq with ⟨want,now,hS,e,rfl⟩ | rfl
    rotate_left
    · generalize (allE l [] Ls).1.map GOp.pv=X at *
      generalize (allE l [] Ls).2.1=a at *
      generalize (allE l [] Ls).2.2=b at *
      simp -implicitDefEqProofs (disch:=omega) only [Rx,simprocAttr,F8,hhv,hp,hck,hr,ll]
    rw [e] at hr hp
    have hwl:=hS.len
    obtain ⟨m1,m2,m3,m4⟩:=d9y hsm.mid (by omega) (by omega) hS
    have q1:=d0h (show l.length≤1200 by omega) (show want.length≤1200 by omega)
    have hv:=c3q l hsm.mid want hS.small (by omega) (by omega) 1048576 [] (F:=F - 1) (by omega)
    rw [show F - 1+1=F by omega,hS.ok] at hv
    have hmm:b3k l want 1048576=midR l want:=rfl
    rw [hmm] at hv
    have ho:=h0v want (by omega) (fun x hx=>by have:=(hS.small x hx).1;omega) [] (n:=F - 3) (by omega) (by omega)
    rw [show F - 3+3=F by omega] at ho
    have hsh:=d9x (midR l want) now hS.rows (by omega) (fun x hx=>by have:=(m1.row x hx).attrs;omega) [] (n:=F - 2) (by omega) (by omega)
    rw [show F - 2+2=F by omega] at hsh
    simp only [Int.natCast_zero] at hr hp
    generalize (b0y l want 1048576).1=a at hv
    generalize want.map GOp.pv=W at *
    generalize now.map GRow.pv=N at *
    generalize (midR l want).map GRow.pv=M at *
    simp -implicitDefEqProofs (disch:=omega) only [Rx,simprocAttr,F8,hhv,hp,hck,hr,ll,hv,ho,hsh,hsame]
  rintro ⟨i,want,now⟩ ⟨i1,i2,i3⟩
  simp only at i1 i2 i3 ⊢
  by_cases h:i<Ls.length
  · obtain ⟨s,hs⟩:=b0m h
    obtain ⟨hsl,hss⟩:=hL2 s (List.mem_of_getElem? hs)
    have hg:(Ls.map b4y).getD i []=b4y s:=b0s (f:=b4y) hs
    have k1:(i:Int)<(Ls.length:Int):=by omega
    have hwl:=i2.len
    obtain ⟨m1,m2,m3,m4⟩:=d9y hsm.mid (by omega) (by omega) i2
    have q1:=d0h (show l.length≤1200 by omega) (show want.length≤1200 by omega)
    have q2:=d0h (show (midR l want).length≤1200 by omega) (show s.length≤1200 by omega)
    have q3:=d0h (show now.length≤1200 by omega) (show s.length≤1200 by omega)
    have ht:=h0m l hsm.mid want s i2.small hss (by omega) (by omega) (by omega) [] (F:=F - 1) (by omega) (by omega)
    have hv:=c3q now m3 s hss (by omega) (by omega) 1048576 [] (F:=F - 1) (by omega)
    rw [show F - 1+1=F by omega] at ht hv
    rw [d9a l want hs] at i3
    by_cases he:(b3c l want s).2=0
    · left
      rw [if_pos he] at i3
      obtain ⟨n1,n2⟩:=g2t hsm.mid (by omega) (by omega) i2 hss hsl he
      refine ⟨(i+1,b4c l want s,b3k now s 1048576), ?_,⟨by simp only;omega,n2,i3⟩,by simp only;omega⟩
      rw [he] at ht
      rw [n1] at hv
      generalize (b3c l want s).1=a at ht
      generalize (b0y now s 1048576).1=a2 at hv
      generalize (allE l [] Ls).1.map GOp.pv=X0 at *
      generalize (allE l [] Ls).2.1=a0 at *
      generalize (allE l [] Ls).2.2=b0 at *
      generalize (b4c l want s).map GOp.pv=Y at ht ⊢
      generalize (b3k now s 1048576).map GRow.pv=Z at hv ⊢
      generalize want.map GOp.pv=W at ht ⊢
      generalize now.map GRow.pv=N at hv ⊢
      simp only [b4y] at hg
      simp -implicitDefEqProofs (disch:=omega) only [Rx,simprocAttr,B8x0,k1,ll,hg,ht,hv]
    · right
      rw [if_neg he] at i3
      have e1:((b3c l want s).2==0)=false:=by simpa using he
      have eL:b4c l want s=[]:=by unfold b4c;rw [if_neg he]
      rw [i3]
      refine ⟨_, ?_, ?_,.inr rfl⟩
      · rw [eL] at ht
        generalize (b3c l want s).1=a at ht
        generalize (b3c l want s).2=b at ht e1
        generalize want.map GOp.pv=W at ht
        generalize now.map GRow.pv=N at *
        simp only [b4y,List.map_nil] at hg ht
        simp -implicitDefEqProofs (disch:=omega) only [Rx,simprocAttr,B8x0,k1,ll,hg,ht,e1,hsame]
      · simp
  · right
    obtain rfl:i=Ls.length:=by omega
    have k1:¬ (Ls.length:Int)<(Ls.length:Int):=by omega
    rw [List.drop_length] at i3
    refine ⟨_, ?_, ?_,.inl ⟨want,now,i2,i3,rfl⟩⟩
    · have i3':allE l [] Ls=(want,0,0):=i3
      rw [i3']
      simp only [Int.natCast_zero]
      simp -implicitDefEqProofs (disch:=omega) only [Rx,simprocAttr,B8x0,k1]
    · simp
end Go.TA.Tryz


end
section
/- The law ConcatAll, for every input of bulk at most 1048576: the call returns true, and nothing that was there has changed. -/
namespace Go.Proofs.YtnjblmbobmbgkaaGreatDoor.concatAll
open Go.ChangeShapes Go.WideShapes Go.ChangeAt Go.RowKit Go.TA
theorem own:ownKnob Tryz.prog.godebug=none:=by kernel_rfl
theorem kids:Kids Tryz.prog (· < Tryz.prog.types.size):=kids_rows (by kernel_rfl) (by kernel_rfl)
theorem full:∀ t e,t<Tryz.prog.types.size→Tryz.prog.underlying t=some (.slice e)→0<Tryz.prog.cellsOf e:=slices_full_of Tryz.prog (by kernel_rfl)
theorem bulk {H:Type}:Bulk (H:=H) Rows.uptoBulk Rows.uptoBulkAll where
 str bs:=by simp [Rows.uptoBulk]
 lit l:=by cases l <;> simp [Rows.uptoBulk]
 nil:=by simp [Rows.uptoBulk]
 slice a b:=by simp [Rows.uptoBulk]
 agg a:=by simp [Rows.uptoBulk]
 nilA:=by simp [Rows.uptoBulkAll]
 consA d r:=by simp [Rows.uptoBulkAll]
theorem laidVars_tail {P:Program} {w:World} {x:String × DataW Unit} {r:List (String × DataW Unit)} {ps:List MemPlace} (h:DataW.LaidVars P w (x::r) ps):∃ qs,DataW.LaidVars P w r qs:=by
 obtain ⟨n,d⟩:=x
 obtain ⟨g,t,cs,fuel,p,q,_,_,_,_,hq,_⟩:=h
 exact ⟨q,hq⟩
theorem tab_of_vars {P:Program} {W:World} {name:String} {k:IntKind} {zs:List Int} {rest:List (String × DataW Unit)} {ps:List MemPlace} {g:Nat} {t e:TypeId} {n:Nat}
  (hg:P.globalNamed name=some g) (hty:(P.globals[g]?).map (·.type)=some t) (ht:P.underlying t=some (.array n e)) (he:P.underlying e=some (.int k)) (hce:P.cellsOf e=1) (hct:P.cellsOf t=n)
  (h:DataW.LaidVars P W ((name,Lib.tabData k zs)::rest) ps):Lib.TabIs P W name k zs:=by
 obtain ⟨g',t',cs,fuel,p,q,hg',ht',hvar,hd,_,_⟩:=h
 obtain rfl:=Option.some.inj (hg.symm.trans hg')
 obtain rfl:=Option.some.inj (hty.symm.trans ht')
 unfold Lib.TabIs
 rw [hvar, ← Lib.cells_of_tab ht he hce hct hd]
theorem table {W:World} (h:laidMetH Tryz.prog Rows.concatAllRow.laid W):Lib.TabIs Tryz.prog W "internal/strconv.uint64pow10" .u64 Lib.pow10Tab:=by
 have h':laidMet Tryz.prog Rows.concatAllRow.laid W:=h
 obtain ⟨ps,hv,_⟩:=h'
 obtain ⟨qs,hv⟩:=laidVars_tail hv
 obtain ⟨qs,hv⟩:=laidVars_tail hv
 exact tab_of_vars (g:=0) (t:=176) (e:=167) (n:=20) (rest:=[]) (by kernel_rfl) (by kernel_rfl) (by kernel_rfl) (by kernel_rfl) (by kernel_rfl) (by kernel_rfl) hv
def types:List TypeId:=[59,22,68,23,37,3,9,35,70]
theorem closed:c6i Tryz.prog 9 types=true:=by decide +kernel
theorem shRows:shOf Tryz.prog 9 22=some [.sl 68]:=by decide +kernel
theorem shRow:shOf Tryz.prog 9 68=some (h5z 70):=by decide +kernel
theorem shOps:shOf Tryz.prog 9 23=some [.sl 37]:=by decide +kernel
theorem shOpss:shOf Tryz.prog 9 59=some [.sl 23]:=by decide +kernel
theorem shOp:shOf Tryz.prog 9 37=some (opSh 70):=by decide +kernel
theorem shAttr:shOf Tryz.prog 9 70=some [.str,.str]:=by decide +kernel
theorem params:Tryz.f8.params.toList=[22,59]:=by kernel_rfl
theorem bulk_ops:∀ (L:List GOp),(∀ x ∈ L,b6g x.pv≤b3e (L.map GOp.pv))∧9*L.length≤b3e (L.map GOp.pv)
  | []=>by simp [b3e]
  | a :: l => by
    obtain ⟨h1,h2⟩:=bulk_ops l
    have:=h3y a
    simp only [List.map_cons,b3e,List.length_cons]
    refine ⟨fun b hb => ?_,by omega⟩
    rcases List.mem_cons.1 hb with rfl | hb
    · omega
    · have:=h1 b hb;omega
theorem dec_opss {tb:Nat→Option (List Sh)} {a o:Nat} (ha:tb a=some [.str,.str]) (ho:tb o=some (opSh a)):∀ {xs:List (List PV)},c7m tb [.sl o] xs→∃ Ls:List (List GOp),xs=Ls.map Go.TA.Tryz.b4y
  | [],_=>⟨[],rfl⟩
  | x :: xs, h => by
    simp only [c7m] at h
    obtain ⟨Ls,rfl⟩:=dec_opss ha ho h.2
    obtain ⟨ys,r,rfl,hy,hr⟩:=c4v ho h.1
    obtain rfl:=c6g hr
    obtain ⟨l,rfl,_⟩:=h3q ha hy
    exact ⟨l::Ls,rfl⟩
theorem bulk_opss:∀ (Ls:List (List GOp)),(∀ s ∈ Ls,b3e (s.map GOp.pv)+1≤b3e (Ls.map Go.TA.Tryz.b4y))∧Ls.length≤b3e (Ls.map Go.TA.Tryz.b4y)
  | []=>by simp [b3e]
  | a :: l => by
    obtain ⟨h1,h2⟩:=bulk_opss l
    simp only [List.map_cons,b3e,Go.TA.Tryz.b4y,b6g,PV.bulk,List.length_cons]
    refine ⟨fun b hb => ?_,by omega⟩
    rcases List.mem_cons.1 hb with rfl | hb
    · omega
    · have:=h1 b hb;omega
theorem contract (H:Type) (enc:TypeId × Value→H) (W:World) (base:Nat) (args:Array Value) (ds gs:List (DataW H)) (before:List MemPlace)
  (hval:∀ (j:Nat) t v,Tryz.f8.params[j]? = some t→args[j]? = some v→Value.okWide Tryz.prog W .any base t v)
  (hW:DataW.Whole enc Tryz.prog Tryz.f8.params.toList Rows.concatAllSpec.vars false W args.toList ds gs before) (hk:Rows.uptoSmall H (ds++gs)=true) (hL:laidMetH Tryz.prog Rows.concatAllRow.laid W) :
  Calls Tryz.prog 8 args W fun e W'=>∃ v,e = .returned v∧Rows.concatAllSpec.post enc Tryz.prog Tryz.f8 false true false false W args v W':=by
 have hW':=hW
 obtain ⟨p,q,hA,hV,rfl,_,_⟩:=hW'
 obtain ⟨rfl,rfl⟩:=trodVars_none hV
 rw [List.append_nil] at hk
 have hbound:Rows.uptoBulkAll ds≤1048576:=of_decide_eq_true hk
 have hlen:=g2m hA
 rw [params] at hA hlen
 obtain ⟨pss,h1,h2,h3,h4⟩:=g4u (gs:=types) (D0:=9) kids full bulk closed hA (by decide) (fun j t v hj hv=>⟨_,_,hval j t v (by rw [← Array.getElem?_toList,params];exact hj) (by simpa using hv)⟩)
 match pss,h1 with
 | [ps1,ps2],h1=>
 obtain ⟨⟨shs1,hs1,hok1⟩,⟨shs2,hs2,hok2⟩,_⟩:=h1
 rw [shRows] at hs1
 rw [shOpss] at hs2
 simp only [Option.some.injEq] at hs1 hs2
 subst hs1 hs2
 obtain ⟨xs1,r1,rfl,hx1,hr1⟩:=c4v shRow hok1
 obtain rfl:=c6g hr1
 obtain ⟨l1,rfl,hl1⟩:=g4j shAttr hx1
 obtain ⟨xs2,r2,rfl,hx2,hr2⟩:=c4v shOps hok2
 obtain rfl:=c6g hr2
 obtain ⟨l2,rfl⟩:=dec_opss shAttr shOp hx2
 have hb1:b3e (l1.map GRow.pv)<1048577:=by simp only [b3e,b6g,PV.bulk] at h2;omega
 have hb2:b3e (l2.map Go.TA.Tryz.b4y)≤1048575:=by simp only [b3e,b6g,PV.bulk] at h2;omega
 obtain ⟨fuel,hrun⟩:=Go.TA.Tryz.d5g l1 l2 (g5j hb1 (Nat.le_refl _)) (fun s hs=>by
  have hb:=(bulk_opss l2).1 s hs
  exact ⟨by have:=(bulk_ops s).2;omega,fun x hx=>(Go.TA.Tryz.g5k (n:=1048576) (by have:=(bulk_ops s).1 x hx;omega) (Nat.le_refl _)).1⟩) (by have:=(bulk_opss l2).2;omega)
 have ha0:aggT Tryz.prog 22=false:=by decide +kernel
 have ha1:aggT Tryz.prog 59=false:=by decide +kernel
 have hargs:c2k Tryz.prog [22,59] [[.list (l1.map GRow.pv)],[.list (l2.map Go.TA.Tryz.b4y)]]=[.list (l1.map GRow.pv),.list (l2.map Go.TA.Tryz.b4y)]:=by simp [c2k,h8k,ha0,ha1]
 rw [hargs] at h3 h4
 refine (d7j (g8x (table hL)) Go.TA.Tryz.c2d (Go.TA.Tryz.j5u W) (ps:=[.list (l1.map GRow.pv),.list (l2.map Go.TA.Tryz.b4y)]) hrun (by simpa using h3) h4).mono fun e W' ⟨he,hB⟩=>⟨_,he, ?_⟩
 refine h7b kids full hW rfl (tb:=4) rfl (by kernel_rfl) (by rw [params];decide +kernel) ?_ hB
 match ds,hlen with
 | [d1,d2],_=>rfl
def wargs:Array Value := #[.slice none 0 0,.slice none 0 0]
def put (k:IntKind) (zs:List Int):Obj→Obj
 | .cells _ t frozen => .cells (zs.map fun z=>Value.int k z).toArray t frozen
 | o=>o
def bits32:List Int:=[0,1,28,2,29,14,24,3,30,22,20,15,25,17,4,8,31,27,13,23,21,19,16,7,26,12,18,6,11,5,10,9]
def bits64:List Int:=[0,1,56,2,57,49,28,3,61,58,42,50,38,29,17,4,62,47,59,36,45,43,51,22,53,39,33,30,24,18,12,5,63,55,48,27,60,41,37,16,46,35,44,21,52,32,23,11,54,26,40,15,34,20,31,10,25,14,19,9,13,8,7,6]
noncomputable def laidWorld (os:Os):World :=
 { World.holding Tryz.prog os ⟨#[], #[],[]⟩ with heap:=(((World.holding Tryz.prog os ⟨#[], #[],[]⟩).heap.modify 0 (put .u64 Lib.pow10Tab)).modify 2 (put .u8 bits32)).modify 3 (put .u8 bits64) }
theorem laid_met (os:Os):laidMet Tryz.prog Rows.concatAllRow.laid ((laidWorld os).forCall (fun _ _=>0) ⟨#[],wargs,[]⟩).memory :=
 laidMet_of_run' 8 (by kernel_rfl) (by kernel_rfl)
theorem reads (os:Os) {H:Type} (enc:TypeId × Value→H):∃ places,DataW.whole enc Tryz.prog ((laidWorld os).forCall (fun _ _=>0) ⟨#[],wargs,[]⟩).memory Tryz.f8.params.toList Rows.concatAllSpec.vars false wargs.toList 8=some ([.nil,.nil],[],places) :=
 ⟨[],by kernel_rfl⟩
theorem liftedUpto (os:Os) (started:os.Started) (H:Type) (enc:TypeId × Value→H) (F:Stop.Interp) :
  ReturnsInHanded {} Tryz.checked os 8 .any ((Rows.OpenSpec.upto Rows.concatAllSpec).preRow enc Tryz.prog Tryz.f8 Rows.concatAllUptoRow.domain false Rows.concatAllUptoRow.laid) (((Rows.OpenSpec.upto Rows.concatAllSpec).at F).post enc Tryz.prog Tryz.f8 false true false false):=by
 obtain ⟨places,hx⟩:=reads os enc
 refine returnsInHanded_of_row (C:=Tryz.checked) (s:=Rows.OpenSpec.upto Rows.concatAllSpec) own started (by kernel_rfl) Tryz.func8
  (witness_row_at (enc:=enc) (C:=Tryz.checked) false (laidWorld os) wargs rfl (by kernel_rfl) (by kernel_rfl) (by kernel_rfl)
   (OpenSpec.preRow_of_cond 8 hx (by kernel_rfl) (fun k hk=>by cases hk;kernel_rfl) (by kernel_rfl) (laid_met os))) ?_
 intro W base args ds gs before hval hW _ hcond _ hL _ _
 exact contract H enc W base args ds gs before hval hW (hcond _ rfl) hL
theorem saidUpto:Rows.ConcatAllUptoSaid :=
 OpenClaim.holds_of_cond 8 Tryz.f8 rfl rfl rfl rfl rfl rfl rfl ⟨rfl,rfl,rfl,rfl,rfl⟩ rfl rfl rfl rfl rfl (by kernel_rfl) Tryz.func8 (by kernel_rfl)
  (of_decide_eq_true (by kernel_rfl)) (by unfold Func.isWrapper;first | (rw [if_pos (by decide +kernel)];kernel_rfl) | (rw [if_neg (by decide +kernel)];exact ⟨rfl,rfl⟩))
  (fun os started H enc _ F=>by rw [OpenClaim.pre_eq_preRow];exact liftedUpto os started H enc F)
theorem plain (f:FuncId) (fn:Func) (hf:Tryz.pinned.checked.prog.funcNamed "tendril/tendrillaw31.ConcatAll" = some f) (hfn:Tryz.pinned.checked.prog.funcs[f]? = some fn) :
  false=Tryz.pinned.checked.prog.looks []∧∀ (j:Nat) t,fn.params[j]? = some t→Tryz.pinned.checked.prog.wantsStandIn t=false:=by
 obtain rfl:f=8:=Option.some.inj ((show Tryz.prog.funcNamed "tendril/tendrillaw31.ConcatAll" = some 8 by kernel_rfl).symm.trans hf) |>.symm
 obtain rfl:fn=Tryz.f8:=(Option.some.inj (Tryz.func8.symm.trans hfn)).symm
 refine ⟨by kernel_rfl,fun j t ht => ?_⟩
 have hm:t ∈ [22,59]:=by
  rw [← params]
  exact Array.mem_toList_iff.2 (Array.mem_of_getElem? ht)
 have hall:[22,59].all (fun t=>Tryz.prog.wantsStandIn t==false)=true:=by kernel_rfl
 exact beq_iff_eq.1 (List.all_eq_true.1 hall t hm)
theorem holds:Rows.ConcatAllUptoCardSaid :=
 Claim7.holds_tied_plain_at .later [] _ _ _ _ saidUpto (fun _ h=>by cases h) (by kernel_rfl) (fun _ h=>by cases h) concatAllUpto_row_tie rfl ⟨rfl,rfl⟩ (by kernel_rfl) rfl plain (by kernel_rfl)
end Go.Proofs.YtnjblmbobmbgkaaGreatDoor.concatAll


end
