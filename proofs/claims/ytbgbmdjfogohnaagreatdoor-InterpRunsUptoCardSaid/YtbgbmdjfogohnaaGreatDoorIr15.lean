/- Part 15 of 15 of a proof; joined from MBelow, MRowsP, IrnDocRead, IrnRRead, IrnAttrsEq, IrnPlainEq, IrnIntsEq, StepsAttrs, IrnFewR, IrnSame29, IrnInterpLaw, IrnInterpRunsFin. The law InterpRuns, for every input of bulk at most 1048576: the call returns true, and nothing that was there has changed. -/
import Derived.Test.YtbgbmdjfogohnaaGreatDoorIr7
import Derived.Test.YtbgbmdjfogohnaaGreatDoorIr1
import Derived.Test.YtbgbmdjfogohnaaGreatDoorIr11
import Derived.Test.YtbgbmdjfogohnaaGreatDoorIr13
import Derived.Test.YtbgbmdjfogohnaaGreatDoorIr6
import Derived.Test.YtbgbmdjfogohnaaGreatDoorIr10
import Derived.Test.YtbgbmdjfogohnaaGreatDoorIr14
import Derived.Test.YtbgbmdjfogohnaaGreatDoorCards
import Derived.Test.YtbgbmdjfogohnaaGreatDoorTie
import Derived.WalkKit
import Derived.ProofKit
import Derived.OpenShut
import Derived.JoinedCond
import Derived.Deep.DeepHandedRow
import Derived.Lib.LaidTab
set_option linter.unusedSimpArgs false
set_option linter.unusedVariables false
set_option linter.defProp false
set_option maxRecDepth 100000
set_option maxHeartbeats 8000000
section
/- The rows of all below a node. Plain. -/
namespace Go.TA
def rowM (S:MS) (k up:Int):GRow:=⟨k,up,(S.st k.toNat).tag,(S.st k.toNat).key,(S.st k.toNat).text,(S.st k.toNat).attrs⟩
def belowM (S:MS):Nat→List GRow→Int→Int→List GRow
 | 0,out,_,_=>out
 | d+1,out,h,up=>(S.kd h.toNat).foldl (fun out k=>belowM S d (out++[rowM S k up]) k ((out.length:Int)+1)) out
def stepM (S:MS) (d:Nat) (up:Int) (out:List GRow) (k:Int):List GRow:=belowM S d (out++[rowM S k up]) k ((out.length:Int)+1)
def outI (S:MS) (d:Nat) (out:List GRow) (h:Nat) (up:Int) (i:Nat):List GRow:=((S.kd h).take i).foldl (stepM S d up) out
theorem outI_zero (S:MS) (d:Nat) (out:List GRow) (h:Nat) (up:Int):outI S d out h up 0=out:=rfl
theorem outI_succ {S:MS} {d:Nat} {out:List GRow} {h:Nat} {up:Int} {i:Nat} {k:Int} (hk:(S.kd h)[i]? = some k):outI S d out h up (i+1)=belowM S d (outI S d out h up i++[rowM S k up]) k (((outI S d out h up i).length:Int)+1):=by
 unfold outI
 rw [List.take_add_one,hk,List.foldl_append]
 rfl
theorem outI_all (S:MS) (d:Nat) (out:List GRow) (h:Nat) (up:Int):outI S d out h up (S.kd h).length=belowM S (d+1) out (h:Int) up:=by
 unfold outI
 rw [List.take_length,belowM,Int.toNat_natCast]
 rfl
structure PreO (S:MS) (out:List GRow) (h:Nat):Prop where
 nodup:(out.map GRow.id).Nodup
 rng:∀ x ∈ out,∃ c:Nat,x.id=(c:Int)∧c<S.N
 away:∀ x ∈ out,∀ c:Nat,x.id=(c:Int)→c≠h→¬ Below S (h:Int) (c:Int)
structure PostO (S:MS) (out:List GRow) (h:Nat) (out':List GRow):Prop where
 nodup:(out'.map GRow.id).Nodup
 rng:∀ x ∈ out',∃ c:Nat,x.id=(c:Int)∧c<S.N
 more:∃ more,out'=out++more∧∀ x ∈ more,∃ c:Nat,x.id=(c:Int)∧c<S.N∧c≠h∧Below S (h:Int) (c:Int)
theorem PostO.len {S:MS} {out out':List GRow} {h:Nat} (p:PostO S out h out'):out'.length≤S.N:=by
 have:=nodup_len S.N (out'.map GRow.id) p.nodup (fun k hk=>by
  obtain ⟨x,hx,rfl⟩:=List.mem_map.1 hk
  exact p.rng x hx)
 rwa [List.length_map] at this
section
variable {R:Nat} {S:MS} (hS:S.Ok R)
include hS
theorem kid_strict {h c:Nat} (hc:c<S.N) (hu:(S.st c).up=(h:Int)):c≠h:=by
 obtain ⟨r,_,hr⟩:=hS.rank
 have:=hr c h hc hu
 intro e;subst e;omega
theorem kid_pre {out : List GRow} {h i : Nat} {out1 : List GRow} {c : Nat} (up : Int) (hh : h < S.N) (hp : PreO S out h) (h1 : PostO S out h out1) (hm : ∀ more, out1 = out ++ more → ∀ x ∈ more, ∃ j, j < i ∧ ∃ k, (S.kd h)[j]? = some k ∧ Below S k x.id) (hk : (S.kd h)[i]? = some (c : Int)) (hc : c < S.N) (hu : (S.st c).up = (h : Int)) : PreO S (out1 ++ [rowM S (c : Int) up]) c := by
  have hkm:=List.mem_of_getElem? hk
  obtain ⟨more,hmore,hmo⟩:=h1.more
  have hst:=kid_strict hS hc hu
  have hmm:=hm more hmore
  have hkb:∀ y:Int,Below S (c:Int) y→Below S (h:Int) y:=fun y hb=>kid_below hS hh hkm hb
  have hap:∀ x ∈ more,¬ Below S (c:Int) x.id:=fun x hx hb=>by
    obtain ⟨j,hj,k,hk',hb'⟩:=hmm x hx
    have:=kids_apart hS hh hkm (List.mem_of_getElem? hk') hb hb'
    subst this
    have hjl:=(List.getElem?_eq_some_iff.1 hk').1
    have:=(List.getElem?_inj hjl (hS.nodup h hh)).1 (hk'.trans hk.symm)
    omega
  refine ⟨?_, ?_, ?_⟩
  · rw [List.map_append,List.nodup_append]
    refine ⟨h1.nodup,by simp,fun a ha b hb => ?_⟩
    simp only [List.map_cons,List.map_nil,List.mem_singleton,rowM] at hb
    subst hb
    obtain ⟨x,hx,rfl⟩:=List.mem_map.1 ha
    intro e
    rw [hmore] at hx
    rcases List.mem_append.1 hx with hx | hx
    · exact hp.away x hx c e hst (hkb _ .here)
    · exact hap x hx (by rw [e];exact .here)
  · intro x hx
    rcases List.mem_append.1 hx with hx | hx
    · exact h1.rng x hx
    · simp at hx;subst hx;exact ⟨c,rfl,hc⟩
  · intro x hx y hy hne hb
    rcases List.mem_append.1 hx with hx | hx
    · rw [hmore] at hx
      rcases List.mem_append.1 hx with hx | hx
      · refine hp.away x hx y hy (fun e => ?_) (hkb _ hb)
        subst e
        obtain ⟨r,_,hr⟩:=hS.rank
        have:=below_rank hS hr hb y rfl hh
        have:=hr c y hc hu
        omega
      · exact hap x hx (by rw [hy];exact hb)
    · simp at hx
      subst hx
      simp only [rowM] at hy
      omega
theorem post_of {out : List GRow} {d h i : Nat} {up : Int} (hh : h < S.N) (hp : PreO S out h) (hi : i < (S.kd h).length)
    (ih:PostO S out h (outI S d out h up i)∧∀ more,outI S d out h up i=out++more→∀ x ∈ more,∃ j,j<i∧∃ k,(S.kd h)[j]? = some k∧Below S k x.id)
    (hb:∀ (out:List GRow) (c:Nat) (up:Int),c<S.N→PreO S out c→PostO S out c (belowM S d out (c:Int) up)) :
    PostO S out h (outI S d out h up (i+1))∧∀ more,outI S d out h up (i+1)=out++more→∀ x ∈ more,∃ j,j<i+1∧∃ k,(S.kd h)[j]? = some k∧Below S k x.id:=by
  obtain ⟨h1,h2⟩:=ih
  obtain ⟨k,hk⟩:∃ k,(S.kd h)[i]? = some k:=⟨_,List.getElem?_eq_getElem (by omega)⟩
  have hkm:=List.mem_of_getElem? hk
  obtain ⟨c,rfl,hc,_,hu⟩:=hS.kids h hh k hkm
  have hpre:=kid_pre hS up hh hp h1 h2 hk hc hu
  have hpost:=hb _ c (((outI S d out h up i).length:Int)+1) hc hpre
  rw [← outI_succ hk] at hpost
  obtain ⟨more1,e1,m1⟩:=h1.more
  obtain ⟨more2,e2,m2⟩:=hpost.more
  have e3:outI S d out h up (i+1)=out++(more1++[rowM S (c:Int) up]++more2):=by rw [e2,e1];simp
  have hstr:=kid_strict hS hc hu
  refine ⟨⟨hpost.nodup,hpost.rng,_,e3,fun x hx => ?_⟩,fun more hm x hx => ?_⟩
  · rcases List.mem_append.1 hx with hx | hx
    · rcases List.mem_append.1 hx with hx | hx
      · exact m1 x hx
      · simp at hx;subst hx
        exact ⟨c,rfl,hc,hstr,kid_below hS hh hkm .here⟩
    · obtain ⟨y,hy,hyN,_,hyb⟩:=m2 x hx
      refine ⟨y,hy,hyN,fun e => ?_,kid_below hS hh hkm hyb⟩
      subst e
      obtain ⟨r,_,hr⟩:=hS.rank
      have:=below_rank hS hr hyb y rfl hh
      have:=hr c y hc hu
      omega
  · have:more=more1++[rowM S (c:Int) up]++more2:=by
      rw [e3] at hm
      exact (List.append_cancel_left hm).symm
    subst this
    rcases List.mem_append.1 hx with hx | hx
    · rcases List.mem_append.1 hx with hx | hx
      · obtain ⟨j,hj,r⟩:=h2 more1 e1 x hx
        exact ⟨j,by omega,r⟩
      · simp at hx;subst hx
        exact ⟨i,by omega,_,hk,.here⟩
    · obtain ⟨y,hy,_,_,hyb⟩:=m2 x hx
      exact ⟨i,by omega,_,hk,by rw [hy];exact hyb⟩
theorem post_zero {out:List GRow} {d h:Nat} {up:Int} (hp:PreO S out h):PostO S out h (outI S d out h up 0)∧∀ more,outI S d out h up 0=out++more→∀ x ∈ more,∃ j,j<0∧∃ k,(S.kd h)[j]? = some k∧Below S k x.id:=by
 have _:=hS
 refine ⟨⟨hp.nodup,hp.rng,[],by simp [outI_zero],by simp⟩,fun more hm x hx => ?_⟩
 rw [outI_zero] at hm
 have:more=[]:=by simpa using hm
 subst this;simp at hx
theorem below_post:∀ (d:Nat) (out:List GRow) (h:Nat) (up:Int),h<S.N→PreO S out h→PostO S out h (belowM S d out (h:Int) up)
  | 0,out,h,up,hh,hp=>⟨hp.nodup,hp.rng,[],by simp [belowM],by simp⟩
  | d + 1, out, h, up, hh, hp => by
    rw [← outI_all]
    have key:∀ i,i≤(S.kd h).length→PostO S out h (outI S d out h up i)∧∀ more,outI S d out h up i=out++more→∀ x ∈ more,∃ j,j<i∧∃ k,(S.kd h)[j]? = some k∧Below S k x.id:=by
      intro i
      induction i with
      | zero=>exact fun _=>post_zero hS hp
      | succ i ih=>exact fun hi=>post_of hS hh hp (by omega) (ih (by omega)) (fun out c up hc hp=>below_post d out c up hc hp)
    exact (key _ (Nat.le_refl _)).1
theorem post_all {out:List GRow} {d h:Nat} {up:Int} (hh:h<S.N) (hp:PreO S out h):∀ i,i≤(S.kd h).length→PostO S out h (outI S d out h up i)∧∀ more,outI S d out h up i=out++more→∀ x ∈ more,∃ j,j<i∧∃ k,(S.kd h)[j]? = some k∧Below S k x.id:=by
 intro i
 induction i with
 | zero=>exact fun _=>post_zero hS hp
 | succ i ih=>exact fun hi=>post_of hS hh hp (by omega) (ih (by omega)) (fun out c up hc hp=>below_post hS d out c up hc hp)
end
end Go.TA


end
section
/- A machine's rows, and its loose nodes. Plain. -/
namespace Go.TA
def rowsM (S:MS) (R:Nat):List GRow:=belowM S (R+1) [] 0 0
theorem pre_nil {S:MS}:PreO S [] 0:=⟨by simp,by simp,by simp⟩
theorem rowsM_len {R:Nat} {S:MS} (hS:S.Ok R) (R':Nat):(rowsM S R').length≤S.N:=(below_post hS (R'+1) [] 0 0 hS.pos pre_nil).len
def looseM (S:MS):List Int:=((liveL S).filter fun h:Nat => !(h==0) && decide ((S.st h).up<0)).map fun h:Nat=>(h:Int)
end Go.TA


end
section
/- A document: its rows. -/
namespace Go.TA
namespace Tryz
def rdG (g:List AObj) (pd:Nat) (X:List (List PV)) (n:Nat):List AObj :=
 g++[.cells 1 [[DocP pd]],.pcells 6 X,.cells 1 [[.own true (g.length+1) n]],.cells 1 [[.func 82 [BP g.length,BP (g.length+2),BP (g.length+3)]]]]
section
variable (g:List AObj) (pd:Nat) (X:List (List PV)) (n:Nat)
theorem rdG0:(rdG g pd X n)[g.length]? = some (.cells 1 [[DocP pd]]):=by simp [rdG]
theorem rdG1:(rdG g pd X n)[g.length+1]? = some (.pcells 6 X):=by simp [rdG]
theorem rdG2:(rdG g pd X n)[g.length+2]? = some (.cells 1 [[.own true (g.length+1) n]]):=by simp [rdG]
theorem rdG3:(rdG g pd X n)[g.length+3]? = some (.cells 1 [[.func 82 [BP g.length,BP (g.length+2),BP (g.length+3)]]]):=by simp [rdG]
theorem rdS1 (Y:List (List PV)):(rdG g pd X n).set (g.length+1) (.pcells 6 Y)=rdG g pd Y n:=by simp [rdG,List.set_append]
theorem rdS2 (m:Nat):(rdG g pd X n).set (g.length+2) (.cells 1 [[.own true (g.length+1) m]])=rdG g pd X m:=by simp [rdG,List.set_append]
end
section
variable {R:Nat} {S:MS} {it nd:Nat→Nat} {I:Nat→LK} {pd pm:Nat} {g:List AObj}
theorem read_body (hS : S.Ok R) (hN : S.N ≤ 8589934592) (hI : LinkOk S I) (hD : DocAt (liveL S) S.st S.N it nd I pd pm g) (hL : (liveL S).length ≤ 4194304) (m : Nat) (hm : (liveL S).length + 1 < m) (d h : Nat) (up : Int) (out : List GRow) (hh : h ∈ liveL S) (hp : PreO S out h) (hol : out.length ≤ S.N)
    (ih:∀ c:Nat,c ∈ liveL S→(S.st c).up=(h:Int)→∀ (out:List GRow) (up:Int),out.length≤S.N→PreO S out c→acall T m 82 [IP it c,.p (.int .i64 up),BP g.length,BP (g.length+2),BP (g.length+3)] (rdG g pd (out.map GRow.pv) out.length)=some (.tuple [],rdG g pd ((belowM S d out (c:Int) up).map GRow.pv) (belowM S d out (c:Int) up).length)) :
    acall T (m+1) 82 [IP it h,.p (.int .i64 up),BP g.length,BP (g.length+2),BP (g.length+3)] (rdG g pd (out.map GRow.pv) out.length)=some (.tuple [],rdG g pd ((belowM S (d+1) out (h:Int) up).map GRow.pv) (belowM S (d+1) out (h:Int) up).length):=by
  have hhN:=(mem_liveL.1 hh).1
  have hDX:∀ X n,DocAt (liveL S) S.st S.N it nd I pd pm (rdG g pd X n):=fun X n=>hD.more _
  have hl:=hI.kids h hh
  have hkd:(kidsN S h).length=(S.kd h).length:=by simp [kidsN]
  have hkl:=kd_len hS hhN
  have hinv:=post_all hS (d:=d) (up:=up) hhN hp
  have hloop:aexec (acall T m) m (.loop B82x0) ⟨[(1,.p (.int .i64 up)),(2,BP g.length),(3,BP (g.length+2)),(4,BP (g.length+3)),(7,iAV it (kidsN S h)[0]?)],[],rdG g pd (out.map GRow.pv) out.length⟩=some (.exit 0,⟨[],[],rdG g pd ((belowM S (d+1) out (h:Int) up).map GRow.pv) (belowM S (d+1) out (h:Int) up).length⟩):=by
    have key:=loop_inv (C:=acall T m) (N:=m) (B:=B82x0) (σ := Nat) (S:=fun i=>⟨[(1,.p (.int .i64 up)),(2,BP g.length),(3,BP (g.length+2)),(4,BP (g.length+3)),(7,iAV it (kidsN S h)[i]?)],[],rdG g pd ((outI S d out h up i).map GRow.pv) (outI S d out h up i).length⟩)
      (I:=fun i=>i≤(S.kd h).length) (μ := fun i=>(S.kd h).length - i) (Q:=fun z=>z=(.exit 0,⟨[],[],rdG g pd ((belowM S (d+1) out (h:Int) up).map GRow.pv) (belowM S (d+1) out (h:Int) up).length⟩)) ?_ 0 (by omega) (by omega)
    · obtain ⟨z,hz,rfl⟩:=key
      rw [outI_zero] at hz
      exact hz
    intro i hi
    by_cases hil:i<(S.kd h).length
    · left
      obtain ⟨k,hk⟩:∃ k,(S.kd h)[i]? = some k:=⟨_,List.getElem?_eq_getElem hil⟩
      have hkm:=List.mem_of_getElem? hk
      obtain ⟨c,rfl,hc,hcl,hcu⟩:=hS.kids h hhN k hkm
      have hcL:c ∈ liveL S:=mem_liveL.2 ⟨hc,hcl⟩
      have hkN:(kidsN S h)[i]? = some c:=by simp [kidsN,hk]
      obtain ⟨hpo,hpm⟩:=hinv i hi
      have hpre:=kid_pre hS up hhN hp hpo hpm hk hc hcu
      have hol1:=hpo.len
      have ho1:=outI_succ (S:=S) (d:=d) (out:=out) (up:=up) hk
      have hol2:(outI S d out h up i++[rowM S (c:Int) up]).length≤S.N:=by
        have:=nodup_len S.N _ hpre.nodup (fun k hk=>by
          obtain ⟨x,hx,rfl⟩:=List.mem_map.1 hk
          exact hpre.rng x hx)
        rwa [List.length_map] at this
      have ihc:=ih c hcL hcu _ (((outI S d out h up i).length:Int)+1) hol2 hpre
      rw [← ho1] at ihc
      refine ⟨i+1, ?_,by omega,by omega⟩
      have hnx:(I c).n=(kidsN S h)[i+1]? := hl.next i c hkN
      have hne:=fun X n=>next_run (hDX X n) hcL (m - 1)
      have hma:=fun X n=>mark_run (hDX X n) hcL (m - 1)
      have hcl:=cloneA_run (S.st c).attrs (hS.attrs c hc) [] (m - 1)
      rw [show m - 1+1=m by omega] at hne hma hcl
      simp only [hnx] at hne
      have gd:=fun X n=>(hDX X n).doc
      have gm:=fun X n=>(hDX X n).map
      have gn:=fun X n=>(hDX X n).nodes c hcL
      simp only [nodeC] at gn
      have hky:=mapD_keys (liveL S) nd (c:Int)
      have hlk:mlk 1 (mapD (liveL S) nd) (.int .i64 (c:Int))=some (NP nd c):=by
        rw [mlk_mapD,if_pos ⟨by simpa using hcL,by omega⟩,Int.toNat_natCast]
      have r0:=fun X n=>rdG0 g pd X n
      have r1:=fun X n=>rdG1 g pd X n
      have r2:=fun X n=>rdG2 g pd X n
      have r3:=fun X n=>rdG3 g pd X n
      have s1:=fun X n Y=>rdS1 g pd X n Y
      have s2:=fun X n k=>rdS2 g pd X n k
      have os:(outI S d out h up i).map GRow.pv++[[.int .i64 (c:Int),.int .i64 up,.str (S.st c).tag,.str (S.st c).key,.str (S.st c).text,.list ((S.st c).attrs.map Attr.pv)]]=(outI S d out h up i++[rowM S (c:Int) up]).map GRow.pv:=by
        rw [List.map_append];rfl
      rw [hkN]
      generalize outI S d out h up i=o1 at hol1 hol2 ihc os ⊢
      generalize outI S d out h up (i+1)=o2 at ihc ⊢
      have ol1:(o1.map GRow.pv).length=o1.length:=by simp
      have ol2:(o1++[rowM S (c:Int) up]).length=o1.length+1:=by simp
      rw [ol2] at ihc
      have ol3:((o1++[rowM S (c:Int) up]).map GRow.pv).length=o1.length+1:=by simp
      generalize o1++[rowM S (c:Int) up]=o3 at os ihc ol3
      generalize (kidsN S h)[i+1]? = z at hne ⊢
      simp -implicitDefEqProofs (disch:=omega) only [Rx,simprocAttr,B82x0,iAVs,iAVe,hma,hne,hcl,gd,gm,gn,hky,hlk,r0,r1,r2,r3,s1,s2,os,ol1,ol3,ihc,ofCells,PV.sameLL_self,Option.getD_some]
    · right
      obtain rfl:i=(S.kd h).length:=by omega
      refine ⟨_, ?_, ?_,rfl⟩
      · rw [outI_all, ← hkd,List.getElem?_eq_none_iff.2 (Nat.le_refl _)]
        generalize belowM S (d+1) out (h:Int) up=o1
        simp -implicitDefEqProofs (disch:=omega) only [Rx,simprocAttr,B82x0,iAVs]
      · simp
  have hfi:=fun X n=>first_run (hDX X n) hh (m - 1)
  rw [show m - 1+1=m by omega,hl.first] at hfi
  rw [acall_code T82,run_code rfl rfl]
  generalize belowM S (d+1) out (h:Int) up=o2 at hloop ⊢
  generalize (kidsN S h)[0]? = z at hfi hloop
  simp -implicitDefEqProofs (disch:=omega) only [Rx,simprocAttr,F82,hfi,hloop,iAVe]
theorem read_gen (hS:S.Ok R) (hN:S.N≤8589934592) (hI:LinkOk S I) (hD:DocAt (liveL S) S.st S.N it nd I pd pm g) (hL:(liveL S).length≤4194304) {r:Nat→Nat} (hr1:∀ c,c<S.N→r c≤R) (hr2:∀ c p:Nat,c<S.N→(S.st c).up=(p:Int)→r p<r c) (n:Nat) (hn:(liveL S).length+1<n) :
    ∀ (d h : Nat) (up : Int) (out : List GRow), h ∈ liveL S → R ≤ r h + d → out.length ≤ S.N → PreO S out h →
      acall T (n+d+1) 82 [IP it h,.p (.int .i64 up),BP g.length,BP (g.length+2),BP (g.length+3)] (rdG g pd (out.map GRow.pv) out.length)=some (.tuple [],rdG g pd ((belowM S (d+1) out (h:Int) up).map GRow.pv) (belowM S (d+1) out (h:Int) up).length):=by
  intro d
  induction d with
  | zero =>
    intro h up out hh hR hol hp
    exact read_body hS hN hI hD hL n hn 0 h up out hh hp hol (fun c hc hcu=>by
      have:=hr1 c (mem_liveL.1 hc).1
      have:=hr2 c h (mem_liveL.1 hc).1 hcu
      omega)
  | succ d ih =>
    intro h up out hh hR hol hp
    exact read_body hS hN hI hD hL (n+d+1) (by omega) (d+1) h up out hh hp hol (fun c hc hcu out up hol hp=>by
      have:=hr2 c h (mem_liveL.1 hc).1 hcu
      exact ih c up out hc (by omega) hol hp)
theorem docRead_run (hD:Doc R S it nd I pd pm g) (hN:S.N≤8589934592) (hL:(liveL S).length≤4194304) {n:Nat} (hn:(liveL S).length+1<n) :
  acall T (n+R+2) 33 [DocP pd] g=some (.own true (g.length+1) (rowsM S R).length,rdG g pd ((rowsM S R).map GRow.pv) (rowsM S R).length):=by
 obtain ⟨hS,hI,hA⟩:=hD
 obtain ⟨r,hr1,hr2⟩:=hS.rank
 have h0:(0:Nat) ∈ liveL S:=mem_liveL.2 ⟨hS.pos,hS.top.1⟩
 have hr:=read_gen hS hN hI hA hL hr1 hr2 n hn R 0 0 [] h0 (by omega) (by simp) pre_nil
 simp only [Int.natCast_zero,List.map_nil,List.length_nil] at hr
 have e1:g++[AObj.cells 1 [[DocP pd]]]++[AObj.pcells 6 []]++[AObj.cells 1 [[.own true (g.length+1) 0]]]++[AObj.cells 1 [[.func 82 [BP g.length,BP (g.length+2),BP (g.length+3)]]]]=rdG g pd [] 0:=by simp [rdG]
 have hDX:=hA.more [.cells 1 [[DocP pd]],.pcells 6 [],.cells 1 [[.own true (g.length+1) 0]],.cells 1 [[.func 82 [BP g.length,BP (g.length+2),BP (g.length+3)]]]]
 have hDX:DocAt (liveL S) S.st S.N it nd I pd pm (rdG g pd [] 0):=hDX
 have gd:=hDX.doc
 have gm:=hDX.map
 have gn:=hDX.nodes 0 h0
 simp only [nodeC] at gn
 have hky:=mapD_keys (liveL S) nd 0
 have hlk:mlk 1 (mapD (liveL S) nd) (.int .i64 0)=some (NP nd 0):=by
  rw [mlk_mapD,if_pos ⟨by simpa using h0,by omega⟩];rfl
 have r0:=rdG0 g pd [] 0
 have r3:=rdG3 g pd [] 0
 rw [acall_code T33,run_code rfl rfl]
 unfold rowsM
 generalize belowM S (R+1) [] 0 0=o at hr ⊢
 have r2:=rdG2 g pd (o.map GRow.pv) o.length
 have q1:(g++[AObj.cells 1 [[DocP pd]],AObj.pcells 6 [],AObj.cells 1 [[.own true (g.length+1) 0]],AObj.pcells 1 [[.nilf]]])[g.length+3]? = some (.pcells 1 [[.nilf]]):=by simp
 have q0:(g++[AObj.cells 1 [[DocP pd]],AObj.pcells 6 [],AObj.cells 1 [[.own true (g.length+1) 0]]])[g.length]? = some (.cells 1 [[DocP pd]]):=by simp
 have q2:(g++[AObj.cells 1 [[DocP pd]],AObj.pcells 6 [],AObj.cells 1 [[.own true (g.length+1) 0]],AObj.pcells 1 [[.nilf]]]).set (g.length+3) (.cells 1 [[.func 82 [BP g.length,BP (g.length+2),BP (g.length+3)]]])=rdG g pd [] 0:=by simp [rdG,List.set_append]
 simp -implicitDefEqProofs (disch:=omega) only [Rx,simprocAttr,F33,q0,q1,q2,hr,gd,gm,gn,hky,hlk,r0,r2,r3,Option.getD_some,List.append_assoc,List.length_append]
end
end Tryz
end Go.TA


end
section
/- The document's answer: its rows, its loose nodes. -/
namespace Go.TA
namespace Tryz
section
variable {R:Nat} {S:MS} {nx:Int} {av:Nat→AV} {p q:Nat} {g:List AObj}
theorem bel_body (hS : S.Ok R) (hN : S.N ≤ 8589934592) (hD : DM (liveL S) S.st S.kd nx av p q g) (hL : (liveL S).length ≤ 4194304) (m : Nat) (hm : (liveL S).length + 1 < m) (d h : Nat) (up : Int) (out : List GRow) (hh : h ∈ liveL S) (hp : PreO S out h) (hol : out.length ≤ S.N)
    (ih:∀ c:Nat,c ∈ liveL S→(S.st c).up=(h:Int)→∀ (out:List GRow) (up:Int),out.length≤S.N→PreO S out c→acall T m 86 [DP p,.own true g.length out.length,.p (.int .i64 c),.p (.int .i64 up)] (g++[.pcells 6 (out.map GRow.pv)])=some (.own true g.length (belowM S d out (c:Int) up).length,g++[.pcells 6 ((belowM S d out (c:Int) up).map GRow.pv)])) :
    acall T (m+1) 86 [DP p,.own true g.length out.length,.p (.int .i64 h),.p (.int .i64 up)] (g++[.pcells 6 (out.map GRow.pv)])=some (.own true g.length (belowM S (d+1) out (h:Int) up).length,g++[.pcells 6 ((belowM S (d+1) out (h:Int) up).map GRow.pv)]):=by
  have hhN:=(mem_liveL.1 hh).1
  have hK:=hD.kids h hh
  have hkl:=kd_len hS hhN
  have hDX:=fun X=>hD.core.more [X]
  obtain ⟨o,ho,hrep⟩:=hD.core.row
  have hpl:=(List.getElem?_eq_some_iff.1 hD.core.obj).1
  have hql:=(List.getElem?_eq_some_iff.1 ho).1
  have hob:∀ X,(g++[X])[p]? = some (.cells 2 [[.own true q (liveL S).length,.p (.int .i64 nx)]]):=fun X=>by rw [List.getElem?_append_left hpl];exact hD.core.obj
  have hoX:∀ X,(g++[X])[q]? = some o:=fun X=>by rw [List.getElem?_append_left hql];exact ho
  have hlast:∀ X,(g++[X])[g.length]? = some X:=fun X=>by simp
  have hsetX:∀ X Y,(g++[X]).set g.length Y=g++[Y]:=fun X Y=>by simp [List.set_append]
  have hix:=fun s i=>hrep.idx rowsD_len s true q i
  have hatX:=fun X id=>at_run (hDX X) hL id (n:=m - 1) (by omega)
  rw [show m - 1+1=m by omega] at hatX
  have il:=intsPV_len (S.kd h)
  obtain ⟨ih0,hph,hih⟩:=posL_in hh
  have lh:=(List.getElem?_eq_some_iff.1 hih).1
  have kh:(ih0:Int)<((liveL S).length:Int):=by omega
  have rdh:=rd_node hrep hih (j:=2) (by omega)
  simp only [nAV] at rdh
  have hath:=fun X=>hatX X (h:Int)
  simp only [hph] at hath
  have hinv:=post_all hS (d:=d) (up:=up) hhN hp
  have hloop:aexec (acall T m) m (.loop B86x0) ⟨[(0,DP p),(1,.own true g.length out.length),(3,.p (.int .i64 up)),(9,av h),(23,.p (.int .i64 (S.kd h).length)),(24,.p (.int .i64 0))],[],g++[.pcells 6 (out.map GRow.pv)]⟩=some (.exit 0,⟨[(1,.own true g.length (belowM S (d+1) out (h:Int) up).length)],[],g++[.pcells 6 ((belowM S (d+1) out (h:Int) up).map GRow.pv)]⟩):=by
    have key:=loop_inv (C:=acall T m) (N:=m) (B:=B86x0) (σ := Nat) (S:=fun i=>⟨[(0,DP p),(1,.own true g.length (outI S d out h up i).length),(3,.p (.int .i64 up)),(9,av h),(23,.p (.int .i64 (S.kd h).length)),(24,.p (.int .i64 i))],[],g++[.pcells 6 ((outI S d out h up i).map GRow.pv)]⟩)
      (I:=fun i=>i≤(S.kd h).length) (μ := fun i=>(S.kd h).length - i) (Q:=fun z=>z=(.exit 0,⟨[(1,.own true g.length (belowM S (d+1) out (h:Int) up).length)],[],g++[.pcells 6 ((belowM S (d+1) out (h:Int) up).map GRow.pv)]⟩)) ?_ 0 (by omega) (by omega)
    · obtain ⟨z,hz,rfl⟩:=key
      rw [outI_zero] at hz
      exact hz
    intro i hi
    by_cases hil:i<(S.kd h).length
    · left
      obtain ⟨k,hk⟩:∃ k,(S.kd h)[i]? = some k:=⟨_,List.getElem?_eq_getElem hil⟩
      have hkm:=List.mem_of_getElem? hk
      obtain ⟨c,rfl,hc,hcl,hcu⟩:=hS.kids h hhN k hkm
      have hcL:c ∈ liveL S:=mem_liveL.2 ⟨hc,hcl⟩
      obtain ⟨hpo,hpm⟩:=hinv i hi
      have hpre:=kid_pre hS up hhN hp hpo hpm hk hc hcu
      have hol1:=hpo.len
      have ho1:=outI_succ (S:=S) (d:=d) (out:=out) (up:=up) hk
      have hol2:(outI S d out h up i++[rowM S (c:Int) up]).length≤S.N:=by
        have:=nodup_len S.N _ hpre.nodup (fun k hk=>by
          obtain ⟨x,hx,rfl⟩:=List.mem_map.1 hk
          exact hpre.rng x hx)
        rwa [List.length_map] at this
      have ihc:=ih c hcL hcu _ (((outI S d out h up i).length:Int)+1) hol2 hpre
      rw [← ho1] at ihc
      refine ⟨i+1, ?_,by omega,by omega⟩
      generalize outI S d out h up i=o1 at hol1 hol2 ihc ⊢
      generalize outI S d out h up (i+1)=o2 at ihc ⊢
      have k2:(i:Int)<((S.kd h).length:Int):=by omega
      have hg:=intsPV_get hk
      obtain ⟨ic,hpc,hic⟩:=posL_in hcL
      have lc:=(List.getElem?_eq_some_iff.1 hic).1
      have kc:(ic:Int)<((liveL S).length:Int):=by omega
      have hatc:=fun X=>hatX X (c:Int)
      simp only [hpc] at hatc
      have rdA:=hrep.rdA rowsD_len lc (rowsD_get hic) rfl
      have os:o1.map GRow.pv++[[.int .i64 (c:Int),.int .i64 up,.str (S.st c).tag,.str (S.st c).key,.str (S.st c).text,.list ((S.st c).attrs.map Attr.pv)]]=(o1++[rowM S (c:Int) up]).map GRow.pv:=by
        rw [List.map_append];rfl
      have ol1:(o1.map GRow.pv).length=o1.length:=by simp
      have ol2:(o1++[rowM S (c:Int) up]).length=o1.length+1:=by simp
      rw [ol2] at ihc
      have ol3:((o1++[rowM S (c:Int) up]).map GRow.pv).length=o1.length+1:=by simp
      generalize o1++[rowM S (c:Int) up]=o3 at os ihc ol3
      have hKc:=hD.kids c hcL
      rcases hK.inv with ⟨_,hk0⟩ | ⟨r,hav,hr⟩ | hav
      · rw [hk0] at hil;simp at hil
      · have hrl:=(List.getElem?_eq_some_iff.1 hr).1
        have hrX:∀ X,(g++[X])[r]? = some (.pcells 1 (intsPV (S.kd h))):=fun X=>by rw [List.getElem?_append_left hrl];exact hr
        rcases hKc.inv with ⟨hav2,_⟩ | ⟨r2,hav2,_⟩ | hav2
        all_goals
          simp only [nAV,hav2] at rdA
          simp only [hav]
          simp -implicitDefEqProofs (disch:=omega) only [Rx,simprocAttr,sameG_self,B86x0,k2,hg,il,hob,hoX,hrX,hlast,hsetX,hix,hatc,rdA,ofCells,PV.sameLL_self,os,ol1,ol3,ihc]
      · rcases hKc.inv with ⟨hav2,_⟩ | ⟨r2,hav2,_⟩ | hav2
        all_goals
          simp only [nAV,hav2] at rdA
          simp only [hav]
          simp -implicitDefEqProofs (disch:=omega) only [Rx,simprocAttr,sameG_self,B86x0,k2,hg,il,hob,hoX,hlast,hsetX,hix,hatc,rdA,ofCells,PV.sameLL_self,os,ol1,ol3,ihc]
    · right
      obtain rfl:i=(S.kd h).length:=by omega
      have k2:¬ ((S.kd h).length:Int)<((S.kd h).length:Int):=by omega
      refine ⟨_, ?_, ?_,rfl⟩
      · rw [outI_all]
        generalize belowM S (d+1) out (h:Int) up=o1
        rcases hK.inv with ⟨hav,_⟩ | ⟨r,hav,_⟩ | hav
        all_goals
          simp only [hav]
          simp -implicitDefEqProofs (disch:=omega) only [Rx,simprocAttr,B86x0,k2]
      · simp
  rw [acall_code T86,run_code rfl rfl]
  generalize belowM S (d+1) out (h:Int) up=o2 at hloop ⊢
  rcases hK.inv with ⟨hav,hk0⟩ | ⟨r,hav,hr⟩ | hav
  · simp only [hk0,hav,List.length_nil,Int.natCast_zero] at hloop rdh
    simp -implicitDefEqProofs (disch:=omega) only [Rx,simprocAttr,F86,hob,hoX,hix,hath,rdh,hloop]
  · have hrl:=(List.getElem?_eq_some_iff.1 hr).1
    have hrX:∀ X,(g++[X])[r]? = some (.pcells 1 (intsPV (S.kd h))):=fun X=>by rw [List.getElem?_append_left hrl];exact hr
    simp only [hav] at hloop rdh
    simp -implicitDefEqProofs (disch:=omega) only [Rx,simprocAttr,F86,hob,hoX,hix,hath,rdh,hloop]
  · simp only [hav] at hloop rdh
    simp -implicitDefEqProofs (disch:=omega) only [Rx,simprocAttr,F86,hob,hoX,hix,hath,rdh,hloop,il]
theorem bel_gen (hS:S.Ok R) (hN:S.N≤8589934592) (hD:DM (liveL S) S.st S.kd nx av p q g) (hL:(liveL S).length≤4194304) {r:Nat→Nat} (hr1:∀ c,c<S.N→r c≤R) (hr2:∀ c p:Nat,c<S.N→(S.st c).up=(p:Int)→r p<r c) (n:Nat) (hn:(liveL S).length+1<n) :
    ∀ (d h : Nat) (up : Int) (out : List GRow), h ∈ liveL S → R ≤ r h + d → out.length ≤ S.N → PreO S out h →
      acall T (n+d+1) 86 [DP p,.own true g.length out.length,.p (.int .i64 h),.p (.int .i64 up)] (g++[.pcells 6 (out.map GRow.pv)])=some (.own true g.length (belowM S (d+1) out (h:Int) up).length,g++[.pcells 6 ((belowM S (d+1) out (h:Int) up).map GRow.pv)]):=by
  intro d
  induction d with
  | zero =>
    intro h up out hh hR hol hp
    exact bel_body hS hN hD hL n hn 0 h up out hh hp hol (fun c hc hcu=>by
      have:=hr1 c (mem_liveL.1 hc).1
      have:=hr2 c h (mem_liveL.1 hc).1 hcu
      omega)
  | succ d ih =>
    intro h up out hh hR hol hp
    exact bel_body hS hN hD hL (n+d+1) (by omega) (d+1) h up out hh hp hol (fun c hc hcu out up hol hp=>by
      have:=hr2 c h (mem_liveL.1 hc).1 hcu
      exact ih c up out hc (by omega) hol hp)
theorem Read_run (hS:S.Ok R) (hN:S.N≤8589934592) (hD:DM (liveL S) S.st S.kd nx av p q g) (hL:(liveL S).length≤4194304) {n:Nat} (hn:(liveL S).length+1<n) :
  acall T (n+R+2) 34 [DP p] g=some (.own true g.length (rowsM S R).length,g++[.pcells 6 ((rowsM S R).map GRow.pv)]):=by
 obtain ⟨r,hr1,hr2⟩:=hS.rank
 have h0:(0:Nat) ∈ liveL S:=mem_liveL.2 ⟨hS.pos,hS.top.1⟩
 have hr:=bel_gen hS hN hD hL hr1 hr2 n hn R 0 0 [] h0 (by omega) (by simp) pre_nil
 simp only [Int.natCast_zero,List.map_nil,List.length_nil] at hr
 rw [acall_code T34,run_code rfl rfl]
 unfold rowsM
 generalize belowM S (R+1) [] 0 0=o at hr ⊢
 simp -implicitDefEqProofs (disch:=omega) only [Rx,simprocAttr,F34,hr]
end
end Tryz
end Go.TA


end
section
/- Attributes held against themselves. -/
namespace Go.TA.Tryz
theorem attrsEq_run (l:List Attr) (hl:l.length≤4194304) (g:List AObj) {n:Nat} (hn:l.length<n):acall T (n+1) 87 [.p (.list (l.map Attr.pv)),.p (.list (l.map Attr.pv))] g=some (.p (.bool true),g):=by
 have ll:(l.map Attr.pv).length=l.length:=by simp
 have hl:=loop_rule' (C:=acall T n) (N:=n) (B:=B87x0) (σ := Nat) (S:=fun i=>⟨[(0,.p (.list (l.map Attr.pv))),(1,.p (.list (l.map Attr.pv))),(12,.p (.int .i64 l.length)),(13,.p (.int .i64 i))],[],[]⟩) (I:=fun i=>i≤l.length) (μ := fun i=>l.length - i) (Φ := fun i=>(.exit 0,⟨[],[],[]⟩)) ?_ 0 (by omega) (by omega)
 ·rw [acall_code T87,run_pure rfl rfl rfl]
  simp only [Int.natCast_zero] at hl
  simp -implicitDefEqProofs (disch:=omega) only [Rx,simprocAttr,F87,hl,ll]
 intro i hi
 by_cases h:i<l.length
 ·left
  obtain ⟨x,hx⟩:=get_some h
  have hg:=getD_map (f:=Attr.pv) hx
  have k1:(i:Int)<(l.length:Int):=by omega
  refine ⟨i+1, ?_,by omega,by omega,rfl⟩
  simp -implicitDefEqProofs (disch:=omega) only [Rx,simprocAttr,B87x0,k1,ll,hg,Attr.pv,Bool.and_self]
 ·right
  obtain rfl:i=l.length:=by omega
  have k1:¬ (l.length:Int)<(l.length:Int):=by omega
  refine ⟨?_,by simp⟩
  simp -implicitDefEqProofs (disch:=omega) only [Rx,simprocAttr,B87x0,k1]
end Go.TA.Tryz


end
section
/- Rows, and numbers, held against themselves. -/
namespace Go.TA.Tryz
theorem shapesEq_run (l:List GRow) (hl:l.length≤8589934592) (ha:∀ x ∈ l,x.attrs.length≤4194304) (g:List AObj) {n:Nat} (hn:l.length<n) (hn2:4194304<n):acall T (n+2) 38 [.p (.list (l.map GRow.pv)),.p (.list (l.map GRow.pv))] g=some (.p (.bool true),g):=by
 have ll:(l.map GRow.pv).length=l.length:=by simp
 have hl:=loop_rule' (C:=acall T (n+1)) (N:=n+1) (B:=B38x0) (σ := Nat) (S:=fun i=>⟨[(0,.p (.list (l.map GRow.pv))),(1,.p (.list (l.map GRow.pv))),(14,.p (.int .i64 l.length)),(15,.p (.int .i64 i))],[],[]⟩) (I:=fun i=>i≤l.length) (μ := fun i=>l.length - i) (Φ := fun i=>(.exit 0,⟨[],[],[]⟩)) ?_ 0 (by omega) (by omega)
 ·rw [acall_code T38,run_pure rfl rfl rfl]
  simp only [Int.natCast_zero] at hl
  simp -implicitDefEqProofs (disch:=omega) only [Rx,simprocAttr,F38,hl,ll]
 intro i hi
 by_cases h:i<l.length
 ·left
  obtain ⟨x,hx⟩:=get_some h
  have hg:=getD_map (f:=GRow.pv) hx
  have k1:(i:Int)<(l.length:Int):=by omega
  have hat:=fun g=>attrsEq_run x.attrs (ha x (List.mem_of_getElem? hx)) g (n:=n) (by have:=ha x (List.mem_of_getElem? hx);omega)
  refine ⟨i+1, ?_,by omega,by omega,rfl⟩
  simp -implicitDefEqProofs (disch:=omega) only [Rx,simprocAttr,B38x0,k1,ll,hg,GRow.pv,attrsPV,hat]
 ·right
  obtain rfl:i=l.length:=by omega
  have k1:¬ (l.length:Int)<(l.length:Int):=by omega
  refine ⟨?_,by simp⟩
  simp -implicitDefEqProofs (disch:=omega) only [Rx,simprocAttr,B38x0,k1]
theorem rowsEq_run (l:List GRow) (hl:l.length≤8589934592) (ha:∀ x ∈ l,x.attrs.length≤4194304) (g:List AObj) {n:Nat} (hn:l.length<n) (hn2:4194304<n):acall T (n+3) 20 [.p (.list (l.map GRow.pv)),.p (.list (l.map GRow.pv))] g=some (.p (.bool true),g):=by
 have ll:(l.map GRow.pv).length=l.length:=by simp
 have hsh:=fun g=>shapesEq_run l hl ha g (n:=n) hn hn2
 have hl:=loop_rule' (C:=acall T (n+2)) (N:=n+2) (B:=B20x0) (σ := Nat) (S:=fun i=>⟨[(0,.p (.list (l.map GRow.pv))),(1,.p (.list (l.map GRow.pv))),(12,.p (.int .i64 l.length)),(13,.p (.int .i64 i))],[],[]⟩) (I:=fun i=>i≤l.length) (μ := fun i=>l.length - i) (Φ := fun i=>(.exit 0,⟨[(0,.p (.list (l.map GRow.pv))),(1,.p (.list (l.map GRow.pv)))],[],[]⟩)) ?_ 0 (by omega) (by omega)
 ·rw [acall_code T20,run_pure rfl rfl rfl]
  simp only [Int.natCast_zero] at hl
  simp -implicitDefEqProofs (disch:=omega) only [Rx,simprocAttr,F20,hl,ll,hsh]
 intro i hi
 by_cases h:i<l.length
 ·left
  obtain ⟨x,hx⟩:=get_some h
  have hg:=getD_map (f:=GRow.pv) hx
  have k1:(i:Int)<(l.length:Int):=by omega
  refine ⟨i+1, ?_,by omega,by omega,rfl⟩
  simp -implicitDefEqProofs (disch:=omega) only [Rx,simprocAttr,B20x0,k1,ll,hg,GRow.pv]
 ·right
  obtain rfl:i=l.length:=by omega
  have k1:¬ (l.length:Int)<(l.length:Int):=by omega
  refine ⟨?_,by simp⟩
  simp -implicitDefEqProofs (disch:=omega) only [Rx,simprocAttr,B20x0,k1]
end Go.TA.Tryz


end
section
/- Rows, and numbers, held against themselves. -/
namespace Go.TA.Tryz
theorem intsEq_run (l:List Int) (hl:l.length≤8589934592) (g:List AObj) {n:Nat} (hn:l.length<n):acall T (n+1) 32 [.p (.list (intsPV l)),.p (.list (intsPV l))] g=some (.p (.bool true),g):=by
 have ll:=intsPV_len l
 have hl:=loop_rule' (C:=acall T n) (N:=n) (B:=B32x0) (σ := Nat) (S:=fun i=>⟨[(0,.p (.list (intsPV l))),(1,.p (.list (intsPV l))),(12,.p (.int .i64 l.length)),(13,.p (.int .i64 i))],[],[]⟩) (I:=fun i=>i≤l.length) (μ := fun i=>l.length - i) (Φ := fun i=>(.exit 0,⟨[],[],[]⟩)) ?_ 0 (by omega) (by omega)
 ·rw [acall_code T32,run_pure rfl rfl rfl]
  simp only [Int.natCast_zero] at hl
  simp -implicitDefEqProofs (disch:=omega) only [Rx,simprocAttr,F32,hl,ll]
 intro i hi
 by_cases h:i<l.length
 ·left
  have hg:=intsPV_get (List.getElem?_eq_getElem h)
  have k1:(i:Int)<(l.length:Int):=by omega
  refine ⟨i+1, ?_,by omega,by omega,rfl⟩
  simp -implicitDefEqProofs (disch:=omega) only [Rx,simprocAttr,B32x0,k1,ll,hg]
 ·right
  obtain rfl:i=l.length:=by omega
  have k1:¬ (l.length:Int)<(l.length:Int):=by omega
  refine ⟨?_,by simp⟩
  simp -implicitDefEqProofs (disch:=omega) only [Rx,simprocAttr,B32x0,k1]
end Go.TA.Tryz


end
section
/- The attributes of a machine's rows are few. Plain. -/
namespace Go.TA
theorem below_attrs {R : Nat} {S : MS} (hS : S.Ok R) : ∀ (d : Nat) (out : List GRow) (h : Nat) (up : Int), h < S.N → ∀ x ∈ belowM S d out (h : Int) up, x ∈ out ∨ x.attrs.length ≤ 1048577
  | 0,out,h,up,hh,x,hx => .inl hx
  | d + 1, out, h, up, hh, x, hx => by
    rw [← outI_all] at hx
    have key:∀ i,i≤(S.kd h).length→∀ x ∈ outI S d out h up i,x ∈ out∨x.attrs.length≤1048577:=by
      intro i
      induction i with
      | zero=>exact fun _ x hx => .inl hx
      | succ i ih =>
        intro hi x hx
        obtain ⟨k,hk⟩:∃ k,(S.kd h)[i]? = some k:=⟨_,List.getElem?_eq_getElem (by omega)⟩
        obtain ⟨c,rfl,hc,_,_⟩:=hS.kids h hh k (List.mem_of_getElem? hk)
        rw [outI_succ hk] at hx
        rcases below_attrs hS d _ c _ hc x hx with h1 | h1
        · rcases List.mem_append.1 h1 with h2 | h2
          · exact ih (by omega) x h2
          · simp only [List.mem_singleton] at h2
            subst h2
            exact .inr (hS.attrs c hc)
        · exact .inr h1
    exact key _ (Nat.le_refl _) x hx
theorem rowsM_attrs {R:Nat} {S:MS} (hS:S.Ok R) (R':Nat):∀ x ∈ rowsM S R',x.attrs.length≤1048577:=fun x hx=>by
 rcases below_attrs hS (R'+1) [] 0 0 hS.pos x hx with h | h
 ·simp at h
 ·exact h
end Go.TA


end
section
/- The other guard of most laws: whether rows are few. -/
set_option maxHeartbeats 1000000
namespace Go.TA.Tryz
def rowCost (x:GRow):Int:=((x.text.length:Int)+x.key.length+x.tag.length).tdiv 4096
def fewRowsL:List GRow→Int→Option Int
 | [],left=>some left
 | x::l,left=>if left - 1 - x.attrs.length - rowCost x<0 then none else fewRowsL l (attrsLeft x.attrs (left - 1 - x.attrs.length - rowCost x))
def fewRows (l:List GRow) (most:Int):Bool:=match fewRowsL l most with
 | some n=>decide (n ≥ 0)
 | none=>false
theorem tdiv_bound {x:Int} (h:0≤x) (h2:x≤2097152):0≤x.tdiv 4096∧x.tdiv 4096≤1048576:=by
 rw [Int.tdiv_eq_ediv_of_nonneg h];omega
theorem attrsLeft_bound (l:List Attr) (hs:smallAttrs l):∀ left:Int,left - 1048576*(l.length:Int)≤attrsLeft l left∧attrsLeft l left≤left:=by
  induction l with
  | nil=>intro left;simp [attrsLeft]
  | cons a l ih =>
    intro left
    have ha:=hs a (by simp)
    have q:=tdiv_bound (x:=(a.value.length:Int)+(a.name.length:Int)) (by omega) (by omega)
    obtain ⟨z1,z2⟩:=ih (fun b hb=>hs b (by simp [hb])) (left - ((a.value.length:Int)+a.name.length).tdiv 4096)
    simp only [attrsLeft,List.length_cons,Int.natCast_add,Int.natCast_one]
    constructor <;> omega
theorem fewR_inner {C : Calls'} {N n : Nat} (l : List GRow) (i : Nat) (x : GRow) (h : l[i]? = some x) (hx : x.small n) (hn : n ≤ 1048577) (hN : n ≤ N) (left : Int) (hl : -1099511627776 ≤ left) (hl2 : left ≤ 1000000) :
    aexec C N (.loop B11x1) ⟨[(0,.p (.list (l.map GRow.pv))),(5,.p (.int .i64 left)),(6,.p (.int .i64 i)),(10,.p (.int .i64 l.length)),(11,.p (.int .i64 i)),(52,.p (.int .i64 x.attrs.length)),(53,.p (.int .i64 0))],[],[]⟩ =
      some (.exit 2,⟨[(0,.p (.list (l.map GRow.pv))),(5,.p (.int .i64 (attrsLeft x.attrs left))),(10,.p (.int .i64 l.length)),(11,.p (.int .i64 i))],[],[]⟩):=by
  have hlt:i<l.length:=(List.getElem?_eq_some_iff.1 h).1
  have hg:=getD_map (f:=GRow.pv) h
  have:=hx.attrs
  refine loop_rule' (σ := Nat × Int) (S:=fun s=>⟨[(0,.p (.list (l.map GRow.pv))),(5,.p (.int .i64 s.2)),(6,.p (.int .i64 i)),(10,.p (.int .i64 l.length)),(11,.p (.int .i64 i)),(52,.p (.int .i64 x.attrs.length)),(53,.p (.int .i64 s.1))],[],[]⟩)
    (I:=fun s=>s.1≤x.attrs.length ∧ -1099511627776 - 1048576*(s.1:Int)≤s.2∧s.2≤1000000) (μ := fun s=>x.attrs.length - s.1)
    (Φ := fun s=>(.exit 2,⟨[(0,.p (.list (l.map GRow.pv))),(5,.p (.int .i64 (attrsLeft (x.attrs.drop s.1) s.2))),(10,.p (.int .i64 l.length)),(11,.p (.int .i64 i))],[],[]⟩)) ?_ (0,left) ?_ ?_
  · rintro ⟨k,left⟩ ⟨h1,h2,h3⟩
    simp only at h1 h2 h3 ⊢
    by_cases hk:k<x.attrs.length
    · obtain ⟨a,ha⟩:=get_some hk
      have hga:=getD_map (f:=Attr.pv) ha
      have hs:=hx.small a (List.mem_of_getElem? ha)
      have q:=tdiv_bound (x:=(a.value.length:Int)+(a.name.length:Int)) (by omega) (by omega)
      refine .inl ⟨(k+1,left - ((a.value.length:Int)+a.name.length).tdiv 4096), ?_,⟨by omega,by simp only [Int.natCast_add,Int.natCast_one];omega,by omega⟩,by simp only;omega, ?_⟩
      · have k1:(k:Int)<(x.attrs.length:Int):=by omega
        have k2:(i:Int)<(l.length:Int):=by omega
        simp -implicitDefEqProofs (disch:=omega) only [Rx,simprocAttr,B11x1,k1,k2,hg,hga,GRow.pv,attrsPV,Attr.pv]
      · rw [List.drop_eq_getElem?_toList_append,ha];rfl
    · refine .inr ⟨?_,by simp⟩
      have:k=x.attrs.length:=by omega
      subst this
      have k1:¬ ((x.attrs.length:Int)<(x.attrs.length:Int)):=by omega
      simp -implicitDefEqProofs (disch:=omega) only [Rx,simprocAttr,B11x1,k1,List.drop_length,attrsLeft]
  · simp only [Int.natCast_zero];omega
  · simp only;omega
def fewREnd (r:Option Int):Ex × St:=match r with
 | none=>(.ret,⟨[(4,.p (.bool false))],[],[]⟩)
 | some left=>(.exit 0,⟨[(5,.p (.int .i64 left))],[],[]⟩)
theorem fewR_outer {C : Calls'} {N n : Nat} (l : List GRow) (hl : Rows.small n l) (hn : n ≤ 1048577) (hN : n ≤ N) (most : Int) (h1 : 0 ≤ most) (h2 : most ≤ 1000000) :
    aexec C N (.loop B11x0) ⟨[(0,.p (.list (l.map GRow.pv))),(5,.p (.int .i64 most)),(10,.p (.int .i64 l.length)),(11,.p (.int .i64 0))],[],[]⟩=some (fewREnd (fewRowsL l most)):=by
  have hlen:=hl.len
  refine loop_rule' (σ := Nat × Int) (S:=fun s=>⟨[(0,.p (.list (l.map GRow.pv))),(5,.p (.int .i64 s.2)),(10,.p (.int .i64 l.length)),(11,.p (.int .i64 s.1))],[],[]⟩)
    (I:=fun s=>s.1≤l.length ∧ -1099511627776≤s.2∧s.2≤1000000) (μ := fun s=>l.length - s.1)
    (Φ := fun s=>fewREnd (fewRowsL (l.drop s.1) s.2)) ?_ (0,most) ?_ ?_
  · rintro ⟨i,left⟩ ⟨h1,h2,h3⟩
    simp only at h1 h2 h3 ⊢
    by_cases hi:i<l.length
    · obtain ⟨x,hx⟩:=get_some hi
      have hgx:=getD_map (f:=GRow.pv) hx
      have hs:=hl.row x (List.mem_of_getElem? hx)
      have q:=tdiv_bound (x:=(x.text.length:Int)+x.key.length+x.tag.length) (by omega) (by have:=hs.text;omega)
      have ha:=hs.attrs
      have hd:l.drop i=x::l.drop (i+1):=by rw [List.drop_eq_getElem?_toList_append,hx];rfl
      have k2:(i:Int)<(l.length:Int):=by omega
      have hc:fewRowsL (l.drop i) left=if left - 1 - x.attrs.length - rowCost x<0 then none else fewRowsL (l.drop (i+1)) (attrsLeft x.attrs (left - 1 - x.attrs.length - rowCost x)):=by rw [hd];rfl
      have htx:=hs.text
      unfold rowCost at hc
      by_cases hneg:left - 1 - x.attrs.length - ((x.text.length:Int)+x.key.length+x.tag.length).tdiv 4096<0
      · refine .inr ?_
        rw [hc,if_pos hneg]
        refine ⟨?_,by simp [fewREnd]⟩
        simp -implicitDefEqProofs (disch:=omega) only [Rx,simprocAttr,B11x0,k2,hgx,GRow.pv,attrsPV,hneg,fewREnd]
      · have hb:=attrsLeft_bound x.attrs hs.small (left - 1 - x.attrs.length - ((x.text.length:Int)+x.key.length+x.tag.length).tdiv 4096)
        have hloop:=fewR_inner (C:=C) (N:=N) (n:=n) l i x hx hs hn hN (left - 1 - x.attrs.length - ((x.text.length:Int)+x.key.length+x.tag.length).tdiv 4096) (by omega) (by omega)
        refine .inl ⟨(i+1,attrsLeft x.attrs (left - 1 - x.attrs.length - ((x.text.length:Int)+x.key.length+x.tag.length).tdiv 4096)), ?_,⟨by omega,by simp only;omega,by simp only;omega⟩,by simp only;omega,by simp only;rw [hc,if_neg hneg]⟩
        simp -implicitDefEqProofs (disch:=omega) only [Rx,simprocAttr,B11x0,k2,hgx,GRow.pv,attrsPV,hneg,hloop]
    · refine .inr ⟨?_, ?_⟩
      · have:i=l.length:=by omega
        subst this
        have k1:¬ ((l.length:Int)<(l.length:Int)):=by omega
        simp -implicitDefEqProofs (disch:=omega) only [Rx,simprocAttr,B11x0,k1,List.drop_length,fewRowsL,fewREnd]
      · have:l.drop i=[]:=List.drop_eq_nil_of_le (by omega)
        simp [this,fewRowsL,fewREnd]
  · simp only;omega
  · simp only;omega
theorem fewR_run (l:List GRow) (most:Int) (g:List AObj) {n:Nat} (hl:Rows.small n l) (hn:n≤1048577) (h1:0≤most) (h2:most≤1000000) {m:Nat} (hm:n≤m) :
    acall T (m+1) 11 [.p (.list (l.map GRow.pv)),.p (.int .i64 most)] g=some (.p (.bool (fewRows l most)),g):=by
  rw [acall_code T11,run_pure rfl rfl rfl]
  have hloop:=fewR_outer (C:=acall T m) (N:=m) l hl hn hm most h1 h2
  cases hr:fewRowsL l most with
  | none =>
    rw [hr] at hloop
    simp -implicitDefEqProofs only [F11,fewREnd] at hloop ⊢
    simp -implicitDefEqProofs (disch:=omega) only [Rx,simprocAttr,hloop,fewRows,hr]
  | some left =>
    rw [hr] at hloop
    simp -implicitDefEqProofs only [F11,fewREnd] at hloop ⊢
    simp -implicitDefEqProofs (disch:=omega) only [Rx,simprocAttr,hloop,fewRows,hr]
end Go.TA.Tryz


end
section
/- The examples that the statements contain, run. -/
namespace Go.TA.Tryz
theorem same29 (n:Nat):acall T (n+80) 25 [] []=some (.p (.bool true),[]):=by kernel_rfl
end Go.TA.Tryz


end
section
/- The law InterpRuns, in the machine. -/
namespace Go.TA
section
variable {R:Nat} {S S' S2 S2':MS} {it nd it' nd':Nat→Nat} {I I':Nat→LK} {pd pm p q q':Nat} {av av':Nat→AV} {g g':List AObj}
theorem two_doc (hA:DM (liveL S2) S2.st S2.kd S2.N av p q g) (sep:∀ j,OwnD S it nd pd pm j→¬ OwnR (liveL S2) av p q j) (hF:GFr g (OwnD S it nd pd pm) g' (OwnD S' it' nd' pd pm)) :
  DM (liveL S2) S2.st S2.kd S2.N av p q g'∧∀ j,OwnD S' it' nd' pd pm j→¬ OwnR (liveL S2) av p q j :=
 ⟨hA.stay fun j hj=>hF.keep j (hA.own_lt hj) fun h=>sep j h hj,fun j hj hR=>sep j (hF.refs j hj (hA.own_lt hR)) hR⟩
theorem two_ref (hD:Doc R S it nd I pd pm g) (sep:∀ j,OwnD S it nd pd pm j→¬ OwnR (liveL S2) av p q j) (hF:GFr g (OwnR (liveL S2) av p q) g' (OwnR (liveL S2') av' p q')) :
  Doc R S it nd I pd pm g'∧∀ j,OwnD S it nd pd pm j→¬ OwnR (liveL S2') av' p q' j :=
 ⟨⟨hD.ok,hD.link,hD.lies.keep fun j hj=>hF.keep j (hD.lies.own_lt hj) (sep j hj)⟩,fun j hj hR=>sep j hj (hF.refs j hR (hD.lies.own_lt hj))⟩
end
namespace Tryz
theorem alone_of {l:List GRow} (h:allOk l) {x:GRow} (hx:x ∈ l):aloneErr x=0:=by
 obtain ⟨i,hi⟩:=List.getElem?_of_mem hx
 have h1:=h i x hi
 unfold rowErr at h1
 split at h1
 ·omega
 split at h1
 ·omega
 split at h1
 ·assumption
 ·exact h1
theorem interpRuns_run (l:List GRow) (tb:List Int) (L:List GOp) (hsm:Rows.small 1048577 l) (hL:∀ x ∈ L,smallOp x) (hLl:L.length≤1048575) (htb:tb.length≤1048576) :
    ∃ n,acall T n 4 [.p (.list (l.map GRow.pv)),.p (.list (intsPV tb)),.p (.list (L.map GOp.pv))] []=some (.p (.bool true),[]):=by
  have hlen:=hsm.len
  generalize hC:bnd 0 (2*l.length)=C
  generalize hB:bnd C L.length=B
  have hCB:C≤B:=by rw [← hB];exact bnd_mono C (Nat.zero_le L.length)
  obtain ⟨F,hF⟩:∃ F,F=8*4194304+8*B+8*C:=⟨_,rfl⟩
  refine ⟨F+1, ?_⟩
  have hsame:=same29 (F - 80)
  rw [show F - 80+80=F by omega] at hsame
  have hfr:=fewR_run l 60 [] hsm (Nat.le_refl _) (by omega) (by omega) (m:=F - 1) (by omega)
  have hfo:=few_run L 100 [] (n:=F - 1) (fun y hy=>⟨hL y hy,by have:=(hL y hy).1;omega⟩) (by omega) (by omega) (by omega) (by omega)
  have hck:=check13_run l hsm (Nat.le_refl _) (n:=F - 38) (by omega) []
  rw [show F - 1+1=F by omega] at hfr hfo
  rw [show F - 38+38=F by omega] at hck
  have htl:=intsPV_len tb
  rw [acall_code T4,run_pure rfl rfl rfl]
  cases h1:fewRows l 60 with
  | false =>
    rw [h1] at hfr
    simp -implicitDefEqProofs (disch:=omega) only [Rx,simprocAttr,F4,hfr,hsame]
  | true=>
  rw [h1] at hfr
  cases h2:fewOps L 100 with
  | false =>
    rw [h2] at hfo
    simp -implicitDefEqProofs (disch:=omega) only [Rx,simprocAttr,F4,hfr,hfo,hsame]
  | true=>
  rw [h2] at hfo
  by_cases h3:(tb.length:Int) > 200
  · simp -implicitDefEqProofs (disch:=omega) only [Rx,simprocAttr,F4,hfr,hfo,htl,h3,hsame]
  by_cases h4:check13 l=0
  rotate_left
  · have h4':(check13 l==0)=false:=by simpa using h4
    simp -implicitDefEqProofs (disch:=omega) only [Rx,simprocAttr,F4,hfr,hfo,htl,h3,hck,h4',hsame]
  rw [h4] at hck
  obtain ⟨hform,hall⟩:=check13_ok h4
  have hs:standTo l l.length:=(formed_sound hform).1
  have hal:∀ x ∈ l,aloneErr x=0:=fun x hx=>alone_of hall hx
  obtain ⟨it1,nd1,pd,pm,g1,n1,a1,_⟩:=docNew_run 2 (by omega) [] (F - 2)
  rw [show F - 2+2=F by omega,show (((2+1:Nat)):Int)=3 from rfl] at n1
  have n2:=new20_run 3 g1 (F - 1)
  rw [show F - 1+1=F by omega] at n2
  have m2:=dm_docS 2 g1
  have D2:Doc 0 (docS 3) it1 nd1 _ pd pm (g1++[.cells 7 [nAV 0 holder .nils]]++[.cells 2 [[.own true g1.length 1,.p (.int .i64 ((2+1:Nat):Int))]]]):=⟨docS_ok 2,docS_link 2,(a1.more _).more _⟩
  have sep2:∀ j,OwnD (docS 3) it1 nd1 pd pm j→¬ OwnR (liveL (docS 3)) (fun _ => .nils) (g1.length+1) g1.length j:=fun j hj hR=>by
    have:=a1.own_lt hj
    rcases hR with e | e | ⟨c,_,e⟩
    · omega
    · omega
    · cases e
  rw [show (((2+1:Nat)):Int)=3 from rfl] at D2
  have m2:DM (liveL (docS 3)) (docS 3).st (docS 3).kd (docS 3).N (fun _ => .nils) (g1.length+1) g1.length (g1++[.cells 7 [nAV 0 holder .nils]]++[.cells 2 [[.own true g1.length 1,.p (.int .i64 3)]]]):=m2
  generalize g1++[AObj.cells 7 [nAV 0 holder .nils]]++[.cells 2 [[.own true g1.length 1,.p (.int .i64 3)]]]=g2 at n2 D2 m2
  generalize g1.length+1=p at *
  generalize g1.length=q at *
  obtain ⟨it3,nd3,I3,g3,k3,n3,D3,sim3,_,f3,_,_,lv3⟩:=ibuild_run l hsm h4 hs hal 2 (by omega) D2 rfl (sim_docS l 2) (by rw [show (3:Nat)=2+1 from rfl,liveL_docS];simp) (n:=F - 1) (by rw [hC];omega)
  rw [show F - 1+1=F by omega] at n3
  rw [hC] at D3
  obtain ⟨m3,sep3⟩:=two_doc m2 sep2 f3
  obtain ⟨av4,g4,k4,n4,m4,_,f4,_,_⟩:=rbuild_run l hsm hs hal 2 (by omega) (docS_ok 2) rfl (sim_docS l 2) (by rw [liveL_docS];simp) m3 (n:=F - 1) (by rw [hC];omega)
  rw [show F - 1+1=F by omega] at n4
  obtain ⟨D4,sep4⟩:=two_ref D3 sep3 f4
  have hSN:(bldM 2 (docS 3) l).N=2+1+l.length:=by
    have h:fI 2 (l.length+1+0)=(bldM 2 (docS 3) l).N+0:=sim3.next 0
    rw [fI_pos (by omega)] at h;omega
  have e3:bldM 2 (docS (2+1)) l=bldM 2 (docS 3) l:=rfl
  rw [e3] at m4
  rw [e3] at sep4
  generalize bldM 2 (docS 3) l=S1 at *
  obtain ⟨it5,nd5,I5,g5,r5,n5,D5,f5,t5,b5,l5,o5,tl5⟩:=irun_run D4 tb L (fun x hx=>(hL x hx).1) hLl (by omega) (by omega) (n:=F - 1) (by rw [hB];omega)
  rw [show F - 1+1=F by omega] at n5
  rw [hB] at D5
  obtain ⟨m5,sep5⟩:=two_doc m4 sep4 f5
  obtain ⟨av6,q6,g6,r6,n6,m6,f6,t6,o6⟩:=rrun_run C D4.ok m5 tb L hL hLl (by omega) (by omega) (n:=F - 1) (by rw [hB];omega)
  rw [show F - 1+1=F by omega] at n6
  obtain ⟨D6,sep6⟩:=two_ref D5 sep5 f6
  have n7:=irun_nil tb L g6 (F - 1)
  rw [show F - 1+1=F by omega] at n7
  generalize hzz:runT S1 tb L 0=zz at *
  obtain ⟨⟨tb',i',e'⟩,S6⟩:=zz
  dsimp only at n5 n6 D6 m6 t5 t6 b5 l5 tl5 f6 sep6
  have hie:=intsEq_run tb' (by omega) [] (n:=F - 1) (by omega)
  rw [show F - 1+1=F by omega] at hie
  have hg56:=f6.len
  have hv5:(r5 = .p (.list [])∧tb'=[])∨∃ k,r5 = .own true k tb'.length∧g6[k]? = some (.pcells 1 (intsPV tb')):=by
    cases t5 with
    | none=>exact .inl ⟨rfl,rfl⟩
    | @own k _ h1 h2 =>
      have hk:=o5 k _ rfl
      refine .inr ⟨k,rfl, ?_⟩
      rw [f6.keep k (List.getElem?_eq_some_iff.1 h1).1 fun h => ?_]
      · exact h1
      · have:=m4.own_lt h;omega
  have hv6:(r6 = .p (.list [])∧tb'=[])∨∃ k,r6 = .own true k tb'.length∧g6[k]? = some (.pcells 1 (intsPV tb')):=by
    cases t6 with
    | none=>exact .inl ⟨rfl,rfl⟩
    | @own k _ h1 h2=>exact .inr ⟨k,rfl,h1⟩
  have hN6:S6.N≤8589934592:=by omega
  have n8:=docRead_run D6 hN6 (by omega) (n:=F - B - 2) (by omega)
  rw [show F - B - 2+B+2=F by omega] at n8
  have D7:Doc B S6 it5 nd5 I5 pd pm (rdG g6 pd ((rowsM S6 B).map GRow.pv) (rowsM S6 B).length):=⟨D6.ok,D6.link,D6.lies.more _⟩
  have m7:DM (liveL S6) S6.st S6.kd S6.N av6 p q6 (rdG g6 pd ((rowsM S6 B).map GRow.pv) (rowsM S6 B).length):=m6.stay fun j hj=>by unfold rdG;exact List.getElem?_append_left (m6.own_lt hj)
  have n9:=Read_run D6.ok hN6 m7 (by omega) (n:=F - B - 2) (by omega)
  rw [show F - B - 2+B+2=F by omega] at n9
  have D8:Doc B S6 it5 nd5 I5 pd pm (rdG g6 pd ((rowsM S6 B).map GRow.pv) (rowsM S6 B).length++[.pcells 6 ((rowsM S6 B).map GRow.pv)]):=⟨D7.ok,D7.link,D7.lies.more _⟩
  have m8:DM (liveL S6) S6.st S6.kd S6.N av6 p q6 (rdG g6 pd ((rowsM S6 B).map GRow.pv) (rowsM S6 B).length++[.pcells 6 ((rowsM S6 B).map GRow.pv)]):=m7.stay fun j hj=>List.getElem?_append_left (m7.own_lt hj)
  have hr1:=rdG1 g6 pd ((rowsM S6 B).map GRow.pv) (rowsM S6 B).length
  have x1:(rdG g6 pd ((rowsM S6 B).map GRow.pv) (rowsM S6 B).length++[AObj.pcells 6 ((rowsM S6 B).map GRow.pv)])[g6.length+1]? = some (.pcells 6 ((rowsM S6 B).map GRow.pv)):=by
    rw [List.getElem?_append_left (List.getElem?_eq_some_iff.1 hr1).1];exact hr1
  have x2:(rdG g6 pd ((rowsM S6 B).map GRow.pv) (rowsM S6 B).length++[AObj.pcells 6 ((rowsM S6 B).map GRow.pv)])[(rdG g6 pd ((rowsM S6 B).map GRow.pv) (rowsM S6 B).length).length]? = some (.pcells 6 ((rowsM S6 B).map GRow.pv)):=by simp
  have hrl:=rowsM_len D6.ok B
  have heq:=rowsEq_run (rowsM S6 B) (by omega) (fun x hx=>by have:=rowsM_attrs D6.ok B x hx;omega) [] (n:=F - 3) (by omega) (by omega)
  rw [show F - 3+3=F by omega] at heq
  have n10:=next_doc D8.lies (F - 1)
  rw [show F - 1+1=F by omega] at n10
  have ob8:=m8.core.obj
  have n11:=fun g=>table_nil g (F - 1)
  rw [show F - 1+1=F by omega] at n11
  have hlX:((rowsM S6 B).map GRow.pv).length=(rowsM S6 B).length:=by simp
  have il:=intsPV_len tb'
  clear D7 m7 D8 m8
  generalize hG8:rdG g6 pd ((rowsM S6 B).map GRow.pv) (rowsM S6 B).length++[AObj.pcells 6 ((rowsM S6 B).map GRow.pv)]=G8 at *
  generalize rdG g6 pd ((rowsM S6 B).map GRow.pv) (rowsM S6 B).length=G7 at *
  generalize (rowsM S6 B).length=qq at *
  generalize (rowsM S6 B).map GRow.pv=X at *
  rcases hv5 with ⟨rfl,ht5⟩ | ⟨k5,rfl,hk5⟩
  · subst ht5
    rcases hv6 with ⟨rfl,_⟩ | ⟨k6,rfl,hk6⟩
    · simp only [intsPV,List.map_nil] at hie
      simp -implicitDefEqProofs (maxSteps:=4000000) (disch:=omega) only [Rx,simprocAttr,sameG_self,F4,hfr,hfo,htl,h3,hck,hsame,n1,n2,n3,n4,n5,n6,n7,hie,n8,n9,x1,x2,heq,n10,ob8,n11,hlX,List.length_nil,List.getElem?_cons_zero,List.getElem?_cons_succ]
    · simp only [intsPV,List.map_nil] at hie hk6
      simp -implicitDefEqProofs (maxSteps:=4000000) (disch:=omega) only [Rx,simprocAttr,sameG_self,F4,hfr,hfo,htl,h3,hck,hsame,n1,n2,n3,n4,n5,n6,n7,hk6,hie,n8,n9,x1,x2,heq,n10,ob8,n11,hlX,List.length_nil,List.getElem?_cons_zero,List.getElem?_cons_succ]
  · rcases hv6 with ⟨rfl,ht6⟩ | ⟨k6,rfl,hk6⟩
    · subst ht6
      simp only [intsPV,List.map_nil] at hie hk5
      simp -implicitDefEqProofs (maxSteps:=4000000) (disch:=omega) only [Rx,simprocAttr,sameG_self,F4,hfr,hfo,htl,h3,hck,hsame,n1,n2,n3,n4,n5,n6,n7,hk5,hie,n8,n9,x1,x2,heq,n10,ob8,n11,hlX,List.length_nil,List.getElem?_cons_zero,List.getElem?_cons_succ]
    · simp -implicitDefEqProofs (maxSteps:=4000000) (disch:=omega) only [Rx,simprocAttr,sameG_self,F4,hfr,hfo,htl,h3,hck,hsame,n1,n2,n3,n4,n5,n6,n7,hk5,hk6,il,hie,n8,n9,x1,x2,heq,n10,ob8,n11,hlX,List.length_nil,List.getElem?_cons_zero,List.getElem?_cons_succ]
end Tryz
end Go.TA


end
section
/- The law InterpRuns, for every input of bulk at most 1048576: the call returns true, and nothing that was there has changed. -/
namespace Go.Proofs.YtbgbmdjfogohnaaGreatDoor.interpRuns
open Go.ChangeShapes Go.WideShapes Go.ChangeAt Go.RowKit Go.TA
theorem own:ownKnob Tryz.prog.godebug=none:=by kernel_rfl
theorem kids:Kids Tryz.prog (· < Tryz.prog.types.size):=kids_rows (by kernel_rfl) (by kernel_rfl)
theorem full:∀ t e,t<Tryz.prog.types.size→Tryz.prog.underlying t=some (.slice e)→0<Tryz.prog.cellsOf e:=slices_full_of Tryz.prog (by kernel_rfl)
theorem bulk {H:Type}:Bulk (H:=H) Rows.uptoBulk Rows.uptoBulkAll where
 str bs:=by simp [Rows.uptoBulk]
 lit l:=by cases l <;> simp [Rows.uptoBulk]
 nil:=by simp [Rows.uptoBulk]
 slice a b:=by simp [Rows.uptoBulk]
 agg a:=by simp [Rows.uptoBulk]
 nilA:=by simp [Rows.uptoBulkAll]
 consA d r:=by simp [Rows.uptoBulkAll]
theorem laidVars_tail {P:Program} {w:World} {x:String × DataW Unit} {r:List (String × DataW Unit)} {ps:List MemPlace} (h:DataW.LaidVars P w (x::r) ps):∃ qs,DataW.LaidVars P w r qs:=by
 obtain ⟨n,d⟩:=x
 obtain ⟨g,t,cs,fuel,p,q,_,_,_,_,hq,_⟩:=h
 exact ⟨q,hq⟩
theorem tab_of_vars {P:Program} {W:World} {name:String} {k:IntKind} {zs:List Int} {rest:List (String × DataW Unit)} {ps:List MemPlace} {g:Nat} {t e:TypeId} {n:Nat}
  (hg:P.globalNamed name=some g) (hty:(P.globals[g]?).map (·.type)=some t) (ht:P.underlying t=some (.array n e)) (he:P.underlying e=some (.int k)) (hce:P.cellsOf e=1) (hct:P.cellsOf t=n)
  (h:DataW.LaidVars P W ((name,Lib.tabData k zs)::rest) ps):Lib.TabIs P W name k zs:=by
 obtain ⟨g',t',cs,fuel,p,q,hg',ht',hvar,hd,_,_⟩:=h
 obtain rfl:=Option.some.inj (hg.symm.trans hg')
 obtain rfl:=Option.some.inj (hty.symm.trans ht')
 unfold Lib.TabIs
 rw [hvar, ← Lib.cells_of_tab ht he hce hct hd]
theorem table {W:World} (h:laidMetH Tryz.prog Rows.interpRunsRow.laid W):Lib.TabIs Tryz.prog W "internal/strconv.uint64pow10" .u64 Lib.pow10Tab:=by
 have h':laidMet Tryz.prog Rows.interpRunsRow.laid W:=h
 obtain ⟨ps,hv,_⟩:=h'
 obtain ⟨qs,hv⟩:=laidVars_tail hv
 obtain ⟨qs,hv⟩:=laidVars_tail hv
 exact tab_of_vars (g:=0) (t:=288) (e:=238) (n:=20) (rest:=[]) (by kernel_rfl) (by kernel_rfl) (by kernel_rfl) (by kernel_rfl) (by kernel_rfl) (by kernel_rfl) hv
def types:List TypeId:=[22,36,23,40,3,9,47,34,82]
theorem closed:closedB Tryz.prog 9 types=true:=by decide +kernel
theorem shRows:shOf Tryz.prog 9 22=some [.sl 36]:=by decide +kernel
theorem shRow:shOf Tryz.prog 9 36=some (rowSh 82):=by decide +kernel
theorem shOps:shOf Tryz.prog 9 23=some [.sl 40]:=by decide +kernel
theorem shOp:shOf Tryz.prog 9 40=some (opSh 82):=by decide +kernel
theorem shAttr:shOf Tryz.prog 9 82=some [.str,.str]:=by decide +kernel
theorem shInt:shOf Tryz.prog 9 3=some [.int .i64]:=by decide +kernel
theorem shInts:shOf Tryz.prog 9 47=some [.sl 3]:=by decide +kernel
theorem dec_ints {tb:Nat→Option (List Sh)}:∀ {xs:List (List PV)},okVss tb [.int .i64] xs→∃ l:List Int,xs=intsPV l
  | [],_=>⟨[],rfl⟩
  | ps :: xs, h => by
    simp only [okVss] at h
    obtain ⟨n,r,rfl,_,hr⟩:=dec_int h.1
    obtain rfl:=dec_nil hr
    obtain ⟨l,rfl⟩:=dec_ints h.2
    exact ⟨n::l,rfl⟩
theorem bulk_ints:∀ l:List Int,l.length≤bulkLL (intsPV l)
  | []=>by simp
  | a :: l => by
    have:=bulk_ints l
    simp only [intsPV,List.map_cons,bulkLL,bulkL,PV.bulk,List.length_cons] at this ⊢
    omega
theorem params:Tryz.f4.params.toList=[22,47,23]:=by kernel_rfl
theorem bulk_ops:∀ (L:List GOp),(∀ x ∈ L,bulkL x.pv≤bulkLL (L.map GOp.pv))∧9*L.length≤bulkLL (L.map GOp.pv)
  | []=>by simp [bulkLL]
  | a :: l => by
    obtain ⟨h1,h2⟩:=bulk_ops l
    have:=bulk_op a
    simp only [List.map_cons,bulkLL,List.length_cons]
    refine ⟨fun b hb => ?_,by omega⟩
    rcases List.mem_cons.1 hb with rfl | hb
    · omega
    · have:=h1 b hb;omega
theorem contract (H:Type) (enc:TypeId × Value→H) (W:World) (base:Nat) (args:Array Value) (ds gs:List (DataW H)) (before:List MemPlace)
  (hval:∀ (j:Nat) t v,Tryz.f4.params[j]? = some t→args[j]? = some v→Value.okWide Tryz.prog W .any base t v)
  (hW:DataW.Whole enc Tryz.prog Tryz.f4.params.toList Rows.interpRunsSpec.vars false W args.toList ds gs before) (hk:Rows.uptoSmall H (ds++gs)=true) (hL:laidMetH Tryz.prog Rows.interpRunsRow.laid W) :
  Calls Tryz.prog 4 args W fun e W'=>∃ v,e = .returned v∧Rows.interpRunsSpec.post enc Tryz.prog Tryz.f4 false true false false W args v W':=by
 have hW':=hW
 obtain ⟨p,q,hA,hV,rfl,_,_⟩:=hW'
 obtain ⟨rfl,rfl⟩:=trodVars_none hV
 rw [List.append_nil] at hk
 have hbound:Rows.uptoBulkAll ds≤1048576:=of_decide_eq_true hk
 have hlen:=trod_len hA
 rw [params] at hA hlen
 obtain ⟨pss,h1,h2,h3,h4⟩:=args_rel (gs:=types) (D0:=9) kids full bulk closed hA (by decide) (fun j t v hj hv=>⟨_,_,hval j t v (by rw [← Array.getElem?_toList,params];exact hj) (by simpa using hv)⟩)
 match pss,h1 with
 | [ps1,ps2,ps3],h1=>
 obtain ⟨⟨shs1,hs1,hok1⟩,⟨shs2,hs2,hok2⟩,⟨shs3,hs3,hok3⟩,_⟩:=h1
 rw [shRows] at hs1
 rw [shInts] at hs2
 rw [shOps] at hs3
 simp only [Option.some.injEq] at hs1 hs2 hs3
 subst hs1 hs2 hs3
 obtain ⟨xs1,r1,rfl,hx1,hr1⟩:=dec_list shRow hok1
 obtain rfl:=dec_nil hr1
 obtain ⟨l1,rfl,hl1⟩:=dec_rows shAttr hx1
 obtain ⟨xs2,r2,rfl,hx2,hr2⟩:=dec_list shInt hok2
 obtain rfl:=dec_nil hr2
 obtain ⟨l2,rfl⟩:=dec_ints hx2
 obtain ⟨xs3,r3,rfl,hx3,hr3⟩:=dec_list shOp hok3
 obtain rfl:=dec_nil hr3
 obtain ⟨l3,rfl,hl3⟩:=dec_ops shAttr hx3
 have hb1:bulkLL (l1.map GRow.pv)<1048577:=by simp only [bulkLL,bulkL,PV.bulk] at h2;omega
 have hb2:bulkLL (intsPV l2)≤1048576:=by simp only [bulkLL,bulkL,PV.bulk] at h2;omega
 have hb3:bulkLL (l3.map GOp.pv)≤1048575:=by simp only [bulkLL,bulkL,PV.bulk] at h2;omega
 obtain ⟨fuel,hrun⟩:=Go.TA.Tryz.interpRuns_run l1 l2 l3 (small_rows hb1 (Nat.le_refl _)) (fun x hx=>(Go.TA.Tryz.smallOp_of (n:=1048576) (by have:=(bulk_ops l3).1 x hx;omega) (Nat.le_refl _)).1) (by have:=(bulk_ops l3).2;omega) (by have:=bulk_ints l2;omega)
 have ha0:aggT Tryz.prog 22=false:=by decide +kernel
 have ha1:aggT Tryz.prog 23=false:=by decide +kernel
 have ha2:aggT Tryz.prog 47=false:=by decide +kernel
 have hargs:argsOf Tryz.prog [22,47,23] [[.list (l1.map GRow.pv)],[.list (intsPV l2)],[.list (l3.map GOp.pv)]]=[.list (l1.map GRow.pv),.list (intsPV l2),.list (l3.map GOp.pv)]:=by simp [argsOf,argOf,ha0,ha1,ha2]
 rw [hargs] at h3 h4
 refine (law_calls_at (ΓW_holds (table hL)) Go.TA.Tryz.mixed (Go.TA.Tryz.T_okW W) (ps:=[.list (l1.map GRow.pv),.list (intsPV l2),.list (l3.map GOp.pv)]) hrun (by simpa using h3) h4).mono fun e W' ⟨he,hB⟩=>⟨_,he, ?_⟩
 refine law_post kids full hW rfl (tb:=4) rfl (by kernel_rfl) (by rw [params];decide +kernel) ?_ hB
 match ds,hlen with
 | [d1,d2,d3],_=>rfl
def wargs:Array Value := #[.slice none 0 0,.slice none 0 0,.slice none 0 0]
def put (k:IntKind) (zs:List Int):Obj→Obj
 | .cells _ t frozen => .cells (zs.map fun z=>Value.int k z).toArray t frozen
 | o=>o
def bits32:List Int:=[0,1,28,2,29,14,24,3,30,22,20,15,25,17,4,8,31,27,13,23,21,19,16,7,26,12,18,6,11,5,10,9]
def bits64:List Int:=[0,1,56,2,57,49,28,3,61,58,42,50,38,29,17,4,62,47,59,36,45,43,51,22,53,39,33,30,24,18,12,5,63,55,48,27,60,41,37,16,46,35,44,21,52,32,23,11,54,26,40,15,34,20,31,10,25,14,19,9,13,8,7,6]
noncomputable def laidWorld (os:Os):World :=
 { World.holding Tryz.prog os ⟨#[], #[],[]⟩ with heap:=(((World.holding Tryz.prog os ⟨#[], #[],[]⟩).heap.modify 0 (put .u64 Lib.pow10Tab)).modify 2 (put .u8 bits32)).modify 3 (put .u8 bits64) }
theorem laid_met (os:Os):laidMet Tryz.prog Rows.interpRunsRow.laid ((laidWorld os).forCall (fun _ _=>0) ⟨#[],wargs,[]⟩).memory :=
 laidMet_of_run' 8 (by kernel_rfl) (by kernel_rfl)
theorem reads (os:Os) {H:Type} (enc:TypeId × Value→H):∃ places,DataW.whole enc Tryz.prog ((laidWorld os).forCall (fun _ _=>0) ⟨#[],wargs,[]⟩).memory Tryz.f4.params.toList Rows.interpRunsSpec.vars false wargs.toList 8=some ([.nil,.nil,.nil],[],places) :=
 ⟨[],by kernel_rfl⟩
theorem liftedUpto (os:Os) (started:os.Started) (H:Type) (enc:TypeId × Value→H) (F:Stop.Interp) :
  ReturnsInHanded {} Tryz.checked os 4 .any ((Rows.OpenSpec.upto Rows.interpRunsSpec).preRow enc Tryz.prog Tryz.f4 Rows.interpRunsUptoRow.domain false Rows.interpRunsUptoRow.laid) (((Rows.OpenSpec.upto Rows.interpRunsSpec).at F).post enc Tryz.prog Tryz.f4 false true false false):=by
 obtain ⟨places,hx⟩:=reads os enc
 refine returnsInHanded_of_row (C:=Tryz.checked) (s:=Rows.OpenSpec.upto Rows.interpRunsSpec) own started (by kernel_rfl) Tryz.func4
  (witness_row_at (enc:=enc) (C:=Tryz.checked) false (laidWorld os) wargs rfl (by kernel_rfl) (by kernel_rfl) (by kernel_rfl)
   (OpenSpec.preRow_of_cond 8 hx (by kernel_rfl) (fun k hk=>by cases hk;kernel_rfl) (by kernel_rfl) (laid_met os))) ?_
 intro W base args ds gs before hval hW _ hcond _ hL _ _
 exact contract H enc W base args ds gs before hval hW (hcond _ rfl) hL
theorem saidUpto:Rows.InterpRunsUptoSaid :=
 OpenClaim.holds_of_cond 4 Tryz.f4 rfl rfl rfl rfl rfl rfl rfl ⟨rfl,rfl,rfl,rfl,rfl⟩ rfl rfl rfl rfl rfl (by kernel_rfl) Tryz.func4 (by kernel_rfl)
  (of_decide_eq_true (by kernel_rfl)) (by unfold Func.isWrapper;first | (rw [if_pos (by decide +kernel)];kernel_rfl) | (rw [if_neg (by decide +kernel)];exact ⟨rfl,rfl⟩))
  (fun os started H enc _ F=>by rw [OpenClaim.pre_eq_preRow];exact liftedUpto os started H enc F)
theorem plain (f:FuncId) (fn:Func) (hf:Tryz.pinned.checked.prog.funcNamed "tendril/tendrillaw29.InterpRuns" = some f) (hfn:Tryz.pinned.checked.prog.funcs[f]? = some fn) :
  false=Tryz.pinned.checked.prog.looks []∧∀ (j:Nat) t,fn.params[j]? = some t→Tryz.pinned.checked.prog.wantsStandIn t=false:=by
 obtain rfl:f=4:=Option.some.inj ((show Tryz.prog.funcNamed "tendril/tendrillaw29.InterpRuns" = some 4 by kernel_rfl).symm.trans hf) |>.symm
 obtain rfl:fn=Tryz.f4:=(Option.some.inj (Tryz.func4.symm.trans hfn)).symm
 refine ⟨by kernel_rfl,fun j t ht => ?_⟩
 have hm:t ∈ [22,47,23]:=by
  rw [← params]
  exact Array.mem_toList_iff.2 (Array.mem_of_getElem? ht)
 have hall:[22,47,23].all (fun t=>Tryz.prog.wantsStandIn t==false)=true:=by kernel_rfl
 exact beq_iff_eq.1 (List.all_eq_true.1 hall t hm)
theorem holds:Rows.InterpRunsUptoCardSaid :=
 Claim7.holds_tied_plain_at .later [] _ _ _ _ saidUpto (fun _ h=>by cases h) (by kernel_rfl) (fun _ h=>by cases h) interpRunsUpto_row_tie rfl ⟨rfl,rfl⟩ (by kernel_rfl) rfl plain (by kernel_rfl)
end Go.Proofs.YtbgbmdjfogohnaaGreatDoor.interpRuns


end
