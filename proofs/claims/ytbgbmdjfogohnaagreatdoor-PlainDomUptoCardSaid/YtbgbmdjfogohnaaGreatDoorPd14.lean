/- Part 14 of 14 of a proof; joined from PdmMRows, PdmMNext, PdmAttrsEq, PdmPlainEq, PdmFew, PdmFewR, PdmSmallM, StepsAttrs, PdmSame27, PdmDomLaw, PdmDomLaw2, PdmPlainDomFin. The law PlainDom, for every input of bulk at most 1048576: the call returns true, and nothing that was there has changed. -/
import Derived.Test.YtbgbmdjfogohnaaGreatDoorPd1
import Derived.Test.YtbgbmdjfogohnaaGreatDoorPd13
import Derived.Test.YtbgbmdjfogohnaaGreatDoorPd6
import Derived.Test.YtbgbmdjfogohnaaGreatDoorPd10
import Derived.Test.YtbgbmdjfogohnaaGreatDoorPd12
import Derived.Test.YtbgbmdjfogohnaaGreatDoorPd11
import Derived.Test.YtbgbmdjfogohnaaGreatDoorCards
import Derived.Test.YtbgbmdjfogohnaaGreatDoorTie
import Derived.WalkKit
import Derived.ProofKit
import Derived.OpenShut
import Derived.JoinedCond
import Derived.Deep.DeepHandedRow
import Derived.Lib.LaidTab
set_option linter.unusedSimpArgs false
set_option linter.unusedVariables false
set_option linter.defProp false
set_option maxRecDepth 100000
set_option maxHeartbeats 8000000
section
/- The rows of a machine. -/
namespace Go.TA.Tryz
def memR (S:MS) (av:Nat→AV) (rest:List AObj) (q:Nat) (out:List GRow):List AObj:=b0m S.N S.st av (rest.set q (.pcells 6 (out.map GRow.pv)))
theorem d0q {R : Nat} {S : MS} (hS : S.Ok R) (hN : S.N ≤ 4194304) (av : Nat → AV) (rest : List AObj) (hM : MOk S.N av S.kd rest) (q : Nat) (hq : q < rest.length) (hqf : ∀ k, k < S.N → b2o (av k) ≠ some (q + 1 + 1)) (m : Nat) (hm : S.N + 1 < m) (d h : Nat) (up : Int) (out : List GRow) (hh : h < S.N) (hp : PreO S out h) (hol : out.length ≤ S.N)
    (ih:∀ c:Nat,c<S.N→(S.st c).up=(h:Int)→∀ (out:List GRow) (up:Int),out.length≤S.N→PreO S out c→b0g T m 72 [MP,.own true (q+1+1) out.length,.p (.int .i64 c),.p (.int .i64 up)] (memR S av rest q out)=some (.own true (q+1+1) (b2l S d out (c:Int) up).length,memR S av rest q (b2l S d out (c:Int) up))) :
    b0g T (m+1) 72 [MP,.own true (q+1+1) out.length,.p (.int .i64 h),.p (.int .i64 up)] (memR S av rest q out)=some (.own true (q+1+1) (b2l S (d+1) out (h:Int) up).length,memR S av rest q (b2l S (d+1) out (h:Int) up)):=by
  have hK:=hM.kids h hh
  have hkl:=hS.kids_len hh
  have len1:(b0x S.N S.st av).length=S.N:=b2i
  have k1:(h:Int)<(S.N:Int):=by omega
  have hgh:(b0x S.N S.st av).getD h []=b1t (S.st h) (av h):=b1y hh
  have il:=b3c (S.kd h)
  have hinv:=g0h hS (d:=d) (up:=up) hh hp
  have hloop:b0r (b0g T m) m (.loop g4q) ⟨[(0,MP),(1,.own true (q+1+1) out.length),(3,.p (.int .i64 up)),(19,av h),(20,.p (.int .i64 (S.kd h).length)),(21,.p (.int .i64 0))],[],memR S av rest q out⟩=some (.exit 0,⟨[(1,.own true (q+1+1) (b2l S (d+1) out (h:Int) up).length)],[],memR S av rest q (b2l S (d+1) out (h:Int) up)⟩):=by
    have key:=b2v (C:=b0g T m) (N:=m) (B:=g4q) (σ := Nat) (S:=fun i=>⟨[(0,MP),(1,.own true (q+1+1) (outI S d out h up i).length),(3,.p (.int .i64 up)),(19,av h),(20,.p (.int .i64 (S.kd h).length)),(21,.p (.int .i64 i))],[],memR S av rest q (outI S d out h up i)⟩)
      (I:=fun i=>i≤(S.kd h).length) (μ := fun i=>(S.kd h).length - i) (Q:=fun z=>z=(.exit 0,⟨[(1,.own true (q+1+1) (b2l S (d+1) out (h:Int) up).length)],[],memR S av rest q (b2l S (d+1) out (h:Int) up)⟩)) ?_ 0 (by omega) (by omega)
    · obtain ⟨z,hz,rfl⟩:=key
      rw [c3b] at hz
      exact hz
    intro i hi
    by_cases hil:i<(S.kd h).length
    · left
      obtain ⟨k,hk⟩:∃ k,(S.kd h)[i]? = some k:=⟨_,List.getElem?_eq_getElem hil⟩
      have hkm:=List.mem_of_getElem? hk
      obtain ⟨c,rfl,hc,_,hcu⟩:=hS.kids h hh k hkm
      obtain ⟨hpo,hpm⟩:=hinv i hi
      have hpre:=d8m hS up hh hp hpo hpm hk hc hcu
      have hol1:=hpo.len
      have ho:=c3c (S:=S) (d:=d) (out:=out) (up:=up) hk
      have hol2:(outI S d out h up i++[rowM S (c:Int) up]).length≤S.N:=by
        have:=c0e S.N _ hpre.nodup (fun k hk=>by
          obtain ⟨x,hx,rfl⟩:=List.mem_map.1 hk
          exact hpre.rng x hx)
        rwa [List.length_map] at this
      have ihc:=ih c hc hcu _ (((outI S d out h up i).length:Int)+1) hol2 hpre
      rw [← ho] at ihc
      refine ⟨i+1, ?_,by omega,by omega⟩
      generalize outI S d out h up i=o1 at hol1 hol2 ihc ⊢
      generalize outI S d out h up (i+1)=o2 at ihc ⊢
      have k2:(i:Int)<((S.kd h).length:Int):=by omega
      have k3:(c:Int)<(S.N:Int):=by omega
      have hg:=b7b hk
      have hgc:(b0x S.N S.st av).getD c []=b1t (S.st c) (av c):=b1y hc
      have hcl:=b4j (S.st c).attrs (hS.attrs c hc) [] (m - 1)
      rw [show m - 1+1=m by omega] at hcl
      have os:o1.map GRow.pv++[[.int .i64 (c:Int),.int .i64 up,.str (S.st c).tag,.str (S.st c).key,.str (S.st c).text,.list ((S.st c).attrs.map Attr.pv)]]=(o1++[rowM S (c:Int) up]).map GRow.pv:=by
        rw [List.map_append];rfl
      have ol1:(o1.map GRow.pv).length=o1.length:=by simp
      have ol2:(o1++[rowM S (c:Int) up]).length=o1.length+1:=by simp
      rw [ol2] at ihc
      have ol3:((o1++[rowM S (c:Int) up]).map GRow.pv).length=o1.length+1:=by simp
      generalize o1++[rowM S (c:Int) up]=o3 at os ihc ol3
      have hgq:(rest.set q (.pcells 6 (o1.map GRow.pv)))[q]? = some (.pcells 6 (o1.map GRow.pv)):=by rw [List.getElem?_set,if_pos rfl,if_pos hq]
      have hss:∀ o o':AObj,(rest.set q o).set q o'=rest.set q o':=fun o o'=>by simp
      simp only [b1t] at hgc
      rcases hK.inv with ⟨_,hk0⟩ | ⟨r,hav,hr⟩ | hav
      · rw [hk0] at hil;simp at hil
      · have hrq:r≠q:=fun e=>hqf h hh (by rw [hav,e];rfl)
        have hgr:(rest.set q (.pcells 6 (o1.map GRow.pv)))[r]? = some (.pcells 1 (b0p (S.kd h))):=by rw [List.getElem?_set,if_neg (fun e=>hrq e.symm)];exact hr
        rcases (hM.kids c hc).inv with ⟨hav2,_⟩ | ⟨r2,hav2,_⟩ | hav2
        all_goals
          simp only [hav2] at hgc
          simp only [memR,b0m,hav] at ihc ⊢
          simp -implicitDefEqProofs (disch:=omega) only [Rx,simprocAttr,g4q,k2,k3,hg,hgc,len1,hgq,hgr,il,hss,hcl,os,ol1,ol3,ihc]
      · rcases (hM.kids c hc).inv with ⟨hav2,_⟩ | ⟨r2,hav2,_⟩ | hav2
        all_goals
          simp only [hav2] at hgc
          simp only [memR,b0m,hav] at ihc ⊢
          simp -implicitDefEqProofs (disch:=omega) only [Rx,simprocAttr,g4q,k2,k3,hg,hgc,len1,hgq,il,hss,hcl,os,ol1,ol3,ihc]
    · right
      obtain rfl:i=(S.kd h).length:=by omega
      have k2:¬ ((S.kd h).length:Int)<((S.kd h).length:Int):=by omega
      refine ⟨_, ?_, ?_,rfl⟩
      · rw [c6m]
        generalize b2l S (d+1) out (h:Int) up=o1
        rcases hK.inv with ⟨hav,_⟩ | ⟨r,hav,_⟩ | hav
        all_goals
          simp only [hav]
          simp -implicitDefEqProofs (disch:=omega) only [Rx,simprocAttr,g4q,k2]
      · simp
  rw [b0a T72,b0e rfl rfl]
  simp only [b1t] at hgh
  generalize b2l S (d+1) out (h:Int) up=o2 at hloop ⊢
  rcases hK.inv with ⟨hav,hk0⟩ | ⟨r,hav,hr⟩ | hav
  · simp only [hk0,List.length_nil,Int.natCast_zero] at hloop
    simp only [memR,b0m,hav] at hloop hgh ⊢
    simp -implicitDefEqProofs (disch:=omega) only [Rx,simprocAttr,F72,k1,len1,hgh,hloop]
  · have hrq:r≠q:=fun e=>hqf h hh (by rw [hav,e];rfl)
    have hgr:(rest.set q (.pcells 6 (out.map GRow.pv)))[r]? = some (.pcells 1 (b0p (S.kd h))):=by rw [List.getElem?_set,if_neg (fun e=>hrq e.symm)];exact hr
    simp only [memR,b0m,hav] at hloop hgh ⊢
    simp -implicitDefEqProofs (disch:=omega) only [Rx,simprocAttr,F72,k1,len1,hgh,hloop]
  · simp only [memR,b0m,hav] at hloop hgh ⊢
    simp -implicitDefEqProofs (disch:=omega) only [Rx,simprocAttr,F72,k1,len1,hgh,il,hloop]
theorem g7d {R:Nat} {S:MS} (hS:S.Ok R) (hN:S.N≤4194304) (av:Nat→AV) (rest:List AObj) (hM:MOk S.N av S.kd rest) (q:Nat) (hq:q<rest.length) (hqf:∀ k,k<S.N→b2o (av k)≠some (q+1+1)) {r:Nat→Nat} (hr1:∀ c,c<S.N→r c≤R) (hr2:∀ c p:Nat,c<S.N→(S.st c).up=(p:Int)→r p<r c) (n:Nat) (hn:S.N+1<n) :
    ∀ (d h : Nat) (up : Int) (out : List GRow), h < S.N → R ≤ r h + d → out.length ≤ S.N → PreO S out h →
      b0g T (n+d+1) 72 [MP,.own true (q+1+1) out.length,.p (.int .i64 h),.p (.int .i64 up)] (memR S av rest q out)=some (.own true (q+1+1) (b2l S (d+1) out (h:Int) up).length,memR S av rest q (b2l S (d+1) out (h:Int) up)):=by
  intro d
  induction d with
  | zero =>
    intro h up out hh hR hol hp
    exact d0q hS hN av rest hM q hq hqf n hn 0 h up out hh hp hol (fun c hc hcu=>by
      have:=hr1 c hc
      have:=hr2 c h hc hcu
      omega)
  | succ d ih =>
    intro h up out hh hR hol hp
    exact d0q hS hN av rest hM q hq hqf (n+d+1) (by omega) (d+1) h up out hh hp hol (fun c hc hcu out up hol hp=>by
      have:=hr2 c h hc hcu
      exact ih c up out hc (by omega) hol hp)
theorem h4c {R:Nat} {S:MS} (hS:S.Ok R) (hN:S.N≤4194304) (av:Nat→AV) (rest:List AObj) (hM:MOk S.N av S.kd rest) {n:Nat} (hn:S.N+1<n) :
  b0g T (n+R+2) 21 [MP] (b0m S.N S.st av rest)=some (.own true (rest.length+1+1) (b2n S R).length,b0m S.N S.st av (rest++[.pcells 6 ((b2n S R).map GRow.pv)])):=by
 have hM':MOk S.N av S.kd (rest++[.pcells 6 []]):=⟨fun h hh=>(hM.kids h hh).more _,hM.disj⟩
 obtain ⟨r,hr1,hr2⟩:=hS.rank
 have hr:=g7d hS hN av (rest++[.pcells 6 []]) hM' rest.length (by simp) (fun k hk e=>by
  have:=(hM.kids k hk).ref_lt e
  omega) hr1 hr2 n hn R 0 0 [] hS.pos (by omega) (by simp) d7y
 have hset:∀ o o':AObj,(rest++[o]).set rest.length o'=rest++[o']:=fun o o'=>by simp [List.set_append]
 have len1:(b0x S.N S.st av).length=S.N:=b2i
 have k0:((S.N:Int)==0)=false:=by have:=hS.pos;simp;omega
 simp only [memR,hset,Int.natCast_zero,List.map_nil,List.length_nil] at hr
 rw [b0a T21,b0e rfl rfl]
 unfold b2n
 generalize b2l S (R+1) [] 0 0=o at hr ⊢
 simp only [b0m] at hr ⊢
 simp -implicitDefEqProofs (disch:=omega) only [Rx,simprocAttr,F21,k0,hr]
end Go.TA.Tryz


end
section
/- The next handle. -/
namespace Go.TA.Tryz
theorem h4d (S:MS) (av:Nat→AV) (rest:List AObj) (n:Nat):b0g T (n+1) 23 [MP] (b0m S.N S.st av rest)=some (.p (.int .i64 S.N),b0m S.N S.st av rest):=by
 have len1:(b0x S.N S.st av).length=S.N:=b2i
 rw [b0a T23,b0e rfl rfl]
 simp only [b0m]
 simp -implicitDefEqProofs (disch:=omega) only [Rx,simprocAttr,F23]
end Go.TA.Tryz


end
section
/- Attributes held against themselves. -/
namespace Go.TA.Tryz
theorem d9l (l:List Attr) (hl:l.length≤4194304) (g:List AObj) {n:Nat} (hn:l.length<n):b0g T (n+1) 87 [.p (.list (l.map Attr.pv)),.p (.list (l.map Attr.pv))] g=some (.p (.bool true),g):=by
 have ll:(l.map Attr.pv).length=l.length:=by simp
 have hl:=b1w (C:=b0g T n) (N:=n) (B:=h4e) (σ := Nat) (S:=fun i=>⟨[(0,.p (.list (l.map Attr.pv))),(1,.p (.list (l.map Attr.pv))),(12,.p (.int .i64 l.length)),(13,.p (.int .i64 i))],[],[]⟩) (I:=fun i=>i≤l.length) (μ := fun i=>l.length - i) (Φ := fun i=>(.exit 0,⟨[],[],[]⟩)) ?_ 0 (by omega) (by omega)
 ·rw [b0a T87,run_pure rfl rfl rfl]
  simp only [Int.natCast_zero] at hl
  simp -implicitDefEqProofs (disch:=omega) only [Rx,simprocAttr,F87,hl,ll]
 intro i hi
 by_cases h:i<l.length
 ·left
  obtain ⟨x,hx⟩:=b0t h
  have hg:=b1l (f:=Attr.pv) hx
  have k1:(i:Int)<(l.length:Int):=by omega
  refine ⟨i+1, ?_,by omega,by omega,rfl⟩
  simp -implicitDefEqProofs (disch:=omega) only [Rx,simprocAttr,h4e,k1,ll,hg,Attr.pv,Bool.and_self]
 ·right
  obtain rfl:i=l.length:=by omega
  have k1:¬ (l.length:Int)<(l.length:Int):=by omega
  refine ⟨?_,by simp⟩
  simp -implicitDefEqProofs (disch:=omega) only [Rx,simprocAttr,h4e,k1]
end Go.TA.Tryz


end
section
/- Rows, and numbers, held against themselves. -/
namespace Go.TA.Tryz
theorem d4b (l:List GRow) (hl:l.length≤8589934592) (ha:∀ x ∈ l,x.attrs.length≤4194304) (g:List AObj) {n:Nat} (hn:l.length<n) (hn2:4194304<n):b0g T (n+2) 38 [.p (.list (l.map GRow.pv)),.p (.list (l.map GRow.pv))] g=some (.p (.bool true),g):=by
 have ll:(l.map GRow.pv).length=l.length:=by simp
 have hl:=b1w (C:=b0g T (n+1)) (N:=n+1) (B:=h4f) (σ := Nat) (S:=fun i=>⟨[(0,.p (.list (l.map GRow.pv))),(1,.p (.list (l.map GRow.pv))),(14,.p (.int .i64 l.length)),(15,.p (.int .i64 i))],[],[]⟩) (I:=fun i=>i≤l.length) (μ := fun i=>l.length - i) (Φ := fun i=>(.exit 0,⟨[],[],[]⟩)) ?_ 0 (by omega) (by omega)
 ·rw [b0a T38,run_pure rfl rfl rfl]
  simp only [Int.natCast_zero] at hl
  simp -implicitDefEqProofs (disch:=omega) only [Rx,simprocAttr,F38,hl,ll]
 intro i hi
 by_cases h:i<l.length
 ·left
  obtain ⟨x,hx⟩:=b0t h
  have hg:=b1l (f:=GRow.pv) hx
  have k1:(i:Int)<(l.length:Int):=by omega
  have hat:=fun g=>d9l x.attrs (ha x (List.mem_of_getElem? hx)) g (n:=n) (by have:=ha x (List.mem_of_getElem? hx);omega)
  refine ⟨i+1, ?_,by omega,by omega,rfl⟩
  simp -implicitDefEqProofs (disch:=omega) only [Rx,simprocAttr,h4f,k1,ll,hg,GRow.pv,b0b,hat]
 ·right
  obtain rfl:i=l.length:=by omega
  have k1:¬ (l.length:Int)<(l.length:Int):=by omega
  refine ⟨?_,by simp⟩
  simp -implicitDefEqProofs (disch:=omega) only [Rx,simprocAttr,h4f,k1]
theorem g2f (l:List GRow) (hl:l.length≤8589934592) (ha:∀ x ∈ l,x.attrs.length≤4194304) (g:List AObj) {n:Nat} (hn:l.length<n) (hn2:4194304<n):b0g T (n+3) 20 [.p (.list (l.map GRow.pv)),.p (.list (l.map GRow.pv))] g=some (.p (.bool true),g):=by
 have ll:(l.map GRow.pv).length=l.length:=by simp
 have hsh:=fun g=>d4b l hl ha g (n:=n) hn hn2
 have hl:=b1w (C:=b0g T (n+2)) (N:=n+2) (B:=h4g) (σ := Nat) (S:=fun i=>⟨[(0,.p (.list (l.map GRow.pv))),(1,.p (.list (l.map GRow.pv))),(12,.p (.int .i64 l.length)),(13,.p (.int .i64 i))],[],[]⟩) (I:=fun i=>i≤l.length) (μ := fun i=>l.length - i) (Φ := fun i=>(.exit 0,⟨[(0,.p (.list (l.map GRow.pv))),(1,.p (.list (l.map GRow.pv)))],[],[]⟩)) ?_ 0 (by omega) (by omega)
 ·rw [b0a T20,run_pure rfl rfl rfl]
  simp only [Int.natCast_zero] at hl
  simp -implicitDefEqProofs (disch:=omega) only [Rx,simprocAttr,F20,hl,ll,hsh]
 intro i hi
 by_cases h:i<l.length
 ·left
  obtain ⟨x,hx⟩:=b0t h
  have hg:=b1l (f:=GRow.pv) hx
  have k1:(i:Int)<(l.length:Int):=by omega
  refine ⟨i+1, ?_,by omega,by omega,rfl⟩
  simp -implicitDefEqProofs (disch:=omega) only [Rx,simprocAttr,h4g,k1,ll,hg,GRow.pv]
 ·right
  obtain rfl:i=l.length:=by omega
  have k1:¬ (l.length:Int)<(l.length:Int):=by omega
  refine ⟨?_,by simp⟩
  simp -implicitDefEqProofs (disch:=omega) only [Rx,simprocAttr,h4g,k1]
end Go.TA.Tryz


end
section
/- The guard of most laws: whether operations are few. -/
set_option maxHeartbeats 1000000
namespace Go.TA.Tryz
theorem h3s {l:List Attr} {i:Nat} {a:Attr} (h:l[i]? = some a):(l.map Attr.pv).getD i []=[.str a.name,.str a.value]:=by
 rw [List.getD_eq_getElem?_getD,List.getElem?_map,h];rfl
theorem h2u {C:b0k} {N:Nat} (x:GOp) (p0 p11 p12:PV) (g:List AObj) (i:Nat) (a:Attr) (left:Int) (h:x.attrs[i]? = some a) (hb:x.attrs.length≤1048576) (ha:a.value.length+a.name.length≤1048576) (hl : -4611686018427387904≤left) (hl2:left≤4611686018427387904) :
  b0r C N d9o ⟨[(0,.p p0),(5,.p (.int .i64 left)),(7,.ptr false 7 9 1 0 0),(11,.p p11),(12,.p p12),(46,.p (.int .i64 x.attrs.length)),(47,.p (.int .i64 i))],[(7,.pcells 9 [x.pv])],g⟩ =
   some (.normal,⟨[(0,.p p0),(5,.p (.int .i64 (left - ((a.value.length:Int)+a.name.length).tdiv 4096))),(7,.ptr false 7 9 1 0 0),(11,.p p11),(12,.p p12),(46,.p (.int .i64 x.attrs.length)),(47,.p (.int .i64 (i+1)))],[(7,.pcells 9 [x.pv])],g⟩):=by
 have hlt:i<x.attrs.length:=(List.getElem?_eq_some_iff.1 h).1
 have h1:(i:Int)<(x.attrs.length:Int):=by omega
 have h2:=h3s h
 have q:0≤((a.value.length:Int)+(a.name.length:Int)).tdiv 4096∧((a.value.length:Int)+(a.name.length:Int)).tdiv 4096≤1048576:=by
  rw [Int.tdiv_eq_ediv_of_nonneg (by omega)];omega
 generalize hq:((a.value.length:Int)+(a.name.length:Int)).tdiv 4096=d at q ⊢
 obtain ⟨w1,w2,w3,w4⟩:IntKind.i64.wrap ((a.value.length:Int)+(a.name.length:Int))=(a.value.length:Int)+(a.name.length:Int)∧IntKind.i64.wrap d=d∧IntKind.i64.wrap (left - d)=left - d∧IntKind.i64.wrap ((i:Int)+1)=(i:Int)+1 :=
  ⟨b5o (by omega) (by omega),b5o (by omega) (by omega),b5o (by omega) (by omega),b5o (by omega) (by omega)⟩
 simp -implicitDefEqProofs (disch:=omega) only [Rx,simprocAttr,d9o,h1,h2,GOp.pv,b0b,w1,hq,w2,w3,w4]
theorem d5s {C:b0k} {N:Nat} (x:GOp) (p0 p11 p12:PV) (g:List AObj) (left:Int) :
  b0r C N d9o ⟨[(0,.p p0),(5,.p (.int .i64 left)),(7,.ptr false 7 9 1 0 0),(11,.p p11),(12,.p p12),(46,.p (.int .i64 x.attrs.length)),(47,.p (.int .i64 x.attrs.length))],[(7,.pcells 9 [x.pv])],g⟩ =
   some (.exit 2,⟨[(0,.p p0),(5,.p (.int .i64 left)),(11,.p p11),(12,.p p12)],[],g⟩):=by
 have h1:¬ ((x.attrs.length:Int)<(x.attrs.length:Int)):=by omega
 simp -implicitDefEqProofs (disch:=omega) only [Rx,simprocAttr,d9o,h1]
def b2x (l:List Attr):Prop:=∀ a ∈ l,a.value.length+a.name.length≤1048576
theorem g8g {C:b0k} {N:Nat} (x:GOp) (p0 p11 p12:PV) (g:List AObj) (hb:x.attrs.length≤1048576) (hs:b2x x.attrs) (rest:List Attr):∀ (pre:List Attr) (m:Nat) (left:Int),x.attrs=pre++rest→rest.length<m →
    -4611686018427387904+1048576*(rest.length:Int)≤left→left≤4611686018427387904 →
    d6r C N d9o m ⟨[(0,.p p0),(5,.p (.int .i64 left)),(7,.ptr false 7 9 1 0 0),(11,.p p11),(12,.p p12),(46,.p (.int .i64 x.attrs.length)),(47,.p (.int .i64 pre.length))],[(7,.pcells 9 [x.pv])],g⟩ =
      some (.exit 2,⟨[(0,.p p0),(5,.p (.int .i64 (b1x rest left))),(11,.p p11),(12,.p p12)],[],g⟩):=by
  induction rest with
  | nil =>
    intro pre m left hd hm h1 h2
    obtain ⟨m,rfl⟩:∃ k,m=k+1:=⟨m - 1,by simp at hm;omega⟩
    have e:pre.length=x.attrs.length:=by rw [hd];simp
    rw [e,b7e,d5s,c8z];rfl
  | cons a rest ih =>
    intro pre m left hd hm h1 h2
    obtain ⟨m,rfl⟩:∃ k,m=k+1:=⟨m - 1,by simp at hm;omega⟩
    have hget:x.attrs[pre.length]? = some a:=by rw [hd];simp
    have hmem:a ∈ x.attrs:=List.mem_of_getElem? hget
    simp only [List.length_cons,Int.natCast_add,Int.natCast_one] at hm h1
    have q:0≤((a.value.length:Int)+(a.name.length:Int)).tdiv 4096∧((a.value.length:Int)+(a.name.length:Int)).tdiv 4096≤1048576:=by
      have:=hs a hmem
      rw [Int.tdiv_eq_ediv_of_nonneg (by omega)];omega
    rw [b7e,h2u x p0 p11 p12 g pre.length a left hget hb (hs a hmem) (by omega) h2,c0m]
    have:=ih (pre++[a]) m (left - ((a.value.length:Int)+a.name.length).tdiv 4096) (by rw [hd];simp) (by omega) (by omega) (by omega)
    rw [List.length_append,Int.natCast_add] at this
    exact this
theorem g3f {C:b0k} {N:Nat} (x:GOp) (p0 p11 p12:PV) (g:List AObj) (hb:x.attrs.length≤1048576) (hs:b2x x.attrs) (hN:x.attrs.length<N) {left:Int} (h1 : -4611686018427387904+1048576*(x.attrs.length:Int)≤left) (h2:left≤4611686018427387904) :
  b0r C N (.loop d9o) ⟨[(0,.p p0),(5,.p (.int .i64 left)),(7,.ptr false 7 9 1 0 0),(11,.p p11),(12,.p p12),(46,.p (.int .i64 x.attrs.length)),(47,.p (.int .i64 0))],[(7,.pcells 9 [x.pv])],g⟩ =
   some (.exit 2,⟨[(0,.p p0),(5,.p (.int .i64 (b1x x.attrs left))),(11,.p p11),(12,.p p12)],[],g⟩):=by
 rw [c1l]
 exact g8g x p0 p11 p12 g hb hs x.attrs [] N left rfl hN h1 h2
def c1z (x:GOp):Prop:=x.attrs.length≤1048576∧b2x x.attrs∧x.text.length+x.key.length+x.tag.length+x.name.length≤1048576
theorem g2b {x:GOp} {n:Nat} (h:b5y x.pv≤n) (hn:n≤1048576):c1z x∧x.attrs.length<n:=by
 rw [g9i] at h
 obtain ⟨h1,h2⟩:=c5f x.attrs
 refine ⟨⟨by omega,fun a ha=>by have:=h1 a ha;omega,by omega⟩,by omega⟩
theorem c6f (l:List Attr) (hs:b2x l):∀ left:Int,left - 1048576*(l.length:Int)≤b1x l left∧b1x l left≤left:=by
  induction l with
  | nil=>intro left;simp [b1x]
  | cons a l ih =>
    intro left
    have ha:=hs a (by simp)
    have q:0≤((a.value.length:Int)+(a.name.length:Int)).tdiv 4096∧((a.value.length:Int)+(a.name.length:Int)).tdiv 4096≤1048576:=by
      rw [Int.tdiv_eq_ediv_of_nonneg (by omega)];omega
    obtain ⟨z1,z2⟩:=ih (fun b hb=>hs b (by simp [hb])) (left - ((a.value.length:Int)+a.name.length).tdiv 4096)
    simp only [b1x,List.length_cons,Int.natCast_add,Int.natCast_one]
    constructor <;> omega
theorem h8m {l:List GOp} {i:Nat} {x:GOp} (h:l[i]? = some x):(l.map GOp.pv).getD i []=x.pv:=by
 rw [List.getD_eq_getElem?_getD,List.getElem?_map,h];rfl
def b6m (x:GOp):Int:=((x.text.length:Int)+x.key.length+x.tag.length+x.name.length).tdiv 4096
theorem c3u {x:GOp} (h:c1z x):0≤b6m x∧b6m x≤1048576:=by
 have:=h.2.2
 unfold b6m
 rw [Int.tdiv_eq_ediv_of_nonneg (by omega)];omega
theorem h8y {C:b0k} {N:Nat} (l:List GOp) (g:List AObj) (i:Nat) (x:GOp) (left:Int) (h:l[i]? = some x) (hx:c1z x) (hN:x.attrs.length<N) (hlen:l.length≤1048576) (hl : -1099511627776≤left) (hl2:left≤1099511627776) :
  b0r C N d9p ⟨[(0,.p (.list (l.map GOp.pv))),(5,.p (.int .i64 left)),(11,.p (.int .i64 l.length)),(12,.p (.int .i64 i))],[],g⟩ =
   if left - 1 - x.attrs.length - b6m x<0 then some (.ret,⟨[(4,.p (.bool false))],[],g⟩) else
   some (.normal,⟨[(0,.p (.list (l.map GOp.pv))),(5,.p (.int .i64 (b1x x.attrs (left - 1 - x.attrs.length - b6m x)))),(11,.p (.int .i64 l.length)),(12,.p (.int .i64 (i+1)))],[],g⟩):=by
 have hlt:i<l.length:=(List.getElem?_eq_some_iff.1 h).1
 have h1:(i:Int)<(l.length:Int):=by omega
 have h2:=h8m h
 obtain ⟨b1,b2,b3⟩:=hx
 have q:=c3u (x:=x) ⟨b1,b2,b3⟩
 have hq:((x.text.length:Int)+x.key.length+x.tag.length+x.name.length).tdiv 4096=b6m x:=rfl
 generalize b6m x=d at q hq ⊢
 obtain ⟨w1,w2,w3,w4,w5,w6,w7,w8⟩:IntKind.i64.wrap ((x.text.length:Int)+x.key.length)=(x.text.length:Int)+x.key.length∧IntKind.i64.wrap ((x.text.length:Int)+x.key.length+x.tag.length)=(x.text.length:Int)+x.key.length+x.tag.length ∧
   IntKind.i64.wrap ((x.text.length:Int)+x.key.length+x.tag.length+x.name.length)=(x.text.length:Int)+x.key.length+x.tag.length+x.name.length∧IntKind.i64.wrap d=d∧IntKind.i64.wrap (left - 1)=left - 1 ∧
   IntKind.i64.wrap (left - 1 - x.attrs.length)=left - 1 - x.attrs.length∧IntKind.i64.wrap (left - 1 - x.attrs.length - d)=left - 1 - x.attrs.length - d∧IntKind.i64.wrap ((i:Int)+1)=(i:Int)+1 :=
  ⟨b5o (by omega) (by omega),b5o (by omega) (by omega),b5o (by omega) (by omega),b5o (by omega) (by omega),b5o (by omega) (by omega),b5o (by omega) (by omega),b5o (by omega) (by omega),b5o (by omega) (by omega)⟩
 have hloop:=g3f (C:=C) (N:=N) x (.list (l.map GOp.pv)) (.int .i64 l.length) (.int .i64 i) g b1 b2 hN (left:=left - 1 - x.attrs.length - d) (by omega) (by omega)
 by_cases hneg:left - 1 - x.attrs.length - d<0
 ·simp -implicitDefEqProofs (disch:=omega) only [Rx,simprocAttr,d9p,h1,h2,GOp.pv,b0b,w1,hq,w2,w3,w4,w5,w6,w7,hneg]
 ·simp only [GOp.pv,b0b] at hloop
  simp -implicitDefEqProofs (disch:=omega) only [Rx,simprocAttr,d9p,h1,h2,GOp.pv,b0b,w1,hq,w2,w3,w4,w5,w6,w7,w8,hneg,hloop]
def g8h (r:Option Int) (l:PV) (n:Int) (g:List AObj):Ex × St:=match r with
 | none=>(.ret,⟨[(4,.p (.bool false))],[],g⟩)
 | some left=>(.exit 0,⟨[(5,.p (.int .i64 left))],[],g⟩)
theorem g3e {C:b0k} {N:Nat} (l:List GOp) (g:List AObj) (left:Int) :
  b0r C N d9p ⟨[(0,.p (.list (l.map GOp.pv))),(5,.p (.int .i64 left)),(11,.p (.int .i64 l.length)),(12,.p (.int .i64 l.length))],[],g⟩=some (.exit 0,⟨[(5,.p (.int .i64 left))],[],g⟩):=by
 have h1:¬ ((l.length:Int)<(l.length:Int)):=by omega
 simp -implicitDefEqProofs (disch:=omega) only [Rx,simprocAttr,d9p,h1]
theorem h6q {C:b0k} {N:Nat} (l:List GOp) (g:List AObj) (hs:∀ x ∈ l,c1z x∧x.attrs.length<N) (hlen:l.length≤1048576) (rest:List GOp):∀ (pre:List GOp) (m:Nat) (left:Int),l=pre++rest→rest.length<m→(pre≠[]→0≤left+1099511627776) → -1099511627776≤left→left≤1000000 →
    d6r C N d9p m ⟨[(0,.p (.list (l.map GOp.pv))),(5,.p (.int .i64 left)),(11,.p (.int .i64 l.length)),(12,.p (.int .i64 pre.length))],[],g⟩=some (g8h (c5b rest left) (.list (l.map GOp.pv)) l.length g):=by
  induction rest with
  | nil =>
    intro pre m left hd hm _ h1 h2
    obtain ⟨m,rfl⟩:∃ k,m=k+1:=⟨m - 1,by simp at hm;omega⟩
    have e:pre.length=l.length:=by rw [hd];simp
    rw [e,b7e,g3e,c8z];rfl
  | cons x rest ih =>
    intro pre m left hd hm _ h1 h2
    obtain ⟨m,rfl⟩:∃ k,m=k+1:=⟨m - 1,by simp at hm;omega⟩
    have hget:l[pre.length]? = some x:=by rw [hd];simp
    have hmem:x ∈ l:=List.mem_of_getElem? hget
    obtain ⟨hx,hN⟩:=hs x hmem
    rw [b7e,h8y l g pre.length x left hget hx hN hlen (by omega) (by omega)]
    have hc:c5b (x::rest) left=if left - 1 - x.attrs.length - b6m x<0 then none else c5b rest (b1x x.attrs (left - 1 - x.attrs.length - b6m x)):=rfl
    rw [hc]
    have q:=c3u hx
    by_cases hneg:left - 1 - x.attrs.length - b6m x<0
    · rw [if_pos hneg,if_pos hneg,g1o];rfl
    · rw [if_neg hneg,if_neg hneg,c0m]
      have hb:=c6f x.attrs hx.2.1 (left - 1 - x.attrs.length - b6m x)
      have hb2:(x.attrs.length:Int)≤1000000:=by omega
      simp only [List.length_cons] at hm
      have:=ih (pre++[x]) m (b1x x.attrs (left - 1 - x.attrs.length - b6m x)) (by rw [hd];simp) (by omega) (by omega) (by omega) (by omega)
      rw [List.length_append,Int.natCast_add] at this
      exact this
theorem h6p (l:List GOp) (most:Int) (g:List AObj) {n:Nat} (hs:∀ x ∈ l,c1z x∧x.attrs.length<n) (hlen:l.length≤1048576) (hn:l.length<n) (h1:0≤most) (h2:most≤1000000) :
    b0g T (n+1) 12 [.p (.list (l.map GOp.pv)),.p (.int .i64 most)] g=some (.p (.bool (g1a l most)),g):=by
  rw [b0a T12,run_pure rfl rfl rfl]
  have hloop:=h6q (C:=b0g T n) (N:=n) l [] hs hlen l [] n most rfl hn (by simp) (by omega) (by omega)
  rw [← c1l] at hloop
  cases hr:c5b l most with
  | none =>
    rw [hr] at hloop
    simp -implicitDefEqProofs only [F12,g8h,List.length_nil,Int.natCast_zero] at hloop ⊢
    simp -implicitDefEqProofs (disch:=omega) only [Rx,simprocAttr,hloop,g1a,hr]
  | some left =>
    rw [hr] at hloop
    simp -implicitDefEqProofs only [F12,g8h,List.length_nil,Int.natCast_zero] at hloop ⊢
    simp -implicitDefEqProofs (disch:=omega) only [Rx,simprocAttr,hloop,g1a,hr]
end Go.TA.Tryz


end
section
/- The other guard of most laws: whether rows are few. -/
set_option maxHeartbeats 1000000
namespace Go.TA.Tryz
def c7h (x:GRow):Int:=((x.text.length:Int)+x.key.length+x.tag.length).tdiv 4096
def b6w:List GRow→Int→Option Int
 | [],left=>some left
 | x::l,left=>if left - 1 - x.attrs.length - c7h x<0 then none else b6w l (b1x x.attrs (left - 1 - x.attrs.length - c7h x))
def d3f (l:List GRow) (most:Int):Bool:=match b6w l most with
 | some n=>decide (n ≥ 0)
 | none=>false
theorem c4l {x:Int} (h:0≤x) (h2:x≤2097152):0≤x.tdiv 4096∧x.tdiv 4096≤1048576:=by
 rw [Int.tdiv_eq_ediv_of_nonneg h];omega
theorem c9c (l:List Attr) (hs:b2x l):∀ left:Int,left - 1048576*(l.length:Int)≤b1x l left∧b1x l left≤left:=by
  induction l with
  | nil=>intro left;simp [b1x]
  | cons a l ih =>
    intro left
    have ha:=hs a (by simp)
    have q:=c4l (x:=(a.value.length:Int)+(a.name.length:Int)) (by omega) (by omega)
    obtain ⟨z1,z2⟩:=ih (fun b hb=>hs b (by simp [hb])) (left - ((a.value.length:Int)+a.name.length).tdiv 4096)
    simp only [b1x,List.length_cons,Int.natCast_add,Int.natCast_one]
    constructor <;> omega
theorem g3h {C : b0k} {N n : Nat} (l : List GRow) (i : Nat) (x : GRow) (h : l[i]? = some x) (hx : x.small n) (hn : n ≤ 1048577) (hN : n ≤ N) (left : Int) (hl : -1099511627776 ≤ left) (hl2 : left ≤ 1000000) :
    b0r C N (.loop h4h) ⟨[(0,.p (.list (l.map GRow.pv))),(5,.p (.int .i64 left)),(6,.p (.int .i64 i)),(10,.p (.int .i64 l.length)),(11,.p (.int .i64 i)),(52,.p (.int .i64 x.attrs.length)),(53,.p (.int .i64 0))],[],[]⟩ =
      some (.exit 2,⟨[(0,.p (.list (l.map GRow.pv))),(5,.p (.int .i64 (b1x x.attrs left))),(10,.p (.int .i64 l.length)),(11,.p (.int .i64 i))],[],[]⟩):=by
  have hlt:i<l.length:=(List.getElem?_eq_some_iff.1 h).1
  have hg:=b1l (f:=GRow.pv) h
  have:=hx.attrs
  refine b1w (σ := Nat × Int) (S:=fun s=>⟨[(0,.p (.list (l.map GRow.pv))),(5,.p (.int .i64 s.2)),(6,.p (.int .i64 i)),(10,.p (.int .i64 l.length)),(11,.p (.int .i64 i)),(52,.p (.int .i64 x.attrs.length)),(53,.p (.int .i64 s.1))],[],[]⟩)
    (I:=fun s=>s.1≤x.attrs.length ∧ -1099511627776 - 1048576*(s.1:Int)≤s.2∧s.2≤1000000) (μ := fun s=>x.attrs.length - s.1)
    (Φ := fun s=>(.exit 2,⟨[(0,.p (.list (l.map GRow.pv))),(5,.p (.int .i64 (b1x (x.attrs.drop s.1) s.2))),(10,.p (.int .i64 l.length)),(11,.p (.int .i64 i))],[],[]⟩)) ?_ (0,left) ?_ ?_
  · rintro ⟨k,left⟩ ⟨h1,h2,h3⟩
    simp only at h1 h2 h3 ⊢
    by_cases hk:k<x.attrs.length
    · obtain ⟨a,ha⟩:=b0t hk
      have hga:=b1l (f:=Attr.pv) ha
      have hs:=hx.small a (List.mem_of_getElem? ha)
      have q:=c4l (x:=(a.value.length:Int)+(a.name.length:Int)) (by omega) (by omega)
      refine .inl ⟨(k+1,left - ((a.value.length:Int)+a.name.length).tdiv 4096), ?_,⟨by omega,by simp only [Int.natCast_add,Int.natCast_one];omega,by omega⟩,by simp only;omega, ?_⟩
      · have k1:(k:Int)<(x.attrs.length:Int):=by omega
        have k2:(i:Int)<(l.length:Int):=by omega
        simp -implicitDefEqProofs (disch:=omega) only [Rx,simprocAttr,h4h,k1,k2,hg,hga,GRow.pv,b0b,Attr.pv]
      · rw [List.drop_eq_getElem?_toList_append,ha];rfl
    · refine .inr ⟨?_,by simp⟩
      have:k=x.attrs.length:=by omega
      subst this
      have k1:¬ ((x.attrs.length:Int)<(x.attrs.length:Int)):=by omega
      simp -implicitDefEqProofs (disch:=omega) only [Rx,simprocAttr,h4h,k1,List.drop_length,b1x]
  · simp only [Int.natCast_zero];omega
  · simp only;omega
def c0j (r:Option Int):Ex × St:=match r with
 | none=>(.ret,⟨[(4,.p (.bool false))],[],[]⟩)
 | some left=>(.exit 0,⟨[(5,.p (.int .i64 left))],[],[]⟩)
theorem g3g {C : b0k} {N n : Nat} (l : List GRow) (hl : Rows.small n l) (hn : n ≤ 1048577) (hN : n ≤ N) (most : Int) (h1 : 0 ≤ most) (h2 : most ≤ 1000000) :
    b0r C N (.loop h0e) ⟨[(0,.p (.list (l.map GRow.pv))),(5,.p (.int .i64 most)),(10,.p (.int .i64 l.length)),(11,.p (.int .i64 0))],[],[]⟩=some (c0j (b6w l most)):=by
  have hlen:=hl.len
  refine b1w (σ := Nat × Int) (S:=fun s=>⟨[(0,.p (.list (l.map GRow.pv))),(5,.p (.int .i64 s.2)),(10,.p (.int .i64 l.length)),(11,.p (.int .i64 s.1))],[],[]⟩)
    (I:=fun s=>s.1≤l.length ∧ -1099511627776≤s.2∧s.2≤1000000) (μ := fun s=>l.length - s.1)
    (Φ := fun s=>c0j (b6w (l.drop s.1) s.2)) ?_ (0,most) ?_ ?_
  · rintro ⟨i,left⟩ ⟨h1,h2,h3⟩
    simp only at h1 h2 h3 ⊢
    by_cases hi:i<l.length
    · obtain ⟨x,hx⟩:=b0t hi
      have hgx:=b1l (f:=GRow.pv) hx
      have hs:=hl.row x (List.mem_of_getElem? hx)
      have q:=c4l (x:=(x.text.length:Int)+x.key.length+x.tag.length) (by omega) (by have:=hs.text;omega)
      have ha:=hs.attrs
      have hd:l.drop i=x::l.drop (i+1):=by rw [List.drop_eq_getElem?_toList_append,hx];rfl
      have k2:(i:Int)<(l.length:Int):=by omega
      have hc:b6w (l.drop i) left=if left - 1 - x.attrs.length - c7h x<0 then none else b6w (l.drop (i+1)) (b1x x.attrs (left - 1 - x.attrs.length - c7h x)):=by rw [hd];rfl
      have htx:=hs.text
      unfold c7h at hc
      by_cases hneg:left - 1 - x.attrs.length - ((x.text.length:Int)+x.key.length+x.tag.length).tdiv 4096<0
      · refine .inr ?_
        rw [hc,if_pos hneg]
        refine ⟨?_,by simp [c0j]⟩
        simp -implicitDefEqProofs (disch:=omega) only [Rx,simprocAttr,h0e,k2,hgx,GRow.pv,b0b,hneg,c0j]
      · have hb:=c9c x.attrs hs.small (left - 1 - x.attrs.length - ((x.text.length:Int)+x.key.length+x.tag.length).tdiv 4096)
        have hloop:=g3h (C:=C) (N:=N) (n:=n) l i x hx hs hn hN (left - 1 - x.attrs.length - ((x.text.length:Int)+x.key.length+x.tag.length).tdiv 4096) (by omega) (by omega)
        refine .inl ⟨(i+1,b1x x.attrs (left - 1 - x.attrs.length - ((x.text.length:Int)+x.key.length+x.tag.length).tdiv 4096)), ?_,⟨by omega,by simp only;omega,by simp only;omega⟩,by simp only;omega,by simp only;rw [hc,if_neg hneg]⟩
        simp -implicitDefEqProofs (disch:=omega) only [Rx,simprocAttr,h0e,k2,hgx,GRow.pv,b0b,hneg,hloop]
    · refine .inr ⟨?_, ?_⟩
      · have:i=l.length:=by omega
        subst this
        have k1:¬ ((l.length:Int)<(l.length:Int)):=by omega
        simp -implicitDefEqProofs (disch:=omega) only [Rx,simprocAttr,h0e,k1,List.drop_length,b6w,c0j]
      · have:l.drop i=[]:=List.drop_eq_nil_of_le (by omega)
        simp [this,b6w,c0j]
  · simp only;omega
  · simp only;omega
theorem h2v (l:List GRow) (most:Int) (g:List AObj) {n:Nat} (hl:Rows.small n l) (hn:n≤1048577) (h1:0≤most) (h2:most≤1000000) {m:Nat} (hm:n≤m) :
    b0g T (m+1) 11 [.p (.list (l.map GRow.pv)),.p (.int .i64 most)] g=some (.p (.bool (d3f l most)),g):=by
  rw [b0a T11,run_pure rfl rfl rfl]
  have hloop:=g3g (C:=b0g T m) (N:=m) l hl hn hm most h1 h2
  cases hr:b6w l most with
  | none =>
    rw [hr] at hloop
    simp -implicitDefEqProofs only [F11,c0j] at hloop ⊢
    simp -implicitDefEqProofs (disch:=omega) only [Rx,simprocAttr,hloop,d3f,hr]
  | some left =>
    rw [hr] at hloop
    simp -implicitDefEqProofs only [F11,c0j] at hloop ⊢
    simp -implicitDefEqProofs (disch:=omega) only [Rx,simprocAttr,hloop,d3f,hr]
end Go.TA.Tryz


end
section
/- Sizes that stay: of a machine's nodes through a script, and of its rows; how many stand below the holder. -/
namespace Go.TA
structure b3o.small (s:b3o):Prop where
 len:s.attrs.length≤1048576
 attrs:b2x s.attrs
def MS.small (S:MS):Prop:=∀ h,(S.st h).small
def tops (l:List GRow):Nat:=l.countP fun x=>x.up==0
namespace Tryz
end Tryz
end Go.TA


end
section
/- The attributes of a machine's rows are few. Plain. -/
namespace Go.TA
theorem below_attrs {R : Nat} {S : MS} (hS : S.Ok R) : ∀ (d : Nat) (out : List GRow) (h : Nat) (up : Int), h < S.N → ∀ x ∈ b2l S d out (h : Int) up, x ∈ out ∨ x.attrs.length ≤ 1048577
  | 0,out,h,up,hh,x,hx => .inl hx
  | d + 1, out, h, up, hh, x, hx => by
    rw [← c6m] at hx
    have key:∀ i,i≤(S.kd h).length→∀ x ∈ outI S d out h up i,x ∈ out∨x.attrs.length≤1048577:=by
      intro i
      induction i with
      | zero=>exact fun _ x hx => .inl hx
      | succ i ih =>
        intro hi x hx
        obtain ⟨k,hk⟩:∃ k,(S.kd h)[i]? = some k:=⟨_,List.getElem?_eq_getElem (by omega)⟩
        obtain ⟨c,rfl,hc,_,_⟩:=hS.kids h hh k (List.mem_of_getElem? hk)
        rw [c3c hk] at hx
        rcases below_attrs hS d _ c _ hc x hx with h1 | h1
        · rcases List.mem_append.1 h1 with h2 | h2
          · exact ih (by omega) x h2
          · simp only [List.mem_singleton] at h2
            subst h2
            exact .inr (hS.attrs c hc)
        · exact .inr h1
    exact key _ (Nat.le_refl _) x hx
theorem d7o {R:Nat} {S:MS} (hS:S.Ok R) (R':Nat):∀ x ∈ b2n S R',x.attrs.length≤1048577:=fun x hx=>by
 rcases below_attrs hS (R'+1) [] 0 0 hS.pos x hx with h | h
 ·simp at h
 ·exact h
end Go.TA


end
section
/- The examples that the statements contain, run. -/
namespace Go.TA.Tryz
theorem h8g (n:Nat):b0g T (n+60) 14 [] []=some (.p (.bool true),[]):=by kernel_rfl
end Go.TA.Tryz


end
section
/- The law PlainDom, in the machine: the document is made of rows, beside the machine of these rows. -/
namespace Go.TA
theorem fI0 (u:Nat):fI 0 u=u:=by unfold fI;split <;> omega
namespace Tryz
structure BSt where
 i:Nat
 S:MS
 it:Nat→Nat
 nd:Nat→Nat
 I:Nat→LK
 tp:AV
 rest:List AObj
def bldS (l:List GRow) (LP:List (List PV)) (av:Nat→AV) (pw:Nat) (s:BSt):St:=⟨[(0,.p (.list (l.map GRow.pv))),(1,.p (.list LP)),(5,MP),(6,.p (.int .i64 0)),(7,WP pw),(34,.p (.int .i64 l.length)),(35,.p (.int .i64 s.i))],[],b0m (S0 l).N (S0 l).st av s.rest⟩
theorem h3q (l:List GRow) (hs:b1k l l.length) (ha:∀ x ∈ l,x.attrs.length≤1048577) (hce:∀ x ∈ l,∀ N:Nat,N≤1048577→b0v N (crO x)=0) (hl:l.length≤1048576) (LP:List (List PV)) (av:Nat→AV) (pd pm pw:Nat) (s0:BSt) (hi0:s0.i=0) (hD0:Duo 0 0 (S0 l) s0.S av s0.rest s0.it s0.nd s0.I pd pm pw s0.tp) (hM0:Sim (fI 0) (T0 l 0) s0.S) {n:Nat} (hn:4*1048578+4*bnd 0 (2*l.length)<n) :
  ∃ s:BSt,b0r (b0g T n) n (.loop B3x0) (bldS l LP av pw s0)=some (.exit 0,⟨[(1,.p (.list LP)),(5,MP),(6,.p (.int .i64 0)),(7,WP pw)],[],b0m (S0 l).N (S0 l).st av s.rest⟩)∧Duo (bnd 0 (2*l.length)) (2*l.length) (S0 l) s.S av s.rest s.it s.nd s.I pd pm pw s.tp∧Sim (fI 0) (S0 l) s.S:=by
 have key:=b2v (C:=b0g T n) (N:=n) (B:=B3x0) (σ := BSt) (S:=bldS l LP av pw)
  (I:=fun s=>s.i≤l.length∧Duo (bnd 0 (2*s.i)) (2*s.i) (S0 l) s.S av s.rest s.it s.nd s.I pd pm pw s.tp∧Sim (fI 0) (T0 l s.i) s.S) (μ := fun s=>l.length - s.i)
  (Q:=fun q=>∃ s:BSt,q=(.exit 0,⟨[(1,.p (.list LP)),(5,MP),(6,.p (.int .i64 0)),(7,WP pw)],[],b0m (S0 l).N (S0 l).st av s.rest⟩)∧Duo (bnd 0 (2*l.length)) (2*l.length) (S0 l) s.S av s.rest s.it s.nd s.I pd pm pw s.tp∧Sim (fI 0) (S0 l) s.S) ?_ s0 ⟨by omega,by rw [hi0];exact hD0,by rw [hi0];exact hM0⟩ (by omega)
 ·obtain ⟨q,hq,s,rfl,h1,h2⟩:=key
  exact ⟨s,hq,h1,h2⟩
 rintro ⟨i,S,it,nd,I,tp,rest⟩ ⟨hi,hD,hM⟩
 simp only at hi hD hM
 by_cases h:i<l.length
 ·left
  obtain ⟨x,hx⟩:=b0t h
  have hxm:=List.mem_of_getElem? hx
  have hgx:=b1l (f:=GRow.pv) hx
  have hu0:=hs i x h hx
  obtain ⟨u,hu⟩:∃ u:Nat,x.up=(u:Int):=⟨x.up.toNat,by omega⟩
  have hb:=g1n 0 (show 2*i+1≤2*l.length by omega)
  have hbe:bnd 0 (2*i+1)=bnd 0 (2*i)+bnd 0 (2*i)+1:=rfl
  have k1:(i:Int)<(l.length:Int):=by omega
  have hS:=hD.w.doc.ok
  have hSN':S.N=0+1+i:=by
   have h:=hM.next 0
   simp only [T0] at h
   rw [fI0] at h;omega
  obtain ⟨b1,b2,b3,b4⟩:=g4b hs ha hS hM hx hu (hce x hxm S.N (by omega))
  rw [fI0] at b3 b4
  have hll:=c3m S
  have hax:=ha x hxm
  obtain ⟨it1,nd1,I1,tp1,g1,d1,w1,f1⟩:=d7e hD.w (by omega) (crO x) (by simp [crO]) hax (n:=n - bnd 0 (2*i) - 42) (by omega) (by omega) (by omega)
  rw [show n - bnd 0 (2*i) - 42+bnd 0 (2*i)+42=n by omega,b2] at d1
  rw [b2] at w1 f1
  dsimp only at d1 w1 f1
  obtain ⟨rest1,rfl,D1,_⟩:=c6r hD.mok hD.two hD.apart w1 f1
  have hll1:=c3m (S.create (crO x))
  have hN1:(S.create (crO x)).N=S.N+1:=rfl
  obtain ⟨it2,nd2,I2,tp2,g2,d2,w2,f2⟩:=d7e D1.w (by omega) (inO S.N u) (by simp [inO]) (by simp [inO]) (n:=n - bnd 0 (2*i+1) - 42) (by omega) (by omega) (by omega)
  have hbe1:bnd 0 (2*i)+bnd 0 (2*i)+1=bnd 0 (2*i+1):=rfl
  rw [hbe1,show n - bnd 0 (2*i+1) - 42+bnd 0 (2*i+1)+42=n by omega,b3] at d2
  rw [b3] at w2 f2
  dsimp only at d2 w2 f2
  obtain ⟨rest2,rfl,D2,_⟩:=c6r D1.mok D1.two D1.apart w2 f2
  refine ⟨⟨i+1,b1s (S.create (crO x)) S.N u 0,it2,nd2,I2,tp2,rest2⟩, ?_,⟨by simp only;omega,D2,b4⟩,by simp only;omega⟩
  simp only [bldS]
  have e1:(S.N:Int)=(i:Int)+1:=by omega
  simp only [crO,GOp.pv,b0b] at d1
  simp only [inO,GOp.pv,b0b,e1,List.map_nil] at d2
  generalize b0m (S0 l).N (S0 l).st av rest=G0 at d1 ⊢
  generalize b0m (S0 l).N (S0 l).st av rest1=G1 at d1 d2
  generalize b0m (S0 l).N (S0 l).st av rest2=G2 at d2 ⊢
  rw [← hu] at d2
  simp -implicitDefEqProofs (disch:=omega) only [Rx,simprocAttr,B3x0,k1,hgx,GRow.pv,b0b,d1,d2]
 ·right
  obtain rfl:i=l.length:=by omega
  have k1:¬ (l.length:Int)<(l.length:Int):=by omega
  refine ⟨_, ?_, ?_,⟨l.length,S,it,nd,I,tp,rest⟩,rfl,hD,hM⟩
  ·simp only [bldS]
   simp -implicitDefEqProofs (disch:=omega) only [Rx,simprocAttr,B3x0,k1]
  ·simp
structure PSt where
 i:Nat
 S:MS
 av:Nat→AV
 it:Nat→Nat
 nd:Nat→Nat
 I:Nat→LK
 tp:AV
 rest:List AObj
def domS (L:List GOp) (pw:Nat) (s:PSt):St:=⟨[(1,.p (.list (L.map GOp.pv))),(5,MP),(6,.p (.int .i64 0)),(7,WP pw),(62,.p (.int .i64 L.length)),(63,.p (.int .i64 s.i))],[],b0m s.S.N s.S.st s.av s.rest⟩
theorem h3d (R0 k0 N0:Nat) (L:List GOp) (hL:∀ x ∈ L,c1z x) (hLl:L.length≤1048575) (hN0:N0≤1048577) (hk0:k0≤2097152) (pd pm pw:Nat) (s0:PSt) (hi0:s0.i=0) (hD0:Duo R0 k0 s0.S s0.S s0.av s0.rest s0.it s0.nd s0.I pd pm pw s0.tp) (hSN:s0.S.N≤N0) {n:Nat} (hn:8*1048578+4*bnd R0 L.length<n) :
  ∃ s:PSt,b0r (b0g T n) n (.loop B3x1) (domS L pw s0)=some (.exit 2,⟨[(5,MP),(6,.p (.int .i64 0)),(7,WP pw)],[],b0m s.S.N s.S.st s.av s.rest⟩)∧Duo (bnd R0 L.length) (k0+L.length) s.S s.S s.av s.rest s.it s.nd s.I pd pm pw s.tp∧s.S.N≤N0+L.length:=by
 have key:=b2v (C:=b0g T n) (N:=n) (B:=B3x1) (σ := PSt) (S:=domS L pw)
  (I:=fun s=>s.i≤L.length∧Duo (bnd R0 s.i) (k0+s.i) s.S s.S s.av s.rest s.it s.nd s.I pd pm pw s.tp∧s.S.N≤N0+s.i) (μ := fun s=>L.length - s.i)
  (Q:=fun q=>∃ s:PSt,q=(.exit 2,⟨[(5,MP),(6,.p (.int .i64 0)),(7,WP pw)],[],b0m s.S.N s.S.st s.av s.rest⟩)∧Duo (bnd R0 L.length) (k0+L.length) s.S s.S s.av s.rest s.it s.nd s.I pd pm pw s.tp∧s.S.N≤N0+L.length) ?_ s0 ⟨by omega,by rw [hi0];exact hD0,by omega⟩ (by omega)
 ·obtain ⟨q,hq,s,rfl,h1,h2⟩:=key
  exact ⟨s,hq,h1,h2⟩
 rintro ⟨i,S,av,it,nd,I,tp,rest⟩ ⟨hi,hD,hN⟩
 simp only at hi hD hN
 by_cases h:i<L.length
 ·left
  obtain ⟨x,hx⟩:=b0t h
  have hxm:=List.mem_of_getElem? hx
  have hgx:=b1l (f:=GOp.pv) hx
  have hb:=g1n R0 (show i≤L.length by omega)
  have k1:(i:Int)<(L.length:Int):=by omega
  have hax:=(hL x hxm).1
  have hck:=g6i x (hL x hxm).2.1 [] (n:=n - 37) (by omega) (by omega)
  rw [show n - 37+37=n by omega] at hck
  by_cases he:b0y x=0
  rotate_left
  ·have he1:(b0y x==0)=false:=by simpa using he
   refine ⟨⟨i+1,S,av,it,nd,I,tp,rest⟩, ?_,⟨by simp only;omega,⟨hD.mok,d9s hD.w (by show bnd R0 i≤bnd R0 i+bnd R0 i+1;omega) (Nat.le_succ _),hD.two,hD.apart⟩,by simp only;omega⟩,by simp only;omega⟩
   simp only [domS]
   generalize b0y x=e at hck he1
   simp only [GOp.pv,b0b] at hck
   generalize b0m S.N S.st av rest=G0
   simp -implicitDefEqProofs (disch:=omega) only [Rx,simprocAttr,B3x1,k1,hgx,GOp.pv,b0b,hck,he1]
  rw [he] at hck
  have hf:=d5q he
  have hll:=c3m S
  obtain ⟨it1,nd1,I1,tp1,g1,d1,w1,f1⟩:=d7e hD.w (by omega) x hf.kind (by omega) (n:=n - bnd R0 i - 42) (by omega) (by omega) (by omega)
  rw [show n - bnd R0 i - 42+bnd R0 i+42=n by omega] at d1
  obtain ⟨rest1,rfl,D1,_⟩:=c6r hD.mok hD.two hD.apart w1 f1
  have hdd:=h7a (S:=S) he (by omega)
  have hee:doE S x=doM S x:=by unfold doE;rw [if_pos he]
  obtain ⟨av2,rest2,d2,m2,f2⟩:=h8z hD.w.doc.ok (by omega) av rest1 D1.mok x hax (n:=n - bnd R0 i - 61) (by omega)
  rw [show n - bnd R0 i - 61+bnd R0 i+61=n by omega,hee, ← hdd] at d2
  rw [hee, ← hdd] at m2 f2
  have D2:=D1.mach (M':=(doD S x).2.2) f2 m2
  have hN':(doD S x).2.2.N≤S.N+1:=by rw [hdd];exact (h9a hD.w.doc.ok x (by omega)).2.2
  refine ⟨⟨i+1,(doD S x).2.2,av2,it1,nd1,I1,tp1,rest2⟩, ?_,⟨by simp only;omega,D2,by simp only;omega⟩,by simp only;omega⟩
  simp only [domS]
  generalize b0m S.N S.st av rest=G0 at d1 ⊢
  generalize b0m S.N S.st av rest1=G1 at d1 d2
  generalize b0m (doD S x).2.2.N (doD S x).2.2.st av2 rest2=G2 at d2 ⊢
  generalize (doD S x).2.1=e at d1 d2
  generalize (doD S x).1=z at d1
  simp only [GOp.pv,b0b] at d1 d2 hck
  simp -implicitDefEqProofs (disch:=omega) only [Rx,simprocAttr,B3x1,k1,hgx,GOp.pv,b0b,hck,d1,d2]
 ·right
  obtain rfl:i=L.length:=by omega
  have k1:¬ (L.length:Int)<(L.length:Int):=by omega
  refine ⟨_, ?_, ?_,⟨L.length,S,av,it,nd,I,tp,rest⟩,rfl,hD,hN⟩
  ·simp only [domS]
   simp -implicitDefEqProofs (disch:=omega) only [Rx,simprocAttr,B3x1,k1]
  ·simp
end Tryz
end Go.TA


end
section
/- The law PlainDom, in the machine. -/
namespace Go.TA
theorem g7y (a:Int):img (fI 0) a=a:=by
 unfold img
 split
 ·rfl
 ·rw [fI0];omega
theorem h0r {M S:MS} (h:Sim (fI 0) M S):M.N=S.N∧(∀ k,k<S.N→M.st k=S.st k)∧∀ k,k<S.N→M.kd k=S.kd k:=by
 have hN:M.N=S.N:=by have:=h.next 0;rw [fI0] at this;omega
 refine ⟨hN,fun k hk => ?_,fun k hk => ?_⟩
 ·have:=h.node k (by omega)
  rw [fI0,g7y] at this
  exact this.symm
 ·have:=h.kd k (by omega)
  rw [fI0] at this
  rw [this,List.map_congr_left (g:=id) (fun a _=>g7y a),List.map_id]
theorem Duo.more {R k:Nat} {M S:MS} {av:Nat→AV} {rest:List AObj} {it nd:Nat→Nat} {I:Nat→LK} {pd pm pw:Nat} {tp:AV} (h:Duo R k M S av rest it nd I pd pm pw tp) (X:List AObj):Duo R k M S av (rest++X) it nd I pd pm pw tp :=
 ⟨⟨fun c hc=>(h.mok.kids c hc).more _,h.mok.disj⟩,h.w.keep fun j hj=>by
  have e:b0m M.N M.st av (rest++X)=b0m M.N M.st av rest++X:=by simp [b0m]
  rw [e,List.getElem?_append_left (h.w.own_lt hj)],h.two,h.apart⟩
namespace Tryz
theorem c8v {x:GRow} (h:b1p x=0) {N:Nat} (hN:N≤4294967295):b0v N (crO x)=0:=by
 unfold b1p at h
 unfold b0v
 split at h
 ·omega
 split at h
 ·omega
 split at h
 ·omega
 rename_i h1 h2 h3
 have h4:¬ (65536<((crO x).key.length:Int)∨65536<((crO x).text.length:Int)):=by
  show ¬ (65536<(x.key.length:Int)∨65536<(x.text.length:Int))
  omega
 have h5:¬ b2a (crO x).attrs≠0:=fun e=>e h
 rw [if_neg (show ¬ b1z false (crO x).tag=false from h1),if_neg h4,if_neg h5,if_neg (by omega)]
theorem h3w {l:List GRow} (h:g9t l) {x:GRow} (hx:x ∈ l):b1p x=0:=by
 obtain ⟨i,hi⟩:=List.getElem?_of_mem hx
 have h1:=h i x hi
 unfold b3i at h1
 split at h1
 ·omega
 split at h1
 ·omega
 split at h1
 ·assumption
 ·exact h1
section
variable {R k:Nat} {S:MS} {it nd:Nat→Nat} {I:Nat→LK} {pd pm pw:Nat} {tp:AV} {g:List AObj}
theorem g4v (hW:Wat R k S it nd I pd pm pw tp g) (hN:S.N≤8589934592) (hL:(b0h S).length≤4194304) {n:Nat} (hn:(b0h S).length+1<n) :
  b0g T (n+R+3) 22 [WP pw] g=some (.own true (g.length+1) (b2n S R).length,rdG g pd ((b2n S R).map GRow.pv) (b2n S R).length):=by
 have hr:=d9d hW.doc hN hL hn
 have hw:=c6w hW.wat (n+R+1)
 have ho:=hW.wat
 generalize b2n S R=X at hr ⊢
 rw [b0a T22,b0e rfl rfl]
 simp -implicitDefEqProofs (disch:=omega) only [Rx,simprocAttr,F22,hw,ho,hr]
theorem g4x (hW:Wat R k S it nd I pd pm pw tp g) (n:Nat):b0g T (n+2) 24 [WP pw] g=some (.p (.int .i64 S.N),g):=by
 have hr:=h1x hW.doc.lies n
 have hw:=c6w hW.wat n
 have ho:=hW.wat
 rw [b0a T24,b0e rfl rfl]
 simp -implicitDefEqProofs (disch:=omega) only [Rx,simprocAttr,F24,hw,ho,hr]
end
theorem d4p (l:List GRow) (L:List GOp) (hsm:Rows.small 1048577 l) (hL:∀ x ∈ L,c1z x) (hLl:L.length≤1048575) :
    ∃ n,b0g T n 3 [.p (.list (l.map GRow.pv)),.p (.list (L.map GOp.pv))] []=some (.p (.bool true),[]):=by
  have hlen:=hsm.len
  generalize hB:bnd l.length L.length=B
  generalize hC:bnd 0 (2*l.length)=C
  obtain ⟨F,hF⟩:∃ F,F=8*4194304+8*B+8*C:=⟨_,rfl⟩
  refine ⟨F+1, ?_⟩
  have hsame:=h8g (F - 60)
  rw [show F - 60+60=F by omega] at hsame
  have hfr:=h2v l 60 [] hsm (Nat.le_refl _) (by omega) (by omega) (m:=F - 1) (by omega)
  have hfo:=h6p L 80 [] (n:=F - 1) (fun y hy=>⟨hL y hy,by have:=(hL y hy).1;omega⟩) (by omega) (by omega) (by omega) (by omega)
  have hck:=d9f l hsm (Nat.le_refl _) (n:=F - 38) (by omega) []
  rw [show F - 1+1=F by omega] at hfr hfo
  rw [show F - 38+38=F by omega] at hck
  rw [b0a T3,run_pure rfl rfl rfl]
  cases h1:d3f l 60 with
  | false =>
    rw [h1] at hfr
    simp -implicitDefEqProofs (disch:=omega) only [Rx,simprocAttr,F3,hfr,hsame]
  | true=>
  rw [h1] at hfr
  cases h2:g1a L 80 with
  | false =>
    rw [h2] at hfo
    simp -implicitDefEqProofs (disch:=omega) only [Rx,simprocAttr,F3,hfr,hfo,hsame]
  | true=>
  rw [h2] at hfo
  by_cases h4:b4f l=0
  rotate_left
  · have h4':(b4f l==0)=false:=by simpa using h4
    simp -implicitDefEqProofs (disch:=omega) only [Rx,simprocAttr,F3,hfr,hfo,hck,h4',hsame]
  rw [h4] at hck
  obtain ⟨hform,hall⟩:=d1c h4
  have hs:c4o l:=c5u hform
  have hS0:=j2k hs hsm.mid (Nat.le_refl _)
  have hal:∀ x ∈ l,x.attrs.length≤1048577:=fun x hx=>by have:=(hsm.mid.row x hx).attrs;omega
  obtain ⟨av,rest,hnew,hM,_⟩:=h6b l hsm.mid (Nat.le_refl _) h4 (n:=F - l.length - 44) (by omega)
  rw [show F - l.length - 44+l.length+44=F by omega] at hnew
  have hmg:b0m (S0 l).N (S0 l).st av rest=b0m (l.length+1) (st0 l) av rest:=rfl
  rw [← hmg] at hnew
  obtain ⟨it1,nd1,pd,pm,pw,g1,hwn,hW1,hF1⟩:=h0g 0 (by omega) (b0m (S0 l).N (S0 l).st av rest) (F - 4)
  rw [show F - 4+4=F by omega,show (((0+1:Nat)):Int)=1 from rfl] at hwn
  obtain ⟨rest1,rfl,hD1,_⟩:=c6r (M:=S0 l) hM (O:=fun _=>False) (fun _ h=>h.elim) (fun _ _ _ _ h=>h) hW1 hF1
  obtain ⟨s,hl1,hD2,hSim⟩:=h3q l hs.1 hal (fun x hx N hN=>c8v (h3w hall hx) (by omega)) (by omega) (L.map GOp.pv) av pd pm pw ⟨0,_,it1,nd1,_,_,rest1⟩ rfl hD1 (h0s l 0) (n:=F) (by rw [hC];omega)
  obtain ⟨e1,e2,e3⟩:=h0r hSim
  obtain ⟨hO,hW2⟩:=hD2.w.congr e1 e2 e3 hS0
  have hD3:Duo l.length (2*l.length) (S0 l) (S0 l) av s.rest s.it s.nd s.I pd pm pw s.tp:=⟨hD2.mok,hW2,fun j hj=>hD2.two j ((hO j).1 hj),fun c hc r hr h=>hD2.apart c hc r hr ((hO r).1 h)⟩
  obtain ⟨t,hl2,hD4,hN4⟩:=h3d l.length (2*l.length) (l.length+1) L hL hLl (by omega) (by omega) pd pm pw ⟨0,S0 l,av,s.it,s.nd,s.I,s.tp,s.rest⟩ rfl hD3 (Nat.le_refl _) (n:=F) (by rw [hB];omega)
  rw [hB] at hD4
  obtain ⟨i4,S4,av4,it4,nd4,I4,tp4,rest4⟩:=t
  simp only at hl2 hD4 hN4
  simp only [bldS] at hl1
  simp only [domS] at hl2
  have hok:=hD4.w.doc.ok
  have hll:=c3m S4
  have hrows:=h4c hok (by omega) av4 rest4 hD4.mok (n:=F - B - 2) (by omega)
  rw [show F - B - 2+B+2=F by omega] at hrows
  have hD5:=hD4.more [.pcells 6 ((b2n S4 B).map GRow.pv)]
  have hread:=g4v hD5.w (by omega) (by omega) (n:=F - B - 3) (by omega)
  rw [show F - B - 3+B+3=F by omega] at hread
  have hrl:=g5w hok B
  have heq:=g2f (b2n S4 B) (by omega) (fun x hx=>by have:=d7o hok B x hx;omega) [] (n:=F - 3) (by omega) (by omega)
  rw [show F - 3+3=F by omega] at heq
  have hg5:b0m S4.N S4.st av4 (rest4++[AObj.pcells 6 ((b2n S4 B).map GRow.pv)])=b0m S4.N S4.st av4 rest4++[.pcells 6 ((b2n S4 B).map GRow.pv)]:=by simp [b0m]
  have hlen5:=c8d S4.N S4.st av4 (rest4++[AObj.pcells 6 ((b2n S4 B).map GRow.pv)])
  have hx1:(rdG (b0m S4.N S4.st av4 (rest4++[AObj.pcells 6 ((b2n S4 B).map GRow.pv)])) pd ((b2n S4 B).map GRow.pv) (b2n S4 B).length)[rest4.length+1+1]? = some (.pcells 6 ((b2n S4 B).map GRow.pv)):=by
    unfold rdG
    rw [List.getElem?_append_left (by rw [hlen5];simp)]
    simp [b0m]
  have hx2:=rdG1 (b0m S4.N S4.st av4 (rest4++[AObj.pcells 6 ((b2n S4 B).map GRow.pv)])) pd ((b2n S4 B).map GRow.pv) (b2n S4 B).length
  have hD6:=hD5.more [.cells 1 [[DocP pd]],.pcells 6 ((b2n S4 B).map GRow.pv),.cells 1 [[.own true ((b0m S4.N S4.st av4 (rest4++[AObj.pcells 6 ((b2n S4 B).map GRow.pv)])).length+1) (b2n S4 B).length]],.cells 1 [[.func 82 [BP (b0m S4.N S4.st av4 (rest4++[AObj.pcells 6 ((b2n S4 B).map GRow.pv)])).length,BP ((b0m S4.N S4.st av4 (rest4++[AObj.pcells 6 ((b2n S4 B).map GRow.pv)])).length+2),BP ((b0m S4.N S4.st av4 (rest4++[AObj.pcells 6 ((b2n S4 B).map GRow.pv)])).length+3)]]]]
  have hg6:b0m S4.N S4.st av4 (rest4++[AObj.pcells 6 ((b2n S4 B).map GRow.pv)]++[.cells 1 [[DocP pd]],.pcells 6 ((b2n S4 B).map GRow.pv),.cells 1 [[.own true ((b0m S4.N S4.st av4 (rest4++[AObj.pcells 6 ((b2n S4 B).map GRow.pv)])).length+1) (b2n S4 B).length]],.cells 1 [[.func 82 [BP (b0m S4.N S4.st av4 (rest4++[AObj.pcells 6 ((b2n S4 B).map GRow.pv)])).length,BP ((b0m S4.N S4.st av4 (rest4++[AObj.pcells 6 ((b2n S4 B).map GRow.pv)])).length+2),BP ((b0m S4.N S4.st av4 (rest4++[AObj.pcells 6 ((b2n S4 B).map GRow.pv)])).length+3)]]]])
      = rdG (b0m S4.N S4.st av4 (rest4++[AObj.pcells 6 ((b2n S4 B).map GRow.pv)])) pd ((b2n S4 B).map GRow.pv) (b2n S4 B).length:=by simp [b0m,rdG]
  have hnx1:=h4d S4 av4 (rest4++[AObj.pcells 6 ((b2n S4 B).map GRow.pv)]++[.cells 1 [[DocP pd]],.pcells 6 ((b2n S4 B).map GRow.pv),.cells 1 [[.own true ((b0m S4.N S4.st av4 (rest4++[AObj.pcells 6 ((b2n S4 B).map GRow.pv)])).length+1) (b2n S4 B).length]],.cells 1 [[.func 82 [BP (b0m S4.N S4.st av4 (rest4++[AObj.pcells 6 ((b2n S4 B).map GRow.pv)])).length,BP ((b0m S4.N S4.st av4 (rest4++[AObj.pcells 6 ((b2n S4 B).map GRow.pv)])).length+2),BP ((b0m S4.N S4.st av4 (rest4++[AObj.pcells 6 ((b2n S4 B).map GRow.pv)])).length+3)]]]]) (F - 1)
  have hW6:=hD6.w
  rw [hg6] at hnx1 hW6
  have hnx2:=g4x hW6 (F - 2)
  rw [show F - 1+1=F by omega] at hnx1
  rw [show F - 2+2=F by omega] at hnx2
  rw [hg5] at hread hx1 hx2 hnx1 hnx2
  have hlX:((b2n S4 B).map GRow.pv).length=(b2n S4 B).length:=by simp
  rw [hg5] at hrows
  have hgl:(b0m S4.N S4.st av4 rest4++[AObj.pcells 6 ((b2n S4 B).map GRow.pv)]).length=rest4.length+3:=by simp [b0m]
  rw [hgl] at hread hx2
  generalize (b2n S4 B).length=q at *
  generalize hX:(b2n S4 B).map GRow.pv=X at *
  clear hW6 hD6 hg6 hg5 hD5
  generalize rdG (b0m S4.N S4.st av4 rest4++[AObj.pcells 6 X]) pd X q=G6 at *
  generalize b0m S4.N S4.st av4 rest4++[AObj.pcells 6 X]=G5 at *
  generalize b0m S4.N S4.st av4 rest4=G4 at *
  generalize b0m (S0 l).N (S0 l).st av s.rest=G3 at *
  generalize b0m (S0 l).N (S0 l).st av rest1=G2 at *
  generalize b0m (S0 l).N (S0 l).st av rest=G1 at *
  simp only [Int.natCast_zero] at hl1 hl2
  simp -implicitDefEqProofs (disch:=omega) only [Rx,simprocAttr,F3,hfr,hfo,hck,hsame,hnew,hwn,hl1,hl2,hrows,hread,heq,hx1,hx2,hnx1,hnx2,hlX]
end Tryz
end Go.TA


end
section
/- The law PlainDom, for every input of bulk at most 1048576: the call returns true, and nothing that was there has changed. -/
namespace Go.Proofs.YtbgbmdjfogohnaaGreatDoor.plainDom
open Go.ChangeShapes Go.WideShapes Go.ChangeAt Go.RowKit Go.TA
theorem own:ownKnob Tryz.prog.godebug=none:=by kernel_rfl
theorem kids:Kids Tryz.prog (· < Tryz.prog.types.size):=kids_rows (by kernel_rfl) (by kernel_rfl)
theorem full:∀ t e,t<Tryz.prog.types.size→Tryz.prog.underlying t=some (.slice e)→0<Tryz.prog.cellsOf e:=slices_full_of Tryz.prog (by kernel_rfl)
theorem bulk {H:Type}:Bulk (H:=H) Rows.uptoBulk Rows.uptoBulkAll where
 str bs:=by simp [Rows.uptoBulk]
 lit l:=by cases l <;> simp [Rows.uptoBulk]
 nil:=by simp [Rows.uptoBulk]
 slice a b:=by simp [Rows.uptoBulk]
 agg a:=by simp [Rows.uptoBulk]
 nilA:=by simp [Rows.uptoBulkAll]
 consA d r:=by simp [Rows.uptoBulkAll]
theorem laidVars_tail {P:Program} {w:World} {x:String × DataW Unit} {r:List (String × DataW Unit)} {ps:List MemPlace} (h:DataW.LaidVars P w (x::r) ps):∃ qs,DataW.LaidVars P w r qs:=by
 obtain ⟨n,d⟩:=x
 obtain ⟨g,t,cs,fuel,p,q,_,_,_,_,hq,_⟩:=h
 exact ⟨q,hq⟩
theorem tab_of_vars {P:Program} {W:World} {name:String} {k:IntKind} {zs:List Int} {rest:List (String × DataW Unit)} {ps:List MemPlace} {g:Nat} {t e:TypeId} {n:Nat}
  (hg:P.globalNamed name=some g) (hty:(P.globals[g]?).map (·.type)=some t) (ht:P.underlying t=some (.array n e)) (he:P.underlying e=some (.int k)) (hce:P.cellsOf e=1) (hct:P.cellsOf t=n)
  (h:DataW.LaidVars P W ((name,Lib.tabData k zs)::rest) ps):Lib.TabIs P W name k zs:=by
 obtain ⟨g',t',cs,fuel,p,q,hg',ht',hvar,hd,_,_⟩:=h
 obtain rfl:=Option.some.inj (hg.symm.trans hg')
 obtain rfl:=Option.some.inj (hty.symm.trans ht')
 unfold Lib.TabIs
 rw [hvar, ← Lib.cells_of_tab ht he hce hct hd]
theorem table {W:World} (h:laidMetH Tryz.prog Rows.plainDomRow.laid W):Lib.TabIs Tryz.prog W "internal/strconv.uint64pow10" .u64 Lib.pow10Tab:=by
 have h':laidMet Tryz.prog Rows.plainDomRow.laid W:=h
 obtain ⟨ps,hv,_⟩:=h'
 obtain ⟨qs,hv⟩:=laidVars_tail hv
 obtain ⟨qs,hv⟩:=laidVars_tail hv
 exact tab_of_vars (g:=0) (t:=288) (e:=238) (n:=20) (rest:=[]) (by kernel_rfl) (by kernel_rfl) (by kernel_rfl) (by kernel_rfl) (by kernel_rfl) (by kernel_rfl) hv
def types:List TypeId:=[22,36,23,40,3,9,34,82]
theorem closed:c5e Tryz.prog 9 types=true:=by decide +kernel
theorem shRows:shOf Tryz.prog 9 22=some [.sl 36]:=by decide +kernel
theorem shRow:shOf Tryz.prog 9 36=some (h0y 82):=by decide +kernel
theorem shOps:shOf Tryz.prog 9 23=some [.sl 40]:=by decide +kernel
theorem shOp:shOf Tryz.prog 9 40=some (opSh 82):=by decide +kernel
theorem shAttr:shOf Tryz.prog 9 82=some [.str,.str]:=by decide +kernel
theorem params:Tryz.f3.params.toList=[22,23]:=by kernel_rfl
theorem bulk_ops:∀ (L:List GOp),(∀ x ∈ L,b5y x.pv≤b3g (L.map GOp.pv))∧9*L.length≤b3g (L.map GOp.pv)
  | []=>by simp [b3g]
  | a :: l => by
    obtain ⟨h1,h2⟩:=bulk_ops l
    have:=g9i a
    simp only [List.map_cons,b3g,List.length_cons]
    refine ⟨fun b hb => ?_,by omega⟩
    rcases List.mem_cons.1 hb with rfl | hb
    · omega
    · have:=h1 b hb;omega
theorem contract (H:Type) (enc:TypeId × Value→H) (W:World) (base:Nat) (args:Array Value) (ds gs:List (DataW H)) (before:List MemPlace)
  (hval:∀ (j:Nat) t v,Tryz.f3.params[j]? = some t→args[j]? = some v→Value.okWide Tryz.prog W .any base t v)
  (hW:DataW.Whole enc Tryz.prog Tryz.f3.params.toList Rows.plainDomSpec.vars false W args.toList ds gs before) (hk:Rows.uptoSmall H (ds++gs)=true) (hL:laidMetH Tryz.prog Rows.plainDomRow.laid W) :
  Calls Tryz.prog 3 args W fun e W'=>∃ v,e = .returned v∧Rows.plainDomSpec.post enc Tryz.prog Tryz.f3 false true false false W args v W':=by
 have hW':=hW
 obtain ⟨p,q,hA,hV,rfl,_,_⟩:=hW'
 obtain ⟨rfl,rfl⟩:=trodVars_none hV
 rw [List.append_nil] at hk
 have hbound:Rows.uptoBulkAll ds≤1048576:=of_decide_eq_true hk
 have hlen:=d9u hA
 rw [params] at hA hlen
 obtain ⟨pss,h1,h2,h3,h4⟩:=g1p (gs:=types) (D0:=9) kids full bulk closed hA (by decide) (fun j t v hj hv=>⟨_,_,hval j t v (by rw [← Array.getElem?_toList,params];exact hj) (by simpa using hv)⟩)
 match pss,h1 with
 | [ps1,ps2],h1=>
 obtain ⟨⟨shs1,hs1,hok1⟩,⟨shs2,hs2,hok2⟩,_⟩:=h1
 rw [shRows] at hs1
 rw [shOps] at hs2
 simp only [Option.some.injEq] at hs1 hs2
 subst hs1 hs2
 obtain ⟨xs1,r1,rfl,hx1,hr1⟩:=c6s shRow hok1
 obtain rfl:=c8t hr1
 obtain ⟨l1,rfl,hl1⟩:=g1g shAttr hx1
 obtain ⟨xs2,r2,rfl,hx2,hr2⟩:=c6s shOp hok2
 obtain rfl:=c8t hr2
 obtain ⟨l2,rfl,hl2⟩:=g9b shAttr hx2
 have hb1:b3g (l1.map GRow.pv)<1048577:=by simp only [b3g,b5y,PV.bulk] at h2;omega
 have hb2:b3g (l2.map GOp.pv)≤1048575:=by simp only [b3g,b5y,PV.bulk] at h2;omega
 obtain ⟨fuel,hrun⟩:=Go.TA.Tryz.d4p l1 l2 (g2a hb1 (Nat.le_refl _)) (fun x hx=>(Go.TA.Tryz.g2b (n:=1048576) (by have:=(bulk_ops l2).1 x hx;omega) (Nat.le_refl _)).1) (by have:=(bulk_ops l2).2;omega)
 have ha0:aggT Tryz.prog 22=false:=by decide +kernel
 have ha1:aggT Tryz.prog 23=false:=by decide +kernel
 have hargs:c1t Tryz.prog [22,23] [[.list (l1.map GRow.pv)],[.list (l2.map GOp.pv)]]=[.list (l1.map GRow.pv),.list (l2.map GOp.pv)]:=by simp [c1t,h3t,ha0,ha1]
 rw [hargs] at h3 h4
 refine (d5i (g4s (table hL)) Go.TA.Tryz.c1m (Go.TA.Tryz.j2i W) (ps:=[.list (l1.map GRow.pv),.list (l2.map GOp.pv)]) hrun (by simpa using h3) h4).mono fun e W' ⟨he,hB⟩=>⟨_,he, ?_⟩
 refine h2k kids full hW rfl (tb:=4) rfl (by kernel_rfl) (by rw [params];decide +kernel) ?_ hB
 match ds,hlen with
 | [d1,d2],_=>rfl
def wargs:Array Value := #[.slice none 0 0,.slice none 0 0]
def put (k:IntKind) (zs:List Int):Obj→Obj
 | .cells _ t frozen => .cells (zs.map fun z=>Value.int k z).toArray t frozen
 | o=>o
def bits32:List Int:=[0,1,28,2,29,14,24,3,30,22,20,15,25,17,4,8,31,27,13,23,21,19,16,7,26,12,18,6,11,5,10,9]
def bits64:List Int:=[0,1,56,2,57,49,28,3,61,58,42,50,38,29,17,4,62,47,59,36,45,43,51,22,53,39,33,30,24,18,12,5,63,55,48,27,60,41,37,16,46,35,44,21,52,32,23,11,54,26,40,15,34,20,31,10,25,14,19,9,13,8,7,6]
noncomputable def laidWorld (os:Os):World :=
 { World.holding Tryz.prog os ⟨#[], #[],[]⟩ with heap:=(((World.holding Tryz.prog os ⟨#[], #[],[]⟩).heap.modify 0 (put .u64 Lib.pow10Tab)).modify 2 (put .u8 bits32)).modify 3 (put .u8 bits64) }
theorem laid_met (os:Os):laidMet Tryz.prog Rows.plainDomRow.laid ((laidWorld os).forCall (fun _ _=>0) ⟨#[],wargs,[]⟩).memory :=
 laidMet_of_run' 8 (by kernel_rfl) (by kernel_rfl)
theorem reads (os:Os) {H:Type} (enc:TypeId × Value→H):∃ places,DataW.whole enc Tryz.prog ((laidWorld os).forCall (fun _ _=>0) ⟨#[],wargs,[]⟩).memory Tryz.f3.params.toList Rows.plainDomSpec.vars false wargs.toList 8=some ([.nil,.nil],[],places) :=
 ⟨[],by kernel_rfl⟩
theorem liftedUpto (os:Os) (started:os.Started) (H:Type) (enc:TypeId × Value→H) (F:Stop.Interp) :
  ReturnsInHanded {} Tryz.checked os 3 .any ((Rows.OpenSpec.upto Rows.plainDomSpec).preRow enc Tryz.prog Tryz.f3 Rows.plainDomUptoRow.domain false Rows.plainDomUptoRow.laid) (((Rows.OpenSpec.upto Rows.plainDomSpec).at F).post enc Tryz.prog Tryz.f3 false true false false):=by
 obtain ⟨places,hx⟩:=reads os enc
 refine returnsInHanded_of_row (C:=Tryz.checked) (s:=Rows.OpenSpec.upto Rows.plainDomSpec) own started (by kernel_rfl) Tryz.func3
  (witness_row_at (enc:=enc) (C:=Tryz.checked) false (laidWorld os) wargs rfl (by kernel_rfl) (by kernel_rfl) (by kernel_rfl)
   (OpenSpec.preRow_of_cond 8 hx (by kernel_rfl) (fun k hk=>by cases hk;kernel_rfl) (by kernel_rfl) (laid_met os))) ?_
 intro W base args ds gs before hval hW _ hcond _ hL _ _
 exact contract H enc W base args ds gs before hval hW (hcond _ rfl) hL
theorem saidUpto:Rows.PlainDomUptoSaid :=
 OpenClaim.holds_of_cond 3 Tryz.f3 rfl rfl rfl rfl rfl rfl rfl ⟨rfl,rfl,rfl,rfl,rfl⟩ rfl rfl rfl rfl rfl (by kernel_rfl) Tryz.func3 (by kernel_rfl)
  (of_decide_eq_true (by kernel_rfl)) (by unfold Func.isWrapper;first | (rw [if_pos (by decide +kernel)];kernel_rfl) | (rw [if_neg (by decide +kernel)];exact ⟨rfl,rfl⟩))
  (fun os started H enc _ F=>by rw [OpenClaim.pre_eq_preRow];exact liftedUpto os started H enc F)
theorem plain (f:FuncId) (fn:Func) (hf:Tryz.pinned.checked.prog.funcNamed "tendril/tendrillaw27.PlainDom" = some f) (hfn:Tryz.pinned.checked.prog.funcs[f]? = some fn) :
  false=Tryz.pinned.checked.prog.looks []∧∀ (j:Nat) t,fn.params[j]? = some t→Tryz.pinned.checked.prog.wantsStandIn t=false:=by
 obtain rfl:f=3:=Option.some.inj ((show Tryz.prog.funcNamed "tendril/tendrillaw27.PlainDom" = some 3 by kernel_rfl).symm.trans hf) |>.symm
 obtain rfl:fn=Tryz.f3:=(Option.some.inj (Tryz.func3.symm.trans hfn)).symm
 refine ⟨by kernel_rfl,fun j t ht => ?_⟩
 have hm:t ∈ [22,23]:=by
  rw [← params]
  exact Array.mem_toList_iff.2 (Array.mem_of_getElem? ht)
 have hall:[22,23].all (fun t=>Tryz.prog.wantsStandIn t==false)=true:=by kernel_rfl
 exact beq_iff_eq.1 (List.all_eq_true.1 hall t hm)
theorem holds:Rows.PlainDomUptoCardSaid :=
 Claim7.holds_tied_plain_at .later [] _ _ _ _ saidUpto (fun _ h=>by cases h) (by kernel_rfl) (fun _ h=>by cases h) plainDomUpto_row_tie rfl ⟨rfl,rfl⟩ (by kernel_rfl) rfl plain (by kernel_rfl)
end Go.Proofs.YtbgbmdjfogohnaaGreatDoor.plainDom


end
