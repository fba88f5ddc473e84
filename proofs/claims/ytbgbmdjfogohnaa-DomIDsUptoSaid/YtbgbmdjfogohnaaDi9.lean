/- Part 9 of 10 of a proof; joined from DidsDPlace, DidsNames, DidsAttrsP, DidsCloneA, DidsMAttr, GoingDef, DidsMDelA, DidsDocOps, DocStep, DidsDocIns, DidsDocMake. A document is made, and a node of it; the links of a node. -/
import Derived.Test.YtbgbmdjfogohnaaDi1
import Derived.Test.YtbgbmdjfogohnaaDi8
import Derived.Test.YtbgbmdjfogohnaaDi7
import Derived.Test.YtbgbmdjfogohnaaDi6
set_option linter.unusedSimpArgs false
set_option linter.unusedVariables false
set_option linter.defProp false
set_option maxRecDepth 100000
set_option maxHeartbeats 8000000
section
/- An item is put below another one; it is taken out. -/
namespace Go.TA.Try
section
variable {R:Nat} {S:MS} {nx:Int} {it nd:Nat→Nat} {I:Nat→LK} {pd pm:Nat} {g:List AObj}
theorem place_held (hD:DocAt (liveL S) S.st nx it nd I pd pm g) (hI:LinkOk S I) (hS:S.Ok R) {x y:Nat} (hx:x ∈ liveL S) (hy:y ∈ liveL S) (hyu:0≤(S.st y).up) (b:Option Nat) (n:Nat):acall T (n+2) 38 [IP it x,IP it y,iAV it b] g=some (.p (.int .i64 15),g):=by
 obtain ⟨o,ho,r0,r1,r2,r3,r4,r5⟩:=item_at hD hy (I y) rfl
 obtain ⟨p,hp,_⟩:=hS.up_nat (mem_liveL.1 hy).1 hyu
 rw [hI.up y hy,upN_some hS (mem_liveL.1 hy).1 hp] at r1
 rw [acall_code T38,run_code rfl rfl]
 simp only [iAV] at r1
 simp -implicitDefEqProofs (disch:=omega) only [Rx,simprocAttr,F38,ho,r1,iAVe]
theorem place_cycle (hS:S.Ok R) (hD:DocAt (liveL S) S.st nx it nd I pd pm g) (hI:LinkOk S I) {x y:Nat} (hx:x ∈ liveL S) (hy:y ∈ liveL S) (hyu:(S.st y).up<0) (hun:underB S x y=true) (b:Option Nat) {n:Nat} (hn:R+3<n):acall T (n+2) 38 [IP it x,IP it y,iAV it b] g=some (.p (.int .i64 17),g):=by
 obtain ⟨o,ho,r0,r1,r2,r3,r4,r5⟩:=item_at hD hy (I y) rfl
 have un:=under_run hS hI hD hx hy (n:=n) hn
 rw [hun] at un
 rw [hI.up y hy,upN_none hS (mem_liveL.1 hy).1 hyu] at r1
 simp only [iAV] at r1
 rw [acall_code T38,run_code rfl rfl]
 simp -implicitDefEqProofs (disch:=omega) only [Rx,simprocAttr,F38,ho,r1,un,iAVe]
theorem place_bad (hS:S.Ok R) (hD:DocAt (liveL S) S.st nx it nd I pd pm g) (hI:LinkOk S I) {x y:Nat} (hx:x ∈ liveL S) (hy:y ∈ liveL S) (hyu:(S.st y).up<0) (hun:underB S x y=false) {b:Nat} (hb:b ∈ liveL S) (hbu:(S.st b).up≠(x:Int)) {n:Nat} (hn:R+3<n):acall T (n+2) 38 [IP it x,IP it y,IP it b] g=some (.p (.int .i64 18),g):=by
 obtain ⟨o,ho,r0,r1,r2,r3,r4,r5⟩:=item_at hD hy (I y) rfl
 obtain ⟨ob,hob,s0,s1,s2,s3,s4,s5⟩:=item_at hD hb (I b) rfl
 have un:=under_run hS hI hD hx hy (n:=n) hn
 rw [hun] at un
 rw [hI.up y hy,upN_none hS (mem_liveL.1 hy).1 hyu] at r1
 rw [hI.up b hb] at s1
 have hbN:=(mem_liveL.1 hb).1
 have ox:=hD.one hx [] []
 simp only [St.one,St.obj,if_true] at ox
 rw [acall_code T38,run_code rfl rfl]
 rcases hS.up b hbN with h1 | ⟨p,h1,h2,h3,_⟩
 ·rw [upN_none hS hbN (by omega)] at s1
  simp only [iAV] at r1 s1
  simp -implicitDefEqProofs (disch:=omega) only [Rx,simprocAttr,F38,ho,r1,hob,s1,un]
 ·rw [upN_some hS hbN h2] at s1
  have hpL:p ∈ liveL S:=mem_liveL.2 ⟨h1,h3⟩
  have op:=hD.one hpL [] []
  simp only [St.one,St.obj,if_true] at op
  have hne:(it p==it x)=false:=by
   simp only [beq_eq_false_iff_ne,ne_eq]
   intro e
   have:=hD.itInj p hpL x hx e
   subst this
   exact hbu h2
  simp only [iAV] at r1 s1
  simp -implicitDefEqProofs (disch:=omega) only [Rx,simprocAttr,F38,ho,r1,hob,s1,un,ox,op,hne]
theorem place_done (hS : S.Ok R) (hD : DocAt (liveL S) S.st nx it nd I pd pm g) (hI : LinkOk S I) {x y : Nat} (hx : x ∈ liveL S) (hy : y ∈ liveL S) (hyu : (S.st y).up < 0) (hun : underB S x y = false) (b : Option Nat) (hb : ∀ k, b = some k → k ∈ liveL S ∧ (S.st k).up = (x : Int)) (ha : ∀ k, aheadI I x b = some k → k ∈ liveL S ∧ k ≠ y) {n : Nat} (hn : R + 3 < n) :
    ∃ g',acall T (n+2) 38 [IP it x,IP it y,iAV it b] g=some (.p (.int .i64 0),g')∧DocAt (liveL S) S.st nx it nd (placeI I x y b) pd pm g'∧GFr g (DocOwn (liveL S) it nd pd pm) g' (DocOwn (liveL S) it nd pd pm):=by
  have hxy:x≠y:=fun e=>by
    subst e
    have:underB S (x:Int) (x:Int)=true:=underB_iff.2 .here
    rw [this] at hun;cases hun
  have hyx:y≠x:=fun e=>hxy e.symm
  have hby:b≠some y:=fun e=>by have:=(hb y e).2;omega
  have hay:aheadI I x b≠some y:=fun e=>(ha y e).2 rfl
  obtain ⟨o,ho,r0,r1,r2,r3,r4,r5⟩:=item_at hD hy (I y) rfl
  rw [hI.up y hy,upN_none hS (mem_liveL.1 hy).1 hyu] at r1
  have un:=under_run hS hI hD hx hy (n:=n) hn
  rw [hun] at un
  have ox:=hD.one hx [] []
  simp only [St.one,St.obj,if_true] at ox
  have cA:=cells_iAV it (aheadI I x b)
  have nA:=noLocal_iAV it (aheadI I x b)
  rw [← placeC_eq hxy hby hay]
  obtain ⟨o1,o1',g1,h1,q1,w1,s1,D1,F1⟩:=hD.link hy (j:=1) (by omega) { I y with u:=some x } (some x) rfl
  obtain ⟨o2,o2',g2,h2,q2,w2,s2,D2,F2⟩:=D1.link hy (j:=5) (by omega) { (upd I y { I y with u:=some x }) y with n:=b } b rfl
  rw [ho] at h1;cases h1
  simp only [iAV] at r1 w1
  cases b with
  | none =>
    obtain ⟨ox2,hx2,t0,t1,t2,t3,t4,t5⟩:=item_at D2 hx (I x) (by simp [upd,hxy])
    obtain ⟨o3,o3',g3,h3,q3,w3,s3,D3,F3⟩:=D2.link hy (j:=4) (by omega) { (upd (upd I y { I y with u:=some x }) y { (upd I y { I y with u:=some x }) y with n:=none }) y with p:=aheadI I x none } (aheadI I x none) rfl
    obtain ⟨o4,o4',g4,h4,q4,w4,s4,D4,F4⟩:=D3.link hx (j:=3) (by omega) { (upd (upd (upd I y { I y with u:=some x }) y { (upd I y { I y with u:=some x }) y with n:=none }) y { (upd (upd I y { I y with u:=some x }) y { (upd I y { I y with u:=some x }) y with n:=none }) y with p:=aheadI I x none }) x with l:=some y } (some y) rfl
    obtain ⟨oy4,hy4,v0,v1,v2,v3,v4,v5⟩:=item_at D4 hy ⟨some x,(I y).f,(I y).l,aheadI I x none,none⟩ (by simp [upd,hyx])
    have e3:iAV it (I x).l=iAV it (aheadI I x none):=rfl
    rw [e3] at t3
    simp only at v4
    cases hA:aheadI I x none with
    | none =>
      obtain ⟨o5,o5',g5,h5,q5,w5,s5,D5,F5⟩:=D4.link hx (j:=2) (by omega) { (upd (upd (upd (upd I y { I y with u:=some x }) y { (upd I y { I y with u:=some x }) y with n:=none }) y { (upd (upd I y { I y with u:=some x }) y { (upd I y { I y with u:=some x }) y with n:=none }) y with p:=aheadI I x none }) x { (upd (upd (upd I y { I y with u:=some x }) y { (upd I y { I y with u:=some x }) y with n:=none }) y { (upd (upd I y { I y with u:=some x }) y { (upd I y { I y with u:=some x }) y with n:=none }) y with p:=aheadI I x none }) x with l:=some y }) x with f:=some y } (some y) rfl
      refine ⟨g5, ?_, ?_,((((F1.trans F2).trans F3).trans F4).trans F5)⟩
      · rw [acall_code T38,run_code rfl rfl]
        rw [hA] at t3 w3 v4
        simp only [iAV] at t3 w2 w3 w4 w5 v4 ⊢
        simp -implicitDefEqProofs (disch:=omega) only [Rx,simprocAttr,F38,ho,r1,un,w1,s1,h2,w2,s2,hx2,t3,h3,w3,s3,h4,w4,s4,hy4,v4,h5,w5,s5]
      · unfold placeC
        simp only [hA] at D5 ⊢
        exact D5
    | some a =>
      obtain ⟨haL,hay'⟩:=ha a hA
      obtain ⟨o5,o5',g5,h5,q5,w5,s5,D5,F5⟩:=D4.link haL (j:=5) (by omega) { (upd (upd (upd (upd I y { I y with u:=some x }) y { (upd I y { I y with u:=some x }) y with n:=none }) y { (upd (upd I y { I y with u:=some x }) y { (upd I y { I y with u:=some x }) y with n:=none }) y with p:=aheadI I x none }) x { (upd (upd (upd I y { I y with u:=some x }) y { (upd I y { I y with u:=some x }) y with n:=none }) y { (upd (upd I y { I y with u:=some x }) y { (upd I y { I y with u:=some x }) y with n:=none }) y with p:=aheadI I x none }) x with l:=some y }) a with n:=some y } (some y) rfl
      refine ⟨g5, ?_, ?_,((((F1.trans F2).trans F3).trans F4).trans F5)⟩
      · rw [acall_code T38,run_code rfl rfl]
        rw [hA] at t3 w3 v4
        simp only [iAV] at t3 w2 w3 w4 w5 v4 ⊢
        simp -implicitDefEqProofs (disch:=omega) only [Rx,simprocAttr,F38,ho,r1,un,w1,s1,h2,w2,s2,hx2,t3,h3,w3,s3,h4,w4,s4,hy4,v4,h5,w5,s5]
      · unfold placeC
        simp only [hA] at D5 ⊢
        exact D5
  | some c =>
    obtain ⟨hcL,hcu⟩:=hb c rfl
    have hcy:c≠y:=fun e=>hby (by rw [e])
    have hyc:y≠c:=fun e=>hcy e.symm
    obtain ⟨oc,hoc,c0,c1,c2,c3,c4,c5⟩:=item_at hD hcL (I c) rfl
    rw [hI.up c hcL,upN_some hS (mem_liveL.1 hcL).1 hcu] at c1
    obtain ⟨ox2,hx2,t0,t1,t2,t3,t4,t5⟩:=item_at D2 hcL (I c) (by simp [upd,hcy])
    obtain ⟨o3,o3',g3,h3,q3,w3,s3,D3,F3⟩:=D2.link hy (j:=4) (by omega) { (upd (upd I y { I y with u:=some x }) y { (upd I y { I y with u:=some x }) y with n:=some c }) y with p:=aheadI I x (some c) } (aheadI I x (some c)) rfl
    obtain ⟨o4,o4',g4,h4,q4,w4,s4,D4,F4⟩:=D3.link hcL (j:=4) (by omega) { (upd (upd (upd I y { I y with u:=some x }) y { (upd I y { I y with u:=some x }) y with n:=some c }) y { (upd (upd I y { I y with u:=some x }) y { (upd I y { I y with u:=some x }) y with n:=some c }) y with p:=aheadI I x (some c) }) c with p:=some y } (some y) rfl
    obtain ⟨oy4,hy4,v0,v1,v2,v3,v4,v5⟩:=item_at D4 hy ⟨some x,(I y).f,(I y).l,aheadI I x (some c),some c⟩ (by simp [upd,hyc])
    have e3:iAV it (I c).p=iAV it (aheadI I x (some c)):=rfl
    rw [e3] at t4
    simp only at v4
    cases hA:aheadI I x (some c) with
    | none =>
      obtain ⟨o5,o5',g5,h5,q5,w5,s5,D5,F5⟩:=D4.link hx (j:=2) (by omega) { (upd (upd (upd (upd I y { I y with u:=some x }) y { (upd I y { I y with u:=some x }) y with n:=some c }) y { (upd (upd I y { I y with u:=some x }) y { (upd I y { I y with u:=some x }) y with n:=some c }) y with p:=aheadI I x (some c) }) c { (upd (upd (upd I y { I y with u:=some x }) y { (upd I y { I y with u:=some x }) y with n:=some c }) y { (upd (upd I y { I y with u:=some x }) y { (upd I y { I y with u:=some x }) y with n:=some c }) y with p:=aheadI I x (some c) }) c with p:=some y }) x with f:=some y } (some y) rfl
      refine ⟨g5, ?_, ?_,((((F1.trans F2).trans F3).trans F4).trans F5)⟩
      · rw [acall_code T38,run_code rfl rfl]
        rw [hA] at t4 w3 v4
        simp only [iAV] at c1 t4 w2 w3 w4 w5 v4 ⊢
        simp -implicitDefEqProofs (disch:=omega) only [Rx,simprocAttr,F38,ho,r1,un,ox,hoc,c1,w1,s1,h2,w2,s2,hx2,t4,h3,w3,s3,h4,w4,s4,hy4,v4,h5,w5,s5]
      · unfold placeC
        simp only [hA] at D5 ⊢
        exact D5
    | some a =>
      obtain ⟨haL,hay'⟩:=ha a hA
      obtain ⟨o5,o5',g5,h5,q5,w5,s5,D5,F5⟩:=D4.link haL (j:=5) (by omega) { (upd (upd (upd (upd I y { I y with u:=some x }) y { (upd I y { I y with u:=some x }) y with n:=some c }) y { (upd (upd I y { I y with u:=some x }) y { (upd I y { I y with u:=some x }) y with n:=some c }) y with p:=aheadI I x (some c) }) c { (upd (upd (upd I y { I y with u:=some x }) y { (upd I y { I y with u:=some x }) y with n:=some c }) y { (upd (upd I y { I y with u:=some x }) y { (upd I y { I y with u:=some x }) y with n:=some c }) y with p:=aheadI I x (some c) }) c with p:=some y }) a with n:=some y } (some y) rfl
      refine ⟨g5, ?_, ?_,((((F1.trans F2).trans F3).trans F4).trans F5)⟩
      · rw [acall_code T38,run_code rfl rfl]
        rw [hA] at t4 w3 v4
        simp only [iAV] at c1 t4 w2 w3 w4 w5 v4 ⊢
        simp -implicitDefEqProofs (disch:=omega) only [Rx,simprocAttr,F38,ho,r1,un,ox,hoc,c1,w1,s1,h2,w2,s2,hx2,t4,h3,w3,s3,h4,w4,s4,hy4,v4,h5,w5,s5]
      · unfold placeC
        simp only [hA] at D5 ⊢
        exact D5
theorem drop_free (hD:DocAt (liveL S) S.st nx it nd I pd pm g) {x:Nat} (hx:x ∈ liveL S) (hu:(I x).u=none) (n:Nat):acall T (n+1) 39 [IP it x] g=some (.p (.int .i64 16),g):=by
 obtain ⟨o,ho,r0,r1,r2,r3,r4,r5⟩:=item_at hD hx (I x) rfl
 rw [hu] at r1
 simp only [iAV] at r1
 rw [acall_code T39,run_code rfl rfl]
 simp -implicitDefEqProofs (disch:=omega) only [Rx,simprocAttr,F39,ho,r1]
theorem drop_done (hD : DocAt (liveL S) S.st nx it nd I pd pm g) {x u : Nat} (hx : x ∈ liveL S) (hu : (I x).u = some u) (huL : u ∈ liveL S) (hux : u ≠ x) (hp : ∀ k, (I x).p = some k → k ∈ liveL S ∧ k ≠ x) (hn : ∀ k, (I x).n = some k → k ∈ liveL S ∧ k ≠ x) (n : Nat) :
    ∃ g',acall T (n+1) 39 [IP it x] g=some (.p (.int .i64 0),g')∧DocAt (liveL S) S.st nx it nd (dropI I x) pd pm g'∧GFr g (DocOwn (liveL S) it nd pd pm) g' (DocOwn (liveL S) it nd pd pm):=by
  rw [← dropC_eq hu hux (fun e=>(hp x e).2 rfl) (fun e=>(hn x e).2 rfl)]
  have hxu:x≠u:=fun e=>hux e.symm
  obtain ⟨o,ho,r0,r1,r2,r3,r4,r5⟩:=item_at hD hx (I x) rfl
  have cn:=cells_iAV it (I x).n
  have nn:=noLocal_iAV it (I x).n
  have cp:=cells_iAV it (I x).p
  have np:=noLocal_iAV it (I x).p
  rw [hu] at r1
  have key:∀ (J:Nat→LK) (g1:List AObj),DocAt (liveL S) S.st nx it nd J pd pm g1→J x=I x→∃ g2,∃ o1 o2 o3 o1' o2' o3' ga gb,DocAt (liveL S) S.st nx it nd (upd (upd (upd J x { J x with u:=none }) x { (upd J x { J x with u:=none }) x with p:=none }) x { (upd (upd J x { J x with u:=none }) x { (upd J x { J x with u:=none }) x with p:=none }) x with n:=none }) pd pm g2∧GFr g1 (DocOwn (liveL S) it nd pd pm) g2 (DocOwn (liveL S) it nd pd pm) ∧
      g1[it x]? = some o1∧o1.wr 1 0 1 6 [.p .nilp]=some o1'∧g1.set (it x) o1'=ga∧ga[it x]? = some o2∧o2.wr 1 0 4 6 [.p .nilp]=some o2'∧ga.set (it x) o2'=gb∧gb[it x]? = some o3∧o3.wr 1 0 5 6 [.p .nilp]=some o3'∧gb.set (it x) o3'=g2:=by
    intro J g1 D0 _
    obtain ⟨o1,o1',ga,h1,q1,w1,s1,D1,F1⟩:=D0.link hx (j:=1) (by omega) { J x with u:=none } none rfl
    obtain ⟨o2,o2',gb,h2,q2,w2,s2,D2,F2⟩:=D1.link hx (j:=4) (by omega) { (upd J x { J x with u:=none }) x with p:=none } none rfl
    obtain ⟨o3,o3',gc,h3,q3,w3,s3,D3,F3⟩:=D2.link hx (j:=5) (by omega) { (upd (upd J x { J x with u:=none }) x { (upd J x { J x with u:=none }) x with p:=none }) x with n:=none } none rfl
    exact ⟨gc,o1,o2,o3,o1',o2',o3',ga,gb,D3,(F1.trans F2).trans F3,h1,w1,s1,h2,w2,s2,h3,w3,s3⟩
  unfold dropC
  cases hP:(I x).p with
  | none =>
    obtain ⟨oa,oa',g1,h1,q1,w1,s1,D1,F1⟩:=hD.link huL (j:=2) (by omega) { I u with f:=(I x).n } (I x).n rfl
    obtain ⟨ob,hob,t0,t1,t2,t3,t4,t5⟩:=item_at D1 hx (I x) (by simp [upd,hxu])
    rw [hu] at t1
    cases hN:(I x).n with
    | none =>
      obtain ⟨oc,oc',g2,h2,q2,w2,s2,D2,F2⟩:=D1.link huL (j:=3) (by omega) { (upd I u { I u with f:=(I x).n }) u with l:=(I x).p } (I x).p rfl
      obtain ⟨g3,o1,o2,o3,o1',o2',o3',ga,gb,D3,F3,k1,k2,k3,k4,k5,k6,k7,k8,k9⟩:=key _ _ D2 (by simp [upd,hxu])
      refine ⟨g3, ?_, ?_,(F1.trans F2).trans F3⟩
      · rw [acall_code T39,run_code rfl rfl]
        rw [hP] at r4 t4 w2
        rw [hN] at r5 t5 w1
        simp only [iAV] at r1 r4 r5 t1 t4 t5 w1 w2
        simp -implicitDefEqProofs (disch:=omega) only [Rx,simprocAttr,F39,ho,r1,r4,r5,h1,w1,s1,hob,t1,t4,t5,h2,w2,s2,k1,k2,k3,k4,k5,k6,k7,k8,k9]
      · simp only [hP,hN] at D3 ⊢
        exact D3
    | some c =>
      obtain ⟨hcL,hcx⟩:=hn c hN
      have hxc:x≠c:=fun e=>hcx e.symm
      obtain ⟨oc,oc',g2,h2,q2,w2,s2,D2,F2⟩:=D1.link hcL (j:=4) (by omega) { (upd I u { I u with f:=(I x).n }) c with p:=(I x).p } (I x).p rfl
      obtain ⟨g3,o1,o2,o3,o1',o2',o3',ga,gb,D3,F3,k1,k2,k3,k4,k5,k6,k7,k8,k9⟩:=key _ _ D2 (by simp [upd,hxu,hxc])
      refine ⟨g3, ?_, ?_,(F1.trans F2).trans F3⟩
      · rw [acall_code T39,run_code rfl rfl]
        rw [hP] at r4 t4 w2
        rw [hN] at r5 t5 w1
        simp only [iAV] at r1 r4 r5 t1 t4 t5 w1 w2
        simp -implicitDefEqProofs (disch:=omega) only [Rx,simprocAttr,F39,ho,r1,r4,r5,h1,w1,s1,hob,t4,t5,h2,w2,s2,k1,k2,k3,k4,k5,k6,k7,k8,k9]
      · simp only [hP,hN] at D3 ⊢
        exact D3
  | some a =>
    obtain ⟨haL,hax⟩:=hp a hP
    obtain ⟨oa,oa',g1,h1,q1,w1,s1,D1,F1⟩:=hD.link haL (j:=5) (by omega) { I a with n:=(I x).n } (I x).n rfl
    have hxa:x≠a:=fun e=>hax e.symm
    obtain ⟨ob,hob,t0,t1,t2,t3,t4,t5⟩:=item_at D1 hx (I x) (by simp [upd,hxa])
    rw [hu] at t1
    cases hN:(I x).n with
    | none =>
      obtain ⟨oc,oc',g2,h2,q2,w2,s2,D2,F2⟩:=D1.link huL (j:=3) (by omega) { (upd I a { I a with n:=(I x).n }) u with l:=(I x).p } (I x).p rfl
      obtain ⟨g3,o1,o2,o3,o1',o2',o3',ga,gb,D3,F3,k1,k2,k3,k4,k5,k6,k7,k8,k9⟩:=key _ _ D2 (by simp [upd,hxu,hxa])
      refine ⟨g3, ?_, ?_,(F1.trans F2).trans F3⟩
      · rw [acall_code T39,run_code rfl rfl]
        rw [hP] at r4 t4 w2
        rw [hN] at r5 t5 w1
        simp only [iAV] at r1 r4 r5 t1 t4 t5 w1 w2
        simp -implicitDefEqProofs (disch:=omega) only [Rx,simprocAttr,F39,ho,r1,r4,r5,h1,w1,s1,hob,t1,t4,t5,h2,w2,s2,k1,k2,k3,k4,k5,k6,k7,k8,k9]
      · simp only [hP,hN] at D3 ⊢
        exact D3
    | some c =>
      obtain ⟨hcL,hcx⟩:=hn c hN
      have hxc:x≠c:=fun e=>hcx e.symm
      obtain ⟨oc,oc',g2,h2,q2,w2,s2,D2,F2⟩:=D1.link hcL (j:=4) (by omega) { (upd I a { I a with n:=(I x).n }) c with p:=(I x).p } (I x).p rfl
      obtain ⟨g3,o1,o2,o3,o1',o2',o3',ga,gb,D3,F3,k1,k2,k3,k4,k5,k6,k7,k8,k9⟩:=key _ _ D2 (by simp [upd,hxa,hxc])
      refine ⟨g3, ?_, ?_,(F1.trans F2).trans F3⟩
      · rw [acall_code T39,run_code rfl rfl]
        rw [hP] at r4 t4 w2
        rw [hN] at r5 t5 w1
        simp only [iAV] at r1 r4 r5 t1 t4 t5 w1 w2
        simp -implicitDefEqProofs (disch:=omega) only [Rx,simprocAttr,F39,ho,r1,r4,r5,h1,w1,s1,hob,t4,t5,h2,w2,s2,k1,k2,k3,k4,k5,k6,k7,k8,k9]
      · simp only [hP,hN] at D3 ⊢
        exact D3
end
end Go.TA.Try


end
section
/- Tags and names: what the program says of them. -/
set_option maxHeartbeats 1000000
namespace Go.TA.Try
theorem smallB_inner {more:Bool} {c:UInt8} (h:smallB c=true):innerB more c=true:=by simp [innerB,h]
theorem small_run (c:UInt8) (g:List AObj) (n:Nat):acall T (n+1) 68 [.p (.int .u8 c.toNat)] g=some (.p (.bool (smallB c)),g):=by
 rw [acall_code T68,run_pure rfl rfl rfl]
 by_cases h1:(97:Int)≤c.toNat
 ·by_cases h2:(c.toNat:Int)≤122
  ·simp -implicitDefEqProofs (disch:=omega) only [Rx,simprocAttr,F68,smallB,h1,h2]
  ·simp -implicitDefEqProofs (disch:=omega) only [Rx,simprocAttr,F68,smallB,h1,h2]
 ·simp -implicitDefEqProofs (disch:=omega) only [Rx,simprocAttr,F68,smallB,h1]
theorem getD_get {s:Bs} {i:Nat} {c:UInt8} (h:s[i]? = some c):s.getD i 0=c:=by rw [List.getD_eq_getElem?_getD,h];rfl
def outB (r:Bool):Ex × St:=if r=true then (.exit 0,⟨[],[],[]⟩) else (.ret,⟨[(4,.p (.bool false))],[],[]⟩)
def othersOf (more:Bool):Bs:=if more=true then [45,58,46] else [45]
theorem u8_ne {c:UInt8} {k:UInt8}:((k==c)=true)↔c.toNat=k.toNat:=by
 rw [beq_iff_eq]
 exact ⟨fun h=>by rw [h],fun h=>(UInt8.toNat_inj.1 h).symm⟩
theorem others_at (more:Bool) (c:UInt8) (hn:(smallB c || digitB c)=false):(Lib.indexByte (othersOf more) c<0)=((innerB more c)=false):=by
 have e:innerB more c=(((c.toNat:Int)==45) || (more && (((c.toNat:Int)==58) || ((c.toNat:Int)==46)))):=by
  simp only [Bool.or_eq_false_iff] at hn
  simp [innerB,hn.1,hn.2]
 rw [e]
 have q:∀ k:UInt8,(k==c)=((c.toNat:Int)==(k.toNat:Int)):=fun k=>by
  rw [Bool.eq_iff_iff,u8_ne,beq_iff_eq]
  omega
 cases more
 ·have e0:othersOf false=[45]:=rfl
  have:((45:UInt8).toNat:Int)=45:=rfl
  simp only [e0,Lib.indexByte,q,this]
  cases h:((c.toNat:Int)==45) <;> simp
 ·have e0:othersOf true=[45,58,46]:=rfl
  have e1:((45:UInt8).toNat:Int)=45:=rfl
  have e2:((58:UInt8).toNat:Int)=58:=rfl
  have e3:((46:UInt8).toNat:Int)=46:=rfl
  simp only [e0,Lib.indexByte,q,e1,e2,e3]
  cases h:((c.toNat:Int)==45) <;> cases h':((c.toNat:Int)==58) <;> cases h'':((c.toNat:Int)==46) <;> simp
theorem index_run (s:Bs) (c:UInt8) (g:List AObj) (n:Nat):acall T (n+1) 69 [.p (.str s),.p (.int .u8 c.toNat)] g=some (.p (.int .i64 (Lib.indexByte s c)),g):=by
 rw [acall_prim T69]
 simp [pIndexByte]
theorem named_loop {n N : Nat} (s : Bs) (more : Bool) (hs : s.length ≤ 32) (hN : 32 < N) (i : Nat) (hi : i ≤ s.length) :
    aexec (acall T (n+1)) N (.loop B56x0) ⟨[(0,.p (.str s)),(1,.p (.str (othersOf more))),(21,.p (.int .i64 s.length)),(22,.p (.int .i64 i))],[],[]⟩=some (outB ((s.drop i).all (innerB more))):=by
  refine loop_rule' (σ := Nat) (S:=fun i=>⟨[(0,.p (.str s)),(1,.p (.str (othersOf more))),(21,.p (.int .i64 s.length)),(22,.p (.int .i64 i))],[],[]⟩) (I:=fun i=>i≤s.length) (μ := fun i=>s.length - i)
    (Φ := fun i=>outB ((s.drop i).all (innerB more))) ?_ i hi (by omega)
  intro i hi
  by_cases h:i<s.length
  · obtain ⟨c,hc⟩:=get_some h
    have hg:=getD_get hc
    have k1:(i:Int)<(s.length:Int):=by omega
    rw [drop_cons hc]
    have good:innerB more c=true→aexec (acall T (n+1)) N B56x0 ⟨[(0,.p (.str s)),(1,.p (.str (othersOf more))),(21,.p (.int .i64 s.length)),(22,.p (.int .i64 i))],[],[]⟩=some (.normal,⟨[(0,.p (.str s)),(1,.p (.str (othersOf more))),(21,.p (.int .i64 s.length)),(22,.p (.int .i64 ((i+1:Nat):Int)))],[],[]⟩):=fun hb=>by
      cases hsm:smallB c with
      | true=>simp -implicitDefEqProofs (disch:=omega) only [Rx,simprocAttr,B56x0,k1,hg,small_run,hsm]
      | false =>
        by_cases h48:(c.toNat:Int)<48
        · have hd:(smallB c || digitB c)=false:=by simp [hsm,digitB];omega
          have ho:¬ (Lib.indexByte (othersOf more) c<0):=by rw [others_at more c hd,hb];simp
          simp -implicitDefEqProofs (disch:=omega) only [Rx,simprocAttr,B56x0,k1,hg,small_run,hsm,h48,index_run,ho]
        · by_cases h57:57<(c.toNat:Int)
          · have hd:(smallB c || digitB c)=false:=by simp [hsm,digitB];omega
            have ho:¬ (Lib.indexByte (othersOf more) c<0):=by rw [others_at more c hd,hb];simp
            simp -implicitDefEqProofs (disch:=omega) only [Rx,simprocAttr,B56x0,k1,hg,small_run,hsm,h48,h57,index_run,ho]
          · simp -implicitDefEqProofs (disch:=omega) only [Rx,simprocAttr,B56x0,k1,hg,small_run,hsm,h48,h57]
    cases hb:innerB more c with
    | true=>exact .inl ⟨i+1,good hb,by omega,by omega,by simp [hb]⟩
    | false =>
      refine .inr ⟨?_,by simp [hb,outB]⟩
      have hsm:smallB c=false:=by
        cases h:smallB c
        · rfl
        · rw [smallB_inner h] at hb;cases hb
      have hdg:digitB c=false:=by
        cases h:digitB c
        · rfl
        · simp [innerB,h] at hb
      have hd:(smallB c || digitB c)=false:=by simp [hsm,hdg]
      have ho:Lib.indexByte (othersOf more) c<0:=by rw [others_at more c hd,hb]
      have eF:outB ((c::s.drop (i+1)).all (innerB more))=(.ret,⟨[(4,.p (.bool false))],[],[]⟩):=by simp [outB,hb]
      by_cases h48:(c.toNat:Int)<48
      · rw [eF]
        simp -implicitDefEqProofs (disch:=omega) only [Rx,simprocAttr,B56x0,k1,hg,small_run,hsm,h48,index_run,ho]
      · have h57:57<(c.toNat:Int):=by simp [digitB] at hdg;omega
        rw [eF]
        simp -implicitDefEqProofs (disch:=omega) only [Rx,simprocAttr,B56x0,k1,hg,small_run,hsm,h48,h57,index_run,ho]
  · refine .inr ⟨?_,by rw [List.drop_eq_nil_of_le (by omega)];simp [outB]⟩
    have k1:¬ (i:Int)<(s.length:Int):=by omega
    rw [List.drop_eq_nil_of_le (by omega)]
    simp -implicitDefEqProofs (disch:=omega) only [Rx,simprocAttr,B56x0,k1,outB]
theorem named_run (s : Bs) (more : Bool) (g : List AObj) (n : Nat) : acall T (n + 35) 56 [.p (.str s), .p (.str (othersOf more))] g = some (.p (.bool (namedB more s)), g) := by
  rw [acall_code T56,run_pure rfl rfl rfl]
  cases s with
  | nil=>simp -implicitDefEqProofs (disch:=omega) only [Rx,simprocAttr,F56,namedB]
  | cons c r =>
    have k0:((c::r)==([]:Bs))=false:=rfl
    by_cases h32:(c::r).length≤32
    · have k1:¬ (32<(r.length:Int)+1):=by simp at h32;omega
      have hl:=named_loop (n:=n+33) (N:=n+34) (c::r) more h32 (by omega) 0 (by simp)
      simp only [List.length_cons,Int.natCast_add,Int.natCast_one,Int.natCast_zero] at hl
      cases hsm:smallB c with
      | true =>
        have e:namedB more (c::r)=((c::r).drop 0).all (innerB more):=by
          simp only [namedB,hsm,List.drop_zero,List.all_cons,smallB_inner hsm,Bool.true_and,Bool.and_true]
          simp at h32 ⊢
          omega
        rw [e]
        cases hb:((c::r).drop 0).all (innerB more) with
        | true =>
          have hl':outB (((c::r).drop 0).all (innerB more))=(.exit 0,⟨[],[],[]⟩):=by simp only [outB,hb];rfl
          rw [hl'] at hl
          simp -implicitDefEqProofs (disch:=omega) only [Rx,simprocAttr,F56,k0,k1,small_run,hsm,hl]
        | false =>
          have hl':outB (((c::r).drop 0).all (innerB more))=(.ret,⟨[(4,.p (.bool false))],[],[]⟩):=by simp only [outB,hb];rfl
          rw [hl'] at hl
          simp -implicitDefEqProofs (disch:=omega) only [Rx,simprocAttr,F56,k0,k1,small_run,hsm,hl]
      | false =>
        have e:namedB more (c::r)=false:=by simp [namedB,hsm]
        rw [e]
        simp -implicitDefEqProofs (disch:=omega) only [Rx,simprocAttr,F56,k0,k1,small_run,hsm]
    · have k1:32<(r.length:Int)+1:=by simp at h32;omega
      have e:namedB more (c::r)=false:=by simp [namedB];simp at h32;omega
      rw [e]
      simp -implicitDefEqProofs (disch:=omega) only [Rx,simprocAttr,F56,k0,k1]
theorem tag_run (s:Bs) (g:List AObj) (n:Nat):acall T (n+36) 32 [.p (.str s)] g=some (.p (.bool (namedB false s)),g):=by
 rw [acall_code T32,run_pure rfl rfl rfl]
 have h:=named_run s false [] n
 simp only [othersOf,Bool.false_eq_true,if_false] at h
 simp -implicitDefEqProofs (disch:=omega) only [Rx,simprocAttr,F32,h]
theorem name_run (s:Bs) (g:List AObj) (n:Nat):acall T (n+36) 45 [.p (.str s)] g=some (.p (.bool (namedB true s)),g):=by
 rw [acall_code T45,run_pure rfl rfl rfl]
 have h:=named_run s true [] n
 simp only [othersOf,if_true] at h
 simp -implicitDefEqProofs (disch:=omega) only [Rx,simprocAttr,F45,h]
theorem fits_run (s:Bs) (g:List AObj) (n:Nat):acall T (n+1) 33 [.p (.str s)] g=some (.p (.bool (decide ((s.length:Int)≤65536))),g):=by
 rw [acall_code T33,run_pure rfl rfl rfl]
 simp -implicitDefEqProofs (disch:=omega) only [Rx,simprocAttr,F33]
end Go.TA.Try


end
section
/- What is wrong with attributes: the program. -/
namespace Go.TA.Try
theorem ap_loop {n N : Nat} (l : List Attr) (hN : l.length < N) :
    aexec (acall T (n+36)) N (.loop B34x0) ⟨[(0,.p (.list (l.map Attr.pv))),(7,.p (.list (l.map Attr.pv))),(8,.p (.int .i64 l.length)),(9,.p (.int .i64 ((0:Nat):Int)))],[],[]⟩=some (chkOut (attrsChk [] 0 l)):=by
  refine loop_rule' (C:=acall T (n+36)) (N:=N) (B:=B34x0) (σ := Nat) (S:=fun i=>⟨[(0,.p (.list (l.map Attr.pv))),(7,.p (.list (l.map Attr.pv))),(8,.p (.int .i64 l.length)),(9,.p (.int .i64 i))],[],[]⟩) (I:=fun i=>i≤l.length∧i≤64) (μ := fun i=>l.length - i)
    (Φ := fun i=>chkOut (attrsChk (prevOf l i) i (l.drop i))) ?_ 0 ⟨by omega,by omega⟩ (by omega)
  rintro i ⟨hi,hi64⟩
  by_cases h:i<l.length
  · have k1 : (i : Int) < (l.length : Int) := by omega
    obtain ⟨a,ha⟩:=get_some h
    have ga:=getD_map (f:=Attr.pv) ha
    rw [chk_step ha]
    have bad:∀ e:Int,attrErr (prevOf l i) i a=e→e≠0→aexec (acall T (n+36)) N B34x0 ⟨[(0,.p (.list (l.map Attr.pv))),(7,.p (.list (l.map Attr.pv))),(8,.p (.int .i64 l.length)),(9,.p (.int .i64 i))],[],[]⟩=some (.ret,⟨[(2,.p (.int .i64 i)),(3,.p (.int .i64 e))],[],[]⟩) →
        (∃ s',aexec (acall T (n+36)) N B34x0 ⟨[(0,.p (.list (l.map Attr.pv))),(7,.p (.list (l.map Attr.pv))),(8,.p (.int .i64 l.length)),(9,.p (.int .i64 i))],[],[]⟩=some (.normal,(fun (i:Nat)=>(⟨[(0,.p (.list (l.map Attr.pv))),(7,.p (.list (l.map Attr.pv))),(8,.p (.int .i64 l.length)),(9,.p (.int .i64 i))],[],[]⟩:St)) s')∧(s'≤l.length∧s'≤64)∧l.length - s'<l.length - i∧chkOut (if attrErr (prevOf l i) i a=0 then attrsChk (prevOf l (i+1)) (i+1) (l.drop (i+1)) else ((i:Int),attrErr (prevOf l i) i a))=chkOut (attrsChk (prevOf l s') s' (l.drop s'))) ∨
        (aexec (acall T (n+36)) N B34x0 ⟨[(0,.p (.list (l.map Attr.pv))),(7,.p (.list (l.map Attr.pv))),(8,.p (.int .i64 l.length)),(9,.p (.int .i64 i))],[],[]⟩=some (chkOut (if attrErr (prevOf l i) i a=0 then attrsChk (prevOf l (i+1)) (i+1) (l.drop (i+1)) else ((i:Int),attrErr (prevOf l i) i a)))∧(chkOut (if attrErr (prevOf l i) i a=0 then attrsChk (prevOf l (i+1)) (i+1) (l.drop (i+1)) else ((i:Int),attrErr (prevOf l i) i a))).1 ≠ .normal):=fun e he h0 hr=>by
      refine .inr ?_
      rw [he,if_neg h0]
      simp only [chkOut,h0,if_false]
      exact ⟨hr,by simp⟩
    by_cases h64:i=64
    · refine bad 12 (by simp [attrErr,h64]) (by decide) ?_
      have k2:((i:Int)==64)=true:=by simp;omega
      simp -implicitDefEqProofs (disch:=omega) only [Rx,simprocAttr,B34x0,k1,k2,ga,Attr.pv]
    have k2:((i:Int)==64)=false:=by simp;omega
    cases hnm:namedB true a.name with
    | false =>
      refine bad 8 (by simp [attrErr,h64,hnm]) (by decide) ?_
      simp -implicitDefEqProofs (disch:=omega) only [Rx,simprocAttr,B34x0,k1,k2,ga,Attr.pv,name_run,hnm]
    | true=>
    by_cases hlong:(a.value.length:Int)≤65536
    rotate_left
    · refine bad 3 (by simp [attrErr,h64,hnm];omega) (by decide) ?_
      simp -implicitDefEqProofs (disch:=omega) only [Rx,simprocAttr,B34x0,k1,k2,ga,Attr.pv,name_run,hnm,fits_run,hlong]
    have hlong':¬ (65536<(a.value.length:Int)):=by omega
    cases i with
    | zero =>
      have e:attrErr (prevOf l 0) 0 a=0:=by simp [attrErr,hnm,hlong',prevOf]
      rw [e,if_pos rfl]
      refine .inl ⟨1, ?_,⟨by omega,by omega⟩,by omega,rfl⟩
      simp only [Int.natCast_zero,Int.natCast_one] at k1 k2 ⊢
      have k3:(0:Int)<(l.length:Int):=k1
      have ga0:(l.map Attr.pv).getD 0 []=Attr.pv a:=ga
      have e0:Int.toNat 0=0:=rfl
      simp -implicitDefEqProofs (disch:=omega) only [Rx,simprocAttr,B34x0,k3,ga0,e0,Attr.pv,name_run,hnm,fits_run,hlong]
    | succ j =>
      obtain ⟨b,hb⟩:=get_some (show j<l.length by omega)
      have gb:=getD_map (f:=Attr.pv) hb
      have ep:prevOf l (j+1)=[b]:=by simp [prevOf,hb]
      have k3:(0:Int)<(j:Int)+1:=by omega
      have k4:(j:Int)<(l.length:Int):=by omega
      simp only [Int.natCast_add,Int.natCast_one] at k1 k2
      have k5:((j:Int)+1).toNat=j+1:=by omega
      by_cases heq:b.name=a.name
      · refine bad 10 (by simp [attrErr,h64,hnm,hlong',ep,heq]) (by decide) ?_
        have heq':(b.name==a.name)=true:=by simpa using heq
        simp -implicitDefEqProofs (disch:=omega) only [Rx,simprocAttr,B34x0,k1,k2,k3,k4,k5,ga,gb,Attr.pv,name_run,hnm,fits_run,hlong,heq']
      · have heq':(b.name==a.name)=false:=by simpa using heq
        have hcmp:=cmpB_less heq
        by_cases hgt:0<cmpB b.name a.name
        · refine bad 9 (by simp [attrErr,h64,hnm,hlong',ep,heq,hgt]) (by decide) ?_
          have hl:strLess b.name a.name=false:=by have:=hcmp.1 hgt;rw [heq',Bool.or_false] at this;exact this
          simp -implicitDefEqProofs (disch:=omega) only [Rx,simprocAttr,B34x0,k1,k2,k3,k4,k5,ga,gb,Attr.pv,name_run,hnm,fits_run,hlong,heq',binS,hl]
        · have e:attrErr (prevOf l (j+1)) (j+1) a=0:=by simp [attrErr,h64,hnm,hlong',ep,heq,hgt]
          have hl:strLess b.name a.name=true:=by
            cases h:strLess b.name a.name
            · exact absurd (hcmp.2 (by rw [h,heq'];rfl)) hgt
            · rfl
          rw [e,if_pos rfl]
          refine .inl ⟨j+1+1, ?_,⟨by omega,by omega⟩,by omega,rfl⟩
          simp -implicitDefEqProofs (disch:=omega) only [Rx,simprocAttr,B34x0,k1,k2,k3,k4,k5,ga,gb,Attr.pv,name_run,hnm,fits_run,hlong,heq',binS,hl]
  · have k1:¬ (i:Int)<(l.length:Int):=by omega
    have e:l.drop i=[]:=List.drop_eq_nil_of_le (by omega)
    refine .inr ⟨?_,by rw [e];simp [attrsChk,chkOut]⟩
    rw [e]
    simp -implicitDefEqProofs (disch:=omega) only [Rx,simprocAttr,B34x0,k1,attrsChk,chkOut]
theorem ap_run (l : List Attr) (g : List AObj) {n : Nat} (hl : l.length < n + 36) : acall T (n + 37) 34 [.p (.list (l.map Attr.pv))] g = some (.tuple [.p (.int .i64 (attrsChk [] 0 l).1), .p (.int .i64 (attrsErr l))], g) := by
  rw [acall_code T34,run_pure rfl rfl rfl]
  have hloop:=ap_loop (n:=n) (N:=n+36) l hl
  simp only [Int.natCast_zero] at hloop
  unfold attrsErr
  have h1:(attrsChk [] 0 l).2=0→(attrsChk [] 0 l).1=0:=by
    have key:∀ (p:List Attr) (i:Nat) (l:List Attr),(attrsChk p i l).2=0→(attrsChk p i l).1=0:=by
      intro p i l
      induction l generalizing p i with
      | nil=>simp [attrsChk]
      | cons a l ih =>
        simp only [attrsChk]
        split
        · exact ih _ _
        · rename_i h;intro h';exact absurd h' h
    exact key [] 0 l
  generalize attrsChk [] 0 l=r at hloop h1
  obtain ⟨x,e⟩:=r
  simp only [chkOut] at hloop h1 ⊢
  by_cases h:e=0
  · rw [if_pos h] at hloop
    rw [h1 h,h]
    simp -implicitDefEqProofs (disch:=omega) only [Rx,simprocAttr,F34,hloop]
  · rw [if_neg h] at hloop
    simp -implicitDefEqProofs (disch:=omega) only [Rx,simprocAttr,F34,hloop]
end Go.TA.Try


end
section
/- A row of attributes is cloned. -/
namespace Go.TA.Try
theorem attrs_two (l:List Attr):((l.map Attr.pv).all fun x=>x.length==2)=true:=by simp [List.all_eq_true,Attr.pv]
theorem cloneA_run (l:List Attr) (h:l.length≤1048577) (g:List AObj) (n:Nat):acall T (n+1) 35 [.p (.list (l.map Attr.pv))] g=some (.own true g.length l.length,g++[.pcells 2 (l.map Attr.pv)]):=by
 rw [acall_prim T35]
 have h2:=attrs_two l
 have h3:l.length*4096≤140737488355328:=by omega
 simp only [pCloneT,thaw,bk_some,pClone,h2,List.length_map,h3,and_self,if_true]
end Go.TA.Try


end
section
/- attrs.With, attrs.Without. -/
namespace Go.TA.Try
def toAt (l:List Attr) (name:Bs) (i:Nat):Int:=if posAt l name<i then (posAt l name:Int) else (l.length:Int)
theorem find_run (l : List Attr) (name : Bs) (hl : l.length ≤ 1048577) (g : List AObj) {n : Nat} (hn : l.length < n) :
    acall T (n+1) 61 [.p (.list (l.map Attr.pv)),.p (.str name)] g=some (.tuple [.p (.int .i64 (if fstAt l name<l.length then (fstAt l name:Int) else (posAt l name:Int))),.p (.bool (decide (fstAt l name<l.length)))],g):=by
  have hpl:posAt l name≤l.length:=List.findIdx_le_length
  have key:=loop_inv (C:=acall T n) (N:=n) (B:=B61x0) (σ := Nat) (S:=fun i=>⟨[(0,.p (.list (l.map Attr.pv))),(1,.p (.str name)),(6,.p (.int .i64 (toAt l name i))),(11,.p (.list (l.map Attr.pv))),(12,.p (.int .i64 l.length)),(13,.p (.int .i64 i))],[],[]⟩)
    (I:=fun i=>i≤l.length∧i≤fstAt l name) (μ := fun i=>l.length - i) (Q:=fun q=>q=if fstAt l name<l.length then (.ret,⟨[(4,.p (.int .i64 (fstAt l name))),(5,.p (.bool true))],[],[]⟩) else (.exit 0,⟨[(6,.p (.int .i64 (posAt l name)))],[],[]⟩)) ?_ 0 ⟨by omega,by omega⟩ (by omega)
  · obtain ⟨q,hq,rfl⟩:=key
    have e0:toAt l name 0=(l.length:Int):=by simp [toAt]
    simp only [Int.natCast_zero,e0] at hq
    rw [acall_code T61,run_pure rfl rfl rfl]
    by_cases hc:fstAt l name<l.length
    · rw [if_pos hc] at hq
      rw [if_pos hc]
      have ed:decide (fstAt l name<l.length)=true:=by simpa using hc
      simp -implicitDefEqProofs (disch:=omega) only [Rx,simprocAttr,F61,hq,ed]
    · rw [if_neg hc] at hq
      rw [if_neg hc]
      have ed:decide (fstAt l name<l.length)=false:=by simpa using hc
      simp -implicitDefEqProofs (disch:=omega) only [Rx,simprocAttr,F61,hq,ed]
  rintro i ⟨h1,h2⟩
  by_cases hi:i<l.length
  · have k1 : (i : Int) < (l.length : Int) := by omega
    have hx:=List.getElem?_eq_getElem hi
    have hg:=getD_map (f:=Attr.pv) hx
    generalize hxa:l[i]=a at hx hg
    by_cases e:i=fstAt l name
    · right
      have hp:(a.name==name)=true:=by
        have:=List.findIdx_getElem (xs:=l) (p:=fun a=>a.name==name) (w:=by unfold fstAt at e;omega)
        simp only [fstAt] at e
        subst e;rw [hxa] at this;exact this
      refine ⟨_, ?_, ?_,rfl⟩
      · rw [if_pos (by omega), ← e]
        simp -implicitDefEqProofs (disch:=omega) only [Rx,simprocAttr,B61x0,k1,hg,Attr.pv,hp]
      · rw [if_pos (by omega)];simp
    · left
      have hp:(a.name==name)=false:=by
        have:=List.not_of_lt_findIdx (xs:=l) (p:=fun a=>a.name==name) (i:=i) (by unfold fstAt at e h2;omega)
        rw [hxa] at this
        simpa using this
      refine ⟨i+1, ?_,⟨by omega,by omega⟩,by omega⟩
      by_cases hlt:posAt l name<i
      · have e1:toAt l name i=(posAt l name:Int):=by simp [toAt,hlt]
        have e2:toAt l name (i+1)=(posAt l name:Int):=by rw [toAt,if_pos (by omega)]
        have k2:(posAt l name:Int)<(l.length:Int):=by omega
        rw [e1,e2]
        simp -implicitDefEqProofs (disch:=omega) only [Rx,simprocAttr,B61x0,k1,k2,hg,Attr.pv,hp]
      · have e1:toAt l name i=(l.length:Int):=by simp [toAt,hlt]
        have k2:¬ (l.length:Int)<(l.length:Int):=by omega
        cases hs:strLess a.name name with
        | true =>
          have hne:posAt l name≠i:=fun e=>by
            have:=List.findIdx_getElem (xs:=l) (p:=fun a => !(strLess a.name name)) (w:=by unfold posAt at e;omega)
            simp only [posAt] at e
            subst e;rw [hxa,hs] at this;simp at this
          have e2:toAt l name (i+1)=(l.length:Int):=by rw [toAt,if_neg (by omega)]
          rw [e1,e2]
          simp -implicitDefEqProofs (disch:=omega) only [Rx,simprocAttr,B61x0,k1,k2,hg,Attr.pv,hp,hs,binS]
        | false =>
          have hpi:posAt l name=i:=by
            have h3:¬ i<posAt l name:=fun h=>by
              have:=List.not_of_lt_findIdx (xs:=l) (p:=fun a:Attr => !(strLess a.name name)) (i:=i) (by unfold posAt at h;exact h)
              rw [hxa,hs] at this
              simp at this
            omega
          have e2:toAt l name (i+1)=(i:Int):=by rw [toAt,if_pos (by omega),hpi]
          rw [e1,e2]
          simp -implicitDefEqProofs (disch:=omega) only [Rx,simprocAttr,B61x0,k1,k2,hg,Attr.pv,hp,hs,binS]
  · right
    obtain rfl:i=l.length:=by omega
    have k1:¬ (l.length:Int)<(l.length:Int):=by omega
    have e1:toAt l name l.length=(posAt l name:Int):=by
      unfold toAt
      split
      · rfl
      · omega
    refine ⟨_, ?_, ?_,rfl⟩
    · rw [if_neg (by omega),e1]
      simp -implicitDefEqProofs (disch:=omega) only [Rx,simprocAttr,B61x0,k1]
    · rw [if_neg (by omega)];simp
theorem insertA_run (l:List Attr) (at':Nat) (a:Attr) (hat:at'≤l.length) (hl:l.length≤1048577) (n:Nat):acall T (n+1) 62 [.own true 0 l.length,.p (.int .i64 at'),.p (.list [a.pv])] [.pcells 2 (l.map Attr.pv)]=some (.p (.list ((l.take at'++a::l.drop at').map Attr.pv)),[.dead]):=by
 rw [acall_prim T62]
 have h5:(l.length+1)*4096≤140737488355328:=by omega
 have h6:(at':Int)≤(l.length:Int):=by omega
 have h7:(a.pv.length==2)=true:=rfl
 simp [pInsert,h7,h5,h6,List.map_take,List.map_drop]
theorem with_run (l:List Attr) (name v:Bs) (hl:l.length≤1048577) (g:List AObj) {n:Nat} (hn:l.length<n) :
  acall T (n+2) 46 [.p (.list (l.map Attr.pv)),.p (.str name),.p (.str v)] g=some (.p (.list ((withA l name v).map Attr.pv)),g):=by
 have hf:=find_run l name hl [] hn
 have hcl:=cloneA_run l hl [] n
 have hpl:posAt l name≤l.length:=List.findIdx_le_length
 have hin:=insertA_run l (posAt l name) ⟨name,v⟩ hpl hl n
 rw [acall_code T46,run_pure rfl rfl rfl]
 have ml:(l.map Attr.pv).length=l.length:=by simp
 simp only [List.length_nil,List.nil_append] at hcl
 by_cases hc:fstAt l name<l.length
 ·have ed:decide (fstAt l name<l.length)=true:=by simpa using hc
  rw [if_pos hc,ed] at hf
  have ew:(withA l name v).map Attr.pv=(l.map Attr.pv).set (fstAt l name) [.str name,.str v]:=by rw [withA,if_pos hc,List.map_set];rfl
  rw [ew]
  have hx:=List.getElem?_eq_getElem hc
  have hp:(l[fstAt l name]).name=name:=by
   have h9:((l[fstAt l name]).name==name)=true:=List.findIdx_getElem (xs:=l) (p:=fun a:Attr=>a.name==name) (w:=by unfold fstAt at hc;exact hc)
   exact beq_iff_eq.1 h9
  have hg:=getD_map (f:=Attr.pv) hx
  simp only [Attr.pv,hp] at hg
  have k2:(fstAt l name:Int)<(l.length:Int):=by omega
  generalize fstAt l name=i at *
  have sl:((l.map Attr.pv).set i [.str name,.str v]).length=l.length:=by simp
  simp -implicitDefEqProofs (disch:=omega) only [Rx,simprocAttr,F46,hf,hcl,hg,k2,ml,sl]
 ·have ed:decide (fstAt l name<l.length)=false:=by simpa using hc
  rw [if_neg hc,ed] at hf
  have ew:withA l name v=l.take (posAt l name)++⟨name,v⟩::l.drop (posAt l name):=by rw [withA,if_neg hc]
  rw [ew]
  generalize l.take (posAt l name)++(⟨name,v⟩:Attr)::l.drop (posAt l name)=l' at hin
  simp only [Attr.pv] at hin
  simp -implicitDefEqProofs (disch:=omega) only [Rx,simprocAttr,F46,hf,hcl,hin]
end Go.TA.Try


end
section
/- A row that is gone through, some of whose elements stay. Plain. -/
namespace Go.TA
theorem filter_step {α : Type} {p : α → Bool} {l:List α} {j:Nat} {x : α} (hx:l[j]? = some x):(l.take (j+1)).filter p=(l.take j).filter p++(if p x=true then [x] else []):=by
 rw [List.take_add_one,hx]
 simp only [List.filter_append,Option.toList_some,List.filter_cons,List.filter_nil]
theorem filter_none {α : Type} {p : α → Bool} {l:List α} (h:∀ x ∈ l,p x=true):l.filter p=l:=List.filter_eq_self.2 h
structure Going {α : Type} (p : α → Bool) (l:List α) (j i:Nat) (cur:List α):Prop where
 len:cur.length=l.length
 lt:i≤j
 have':cur.take i=(l.take j).filter p
 come:cur.drop j=l.drop j
theorem Going.il {α : Type} {p : α → Bool} {l:List α} {j i:Nat} {cur:List α} (h:Going p l j i cur) (hj:j≤l.length):i=((l.take j).filter p).length:=by
 rw [← h.have',List.length_take,h.len]
 have:=h.lt
 omega
theorem Going.at {α : Type} {p : α → Bool} {l:List α} {j i:Nat} {cur:List α} (h:Going p l j i cur):cur[j]? = l[j]? := by
 have:=congrArg (·[0]?) h.come
 simpa [List.getElem?_drop] using this
theorem Going.skip {α : Type} {p : α → Bool} {l:List α} {j i:Nat} {cur:List α} (h:Going p l j i cur) {x : α} (hx:l[j]? = some x) (hp:p x=false):Going p l (j+1) i cur:=by
 refine ⟨h.len,by have:=h.lt;omega, ?_, ?_⟩
 ·rw [filter_step hx,h.have',hp];simp
 ·have:=congrArg (List.drop 1) h.come
  simpa [List.drop_drop,Nat.add_comm] using this
theorem Going.take {α : Type} {p : α → Bool} {l:List α} {j i:Nat} {cur:List α} (h:Going p l j i cur) {x : α} (hx:l[j]? = some x) (hp:p x=true):Going p l (j+1) (i+1) (cur.set i x):=by
 have hj:j<l.length:=(List.getElem?_eq_some_iff.1 hx).1
 have hlt:=h.lt
 refine ⟨by rw [List.length_set];exact h.len,by omega, ?_, ?_⟩
 ·rw [filter_step hx,hp,if_pos rfl, ← h.have',List.take_add_one,List.getElem?_set]
  have:i<cur.length:=by rw [h.len];omega
  rw [if_pos rfl,if_pos this]
  simp [List.take_set_of_le]
 ·have:=congrArg (List.drop 1) h.come
  rw [List.drop_drop,List.drop_drop] at this
  rw [List.drop_set_of_lt (by omega)]
  exact this
end Go.TA


end
section
/- slices.DeleteFunc on a row of attributes that was cloned; attrs.Without. -/
namespace Go.TA.Try
theorem attrs_len (l:List Attr):(l.map Attr.pv).length=l.length:=by simp
section
variable {h:Bs} {kb k:Nat}
theorem cloA_run (x:Attr) (g:List AObj) (hkb:g[kb]? = some (.pcells 1 [[.str h]])) (n:Nat):acall T (n+1) 64 [.p (.agg x.pv),.ptr true kb 1 1 0 0] g=some (.p (.bool (x.name==h)),g):=by
 rw [acall_code T64,run_code rfl rfl]
 have e0:Int.toNat 0=0:=rfl
 simp -implicitDefEqProofs (disch:=omega) only [Rx,simprocAttr,F64,Attr.pv,hkb]
theorem findA_run (ks : List Attr) (g : List AObj) (hk : g[k]? = some (.pcells 2 (ks.map Attr.pv))) (hkb : g[kb]? = some (.pcells 1 [[.str h]])) (hl : ks.length ≤ 1048577) {n : Nat} (hn : ks.length + 1 < n) :
    acall T (n+2) 83 [.own true k ks.length,.func 64 [.ptr true kb 1 1 0 0]] g=some (.p (.int .i64 (if ks.findIdx (fun a=>a.name==h)<ks.length then (ks.findIdx (fun a=>a.name==h):Int) else -1)),g):=by
  have il:=attrs_len ks
  have key:=loop_inv (C:=acall T (n+1)) (N:=n+1) (B:=B83x0) (σ := Nat) (S:=fun i=>⟨[(0,.own true k ks.length),(1,.func 64 [.ptr true kb 1 1 0 0]),(7,.p (.int .i64 ks.length)),(8,.p (.int .i64 i))],[],g⟩)
    (I:=fun i=>i≤ks.length∧i≤ks.findIdx (fun a=>a.name==h)) (μ := fun i=>ks.length - i) (Q:=fun q=>q=if ks.findIdx (fun a=>a.name==h)<ks.length then (.ret,⟨[(4,.p (.int .i64 (ks.findIdx (fun a=>a.name==h))))],[],g⟩) else (.exit 0,⟨[],[],g⟩)) ?_ 0 ⟨by omega,by omega⟩ (by omega)
  · obtain ⟨q,hq,rfl⟩:=key
    simp only [Int.natCast_zero] at hq
    rw [acall_code T83,run_code rfl rfl]
    by_cases hc:ks.findIdx (fun a=>a.name==h)<ks.length
    · rw [if_pos hc] at hq
      rw [if_pos hc]
      simp -implicitDefEqProofs (disch:=omega) only [Rx,simprocAttr,F83,hq]
    · rw [if_neg hc] at hq
      rw [if_neg hc]
      simp -implicitDefEqProofs (disch:=omega) only [Rx,simprocAttr,F83,hq]
  rintro i ⟨h1,h2⟩
  by_cases hi:i<ks.length
  · have k1:(i:Int)<(ks.length:Int):=by omega
    have hg:=getD_map (f:=Attr.pv) (List.getElem?_eq_getElem hi)
    have hc:=cloA_run (h:=h) ks[i] g hkb n
    simp only [Attr.pv] at hg hc
    by_cases e:i=ks.findIdx (fun a=>a.name==h)
    · right
      have hp:((ks[i]).name==h)=true:=by
        have:=List.findIdx_getElem (xs:=ks) (p:=(fun a=>a.name==h)) (w:=by omega)
        subst e;exact this
      rw [hp] at hc
      refine ⟨_, ?_, ?_,rfl⟩
      · rw [if_pos (by omega), ← e]
        simp -implicitDefEqProofs (disch:=omega) only [Rx,simprocAttr,B83x0,k1,hg,hk,hc,il]
      · rw [if_pos (by omega)];simp
    · left
      have hp:((ks[i]).name==h)=false:=by
        have:=List.not_of_lt_findIdx (xs:=ks) (p:=(fun a=>a.name==h)) (i:=i) (by omega)
        simpa using this
      rw [hp] at hc
      refine ⟨i+1, ?_,⟨by omega,by omega⟩,by omega⟩
      simp -implicitDefEqProofs (disch:=omega) only [Rx,simprocAttr,B83x0,k1,hg,hk,hc,il]
  · right
    obtain rfl:i=ks.length:=by omega
    have k1:¬ (ks.length:Int)<(ks.length:Int):=by omega
    refine ⟨_, ?_, ?_,rfl⟩
    · rw [if_neg (by omega)]
      simp -implicitDefEqProofs (disch:=omega) only [Rx,simprocAttr,B83x0,k1]
    · rw [if_neg (by omega)];simp
theorem delA_loop (ks:List Attr) (g:List AObj) (hk:k<g.length) (hkb:g[kb]? = some (.pcells 1 [[.str h]])) (hne:k≠kb) (hl:ks.length≤1048577) (n N:Nat) (hN:ks.length<N) (j0 i0:Nat) (h0:Going (notN h) ks j0 i0 ks) (hj0:j0≤ks.length) :
    ∃ cur i,aexec (acall T (n+1)) N (.loop delLoop2) ⟨[(0,.own true k ks.length),(1,.func 64 [.ptr true kb 1 1 0 0]),(5,.p (.int .i64 i0)),(6,.p (.int .i64 j0))],[],g.set k (.pcells 2 (ks.map Attr.pv))⟩=some (.exit 0,⟨[(0,.own true k ks.length),(5,.p (.int .i64 (i:Nat)))],[],g.set k (.pcells 2 (cur.map Attr.pv))⟩)∧Going (notN h) ks ks.length i cur:=by
  have key:=loop_inv (C:=acall T (n+1)) (N:=N) (B:=delLoop2) (σ := Nat × Nat × List Attr) (S:=fun s=>⟨[(0,.own true k ks.length),(1,.func 64 [.ptr true kb 1 1 0 0]),(5,.p (.int .i64 s.1)),(6,.p (.int .i64 s.2.1))],[],g.set k (.pcells 2 (s.2.2.map Attr.pv))⟩)
    (I:=fun s=>s.2.1≤ks.length∧Going (notN h) ks s.2.1 s.1 s.2.2) (μ := fun s=>ks.length - s.2.1) (Q:=fun q=>∃ cur i,q=(.exit 0,⟨[(0,.own true k ks.length),(5,.p (.int .i64 (i:Nat)))],[],g.set k (.pcells 2 (cur.map Attr.pv))⟩)∧Going (notN h) ks ks.length i cur) ?_ (i0,j0,ks) ⟨hj0,h0⟩ (by simp only;omega)
  · obtain ⟨q,hq,cur,i,rfl,hg⟩:=key
    exact ⟨cur,i,hq,hg⟩
  rintro ⟨i,j,cur⟩ ⟨h1,h2⟩
  simp only at h1 h2 ⊢
  have hgk:(g.set k (.pcells 2 (cur.map Attr.pv)))[k]? = some (.pcells 2 (cur.map Attr.pv)):=by rw [List.getElem?_set,if_pos rfl,if_pos hk]
  have hgb:(g.set k (.pcells 2 (cur.map Attr.pv)))[kb]? = some (.pcells 1 [[.str h]]):=by rw [List.getElem?_set,if_neg hne];exact hkb
  have hss:∀ o o':AObj,(g.set k o).set k o'=g.set k o':=fun o o'=>by simp
  have il:=attrs_len cur
  rw [h2.len] at il
  have hlt:=h2.lt
  by_cases hj:j<ks.length
  · left
    obtain ⟨x,hx⟩:∃ x,ks[j]? = some x:=⟨_,List.getElem?_eq_getElem hj⟩
    have k1:(j:Int)<(ks.length:Int):=by omega
    have k2:(i:Int)<(ks.length:Int):=by omega
    have hg:=getD_map (f:=Attr.pv) (h2.at.trans hx)
    have hc:=cloA_run (h:=h) x (g.set k (.pcells 2 (cur.map Attr.pv))) hgb n
    simp only [Attr.pv] at hg hc
    cases hp:(x.name==h) with
    | true =>
      rw [hp] at hc
      refine ⟨(i,j+1,cur), ?_,⟨by simp only;omega,h2.skip hx (by simp [notN,hp])⟩,by simp only;omega⟩
      simp -implicitDefEqProofs (disch:=omega) only [Rx,simprocAttr,delLoop2,k1,hg,hgk,hc,il]
    | false =>
      rw [hp] at hc
      have hset:(cur.map Attr.pv).set i [.str x.name,.str x.value]=(cur.set i x).map Attr.pv:=by simp [List.map_set,Attr.pv]
      have hgi:=getD_map (f:=Attr.pv) (List.getElem?_eq_getElem (show i<cur.length by rw [h2.len];omega))
      simp only [Attr.pv] at hgi
      refine ⟨(i+1,j+1,cur.set i x), ?_,⟨by simp only;omega,h2.take hx (by simp [notN,hp])⟩,by simp only;omega⟩
      simp -implicitDefEqProofs (disch:=omega) only [Rx,simprocAttr,delLoop2,k1,k2,hg,hgi,hgk,hc,il,hset,hss]
  · right
    obtain rfl:j=ks.length:=by omega
    have k1:¬ (ks.length:Int)<(ks.length:Int):=by omega
    refine ⟨_, ?_, ?_,cur,i,rfl,h2⟩
    · simp -implicitDefEqProofs (disch:=omega) only [Rx,simprocAttr,delLoop2,k1]
    · simp
theorem delA_run (ks : List Attr) (g : List AObj) (hk : g[k]? = some (.pcells 2 (ks.map Attr.pv))) (hkb : g[kb]? = some (.pcells 1 [[.str h]])) (hne : k ≠ kb) (hl : ks.length ≤ 1048577) {n : Nat} (hn : ks.length + 1 < n) :
    acall T (n+3) 63 [.own true k ks.length,.func 64 [.ptr true kb 1 1 0 0]] g=some (.p (.list ((ks.filter (notN h)).map Attr.pv)),g.set k .dead):=by
  rw [acall_prim T63]
  have hf:=findA_run ks g hk hkb hl hn
  have il:=attrs_len ks
  have hkl:k<g.length:=(List.getElem?_eq_some_iff.1 hk).1
  unfold pDelete
  simp only
  by_cases hc:ks.findIdx (fun a=>a.name==h)<ks.length
  · rw [if_pos hc] at hf
    generalize hi:ks.findIdx (fun a=>a.name==h)=i0 at hc hf
    have hpre:∀ m,m<i0→∀ x,ks[m]? = some x→notN h x=true:=fun m hm x hx=>by
      have hml:m<ks.length:=(List.getElem?_eq_some_iff.1 hx).1
      have:=List.not_of_lt_findIdx (xs:=ks) (p:=(fun a=>a.name==h)) (i:=m) (by omega)
      rw [(List.getElem?_eq_some_iff.1 hx).2] at this
      simpa [notN] using this
    obtain ⟨a,hat,hah⟩:∃ a,ks[i0]? = some a∧(a.name==h)=true:=by
      have h9:=List.findIdx_getElem (xs:=ks) (p:=(fun a=>a.name==h)) (w:=by omega)
      subst hi
      exact ⟨_,List.getElem?_eq_getElem hc,h9⟩
    have hgo:Going (notN h) ks (i0+1) i0 ks:=by
      have h1:Going (notN h) ks i0 i0 ks:=by
        refine ⟨rfl,Nat.le_refl _, ?_,rfl⟩
        rw [filter_none]
        intro x hx
        obtain ⟨m,hm,rfl⟩:=List.getElem_of_mem hx
        rw [List.length_take] at hm
        refine hpre m (by omega) _ ?_
        rw [List.getElem_take,List.getElem?_eq_getElem]
      exact h1.skip hat (by simp [notN,hah])
    obtain ⟨cur,i,hloop,hend⟩:=delA_loop (h:=h) (kb:=kb) ks g hkl hkb hne hl (n+1) (ks.length+2) (by omega) (i0+1) i0 hgo (by omega)
    have hself:g.set k (.pcells 2 (ks.map Attr.pv))=g:=by
      apply List.ext_getElem?
      intro m
      rw [List.getElem?_set]
      by_cases e:k=m
      · subst e;rw [if_pos rfl,if_pos hkl,hk]
      · rw [if_neg e]
    rw [hself] at hloop
    have e1:((i0:Int) == -1)=false:=by simp
    have hilt:=hend.il (Nat.le_refl _)
    have hihave:=hend.have'
    rw [List.take_length] at hilt hihave
    have hlt2:i<ks.length:=by
      rw [hilt]
      exact List.length_filter_lt_length_iff_exists.2 ⟨a,List.mem_of_getElem? hat,by simp [notN,hah]⟩
    have hrun:aexec (acall T (n+2)) (ks.length+2) (delHead 83 delLoop2) (enterSt [.own true k ks.length,.func 64 [.ptr true kb 1 1 0 0]] g)=some (.normal,⟨[(0,.own true k ks.length),(5,.p (.int .i64 (i:Nat)))],[],g.set k (.pcells 2 (cur.map Attr.pv))⟩):=by
      simp only [Int.natCast_add,Int.natCast_one] at hloop
      simp -implicitDefEqProofs (disch:=omega) only [Rx,simprocAttr,delHead,hf,hloop,e1]
    rw [hrun]
    have hgk:(g.set k (.pcells 2 (cur.map Attr.pv)))[k]? = some (.pcells 2 (cur.map Attr.pv)):=by rw [List.getElem?_set,if_pos rfl,if_pos hkl]
    have il2:(cur.map Attr.pv).length=ks.length:=by rw [attrs_len,hend.len]
    have hi2:(i:Int)<(ks.length:Int):=by omega
    have ht:(cur.map Attr.pv).take i=(ks.filter (notN h)).map Attr.pv:=by rw [← hihave];simp [List.map_take]
    simp [Option.bind_some,delOut,St.get,lk,orBot,hgk,il2,hi2,ht]
  · rw [if_neg hc] at hf
    have hall:ks.filter (notN h)=ks:=filter_none fun x hx=>by
      have h1:¬ ks.findIdx (fun a=>a.name==h)<ks.length:=hc
      rw [List.findIdx_lt_length] at h1
      cases hq:(x.name==h) with
      | false=>simp [notN,hq]
      | true=>exact absurd ⟨x,hx,hq⟩ h1
    have hrun:aexec (acall T (n+2)) (ks.length+2) (delHead 83 delLoop2) (enterSt [.own true k ks.length,.func 64 [.ptr true kb 1 1 0 0]] g)=some (.ret,⟨[(4,.own true k ks.length)],[],g⟩):=by
      simp -implicitDefEqProofs (disch:=omega) only [Rx,simprocAttr,delHead,hf]
    rw [hrun,hall]
    simp [delOut,St.get,lk,orBot,hk,il]
end
theorem without_run (l:List Attr) (name:Bs) (hl:l.length≤1048577) (g:List AObj) {n:Nat} (hn:l.length+1<n) :
  acall T (n+4) 47 [.p (.list (l.map Attr.pv)),.p (.str name)] g=some (.tuple [.p (.list ((withoutA l name).map Attr.pv)),.p (.bool (decide ((withoutA l name).length<l.length)))],g):=by
 have hcl:=cloneA_run l hl [.pcells 1 [[.str name]]] (n+2)
 have hd:=delA_run (h:=name) (kb:=0) (k:=1) l [.pcells 1 [[.str name]],.pcells 2 (l.map Attr.pv)] rfl rfl (by omega) hl hn
 rw [acall_code T47,run_pure rfl rfl rfl]
 have wl:((withoutA l name).map Attr.pv).length=(withoutA l name).length:=by simp
 have ml:(l.map Attr.pv).length=l.length:=by simp
 unfold withoutA at wl ⊢
 generalize l.filter (notN name)=l' at hd wl ⊢
 simp only [List.length_singleton,List.cons_append,List.nil_append] at hcl
 by_cases hlt:l'.length<l.length
 ·have hlt':(l'.length:Int)<(l.length:Int):=by omega
  have ed:decide (l'.length<l.length)=true:=by simpa using hlt
  rw [ed]
  simp -implicitDefEqProofs (disch:=omega) only [Rx,simprocAttr,F47,hcl,hd,wl,ml,hlt']
 ·have hlt':¬ (l'.length:Int)<(l.length:Int):=by omega
  have ed:decide (l'.length<l.length)=false:=by simpa using hlt
  rw [ed]
  simp -implicitDefEqProofs (disch:=omega) only [Rx,simprocAttr,F47,hcl,hd,wl,ml,hlt']
end Go.TA.Try


end
section
/- A document's nodes are found; its attributes and texts turn; it tells what comes next. -/
namespace Go.TA
structure DocM (R:Nat) (S:MS) (it nd:Nat→Nat) (I:Nat→LK) (pd pm:Nat) (g:List AObj):Prop where
 ok:S.Ok R
 link:LinkOk S I
 at':DocAt (liveL S) S.st S.N it nd I pd pm g
def liveR (S:MS) (nd:Nat→Nat) (id:Int):AV:=.tuple [if fitE S id=0 then NP nd id.toNat else .p .nilp,.p (.int .i64 (fitE S id))]
theorem fitE_zero {S:MS} {id:Int} (h:fitE S id=0):∃ c:Nat,id=(c:Int)∧c ∈ liveL S∧0<c:=fit_live (by simp [h])
theorem look_live {S:MS} {nd:Nat→Nat} (id:Int):mlk 1 (mapD (liveL S) nd) (.int .i64 id)=if liveB S id=true then some (NP nd id.toNat) else none:=by
 rw [mlk_mapD]
 by_cases h:liveB S id=true
 ·obtain ⟨c,rfl,hc⟩:=live_liveL h
  rw [if_pos h,if_pos ⟨by simpa using hc,by omega⟩]
 ·rw [if_neg h,if_neg]
  rintro ⟨h1,h2⟩
  apply h
  have:((id.toNat:Nat):Int)=id:=by omega
  rw [← this]
  exact liveB_iff.2 h1
namespace Try
section
variable {R:Nat} {S:MS} {nx:Int} {it nd:Nat→Nat} {I:Nat→LK} {pd pm:Nat} {g:List AObj}
theorem live_run (hD:DocAt (liveL S) S.st nx it nd I pd pm g) (id:Int) (n:Nat):acall T (n+1) 36 [DocP pd,.p (.int .i64 id)] g=some (liveR S nd id,g):=by
 have hd:=hD.doc
 have hm:=hD.map
 have hk:=mapD_keys (liveL S) nd id
 have hl:=look_live (S:=S) (nd:=nd) id
 unfold liveR
 rw [acall_code T36,run_code rfl rfl]
 by_cases h0:id=0
 ·have e:(id==0)=true:=by simpa using h0
  have f:fitE S id=14:=by simp [fitE,h0]
  simp -implicitDefEqProofs (disch:=omega) only [Rx,simprocAttr,F36,e,f]
 have e:(id==0)=false:=by simpa using h0
 by_cases hb:liveB S id=true
 ·have f:fitE S id=0:=by simp [fitE,h0,hb]
  rw [if_pos hb] at hl
  obtain ⟨c,rfl,hc⟩:=live_liveL hb
  have hn:=hD.nodes c hc
  simp only [Int.toNat_natCast] at hl
  simp -implicitDefEqProofs (disch:=omega) only [Rx,simprocAttr,F36,e,f,hd,hm,hk,hl,Option.getD_some]
 ·have f:fitE S id=13:=by simp [fitE,h0,hb]
  rw [if_neg hb] at hl
  simp -implicitDefEqProofs (disch:=omega) only [Rx,simprocAttr,F36,e,f,hd,hm,hk,hl,Option.getD_none]
theorem beside_run (hD:DocAt (liveL S) S.st nx it nd I pd pm g) (b:Int) (n:Nat):acall T (n+2) 37 [DocP pd,.p (.int .i64 b)] g=some (.tuple [if b≠0∧fitE S b=0 then IP it b.toNat else .p .nilp,.p (.int .i64 (if b=0 then 0 else fitE S b))],g):=by
 have hl:=live_run hD b n
 unfold liveR at hl
 rw [acall_code T37,run_code rfl rfl]
 by_cases h0:b=0
 ·have e:(b==0)=true:=by simpa using h0
  have f:¬ (b≠0∧fitE S b=0):=fun h=>h.1 h0
  rw [if_neg f,if_pos h0]
  simp -implicitDefEqProofs (disch:=omega) only [Rx,simprocAttr,F37,e]
 have e:(b==0)=false:=by simpa using h0
 rw [if_neg h0]
 by_cases hf:fitE S b=0
 ·rw [if_pos ⟨h0,hf⟩]
  rw [if_pos hf,hf] at hl
  obtain ⟨c,rfl,hc,_⟩:=fitE_zero hf
  have hn:=hD.nodes c hc
  simp only [nodeC] at hn
  simp only [Int.toNat_natCast] at hl
  rw [hf]
  simp -implicitDefEqProofs (disch:=omega) only [Rx,simprocAttr,F37,e,hl,hn]
 ·rw [if_neg (fun h=>hf h.2)]
  rw [if_neg hf] at hl
  have e2:(fitE S b==0)=false:=by simpa using hf
  generalize fitE S b=z at hl e2
  simp -implicitDefEqProofs (disch:=omega) only [Rx,simprocAttr,F37,e,e2,hl]
theorem text_run (hD:DocAt (liveL S) S.st nx it nd I pd pm g) (id:Int) (s:Bs) (n:Nat) :
  ∃ g',acall T (n+3) 23 [DocP pd,.p (.int .i64 id),.p (.str s)] g=some (.p (.int .i64 (textD S id s).1),g')∧DocAt (liveL (textD S id s).2) (textD S id s).2.st nx it nd I pd pm g'∧GFr g (DocOwn (liveL S) it nd pd pm) g' (DocOwn (liveL (textD S id s).2) it nd pd pm):=by
 have hl:=live_run hD id (n+1)
 have hfi:=fits_run s [] (n+1)
 unfold liveR at hl
 unfold textD
 by_cases hf:fitE S id≠0
 ·rw [if_pos hf]
  rw [if_neg hf] at hl
  have e1:(fitE S id==0)=false:=by simpa using hf
  refine ⟨g, ?_,hD,GFr.refl _ _⟩
  rw [acall_code T23,run_code rfl rfl]
  generalize fitE S id=e at hl e1 ⊢
  simp -implicitDefEqProofs (disch:=omega) only [Rx,simprocAttr,F23,hl,e1]
 rw [if_neg hf]
 simp only [ne_eq,Decidable.not_not] at hf
 obtain ⟨c,rfl,hcL,hc0⟩:=fitE_zero hf
 rw [if_pos hf,hf] at hl
 simp only [Int.toNat_natCast] at hl
 by_cases hs:65536<(s.length:Int)
 ·rw [if_pos hs]
  have e2:decide ((s.length:Int)≤65536)=false:=by simp;omega
  rw [e2] at hfi
  refine ⟨g, ?_,hD,GFr.refl _ _⟩
  rw [acall_code T23,run_code rfl rfl]
  simp -implicitDefEqProofs (disch:=omega) only [Rx,simprocAttr,F23,hl,hfi]
 rw [if_neg hs]
 have e2:decide ((s.length:Int)≤65536)=true:=by simp;omega
 rw [e2] at hfi
 have hn:=hD.nodes c hcL
 have hlv:liveL (textM S c s)=liveL S:=liveL_node (S:=S) (h:=c) (s:={ S.st c with text:=s }) rfl
 have hD':=hD.node hcL { S.st c with text:=s }
 simp only [Int.toNat_natCast]
 refine ⟨_, ?_,by rw [hlv];exact hD', ?_⟩
 ·rw [acall_code T23,run_code rfl rfl]
  simp only [nodeC] at hn ⊢
  simp -implicitDefEqProofs (disch:=omega) only [Rx,simprocAttr,F23,hl,hfi,hn]
 ·rw [hlv]
  exact ⟨by simp,fun j hj hO=>by rw [List.getElem?_set,if_neg (fun e=>hO (.inr (.inr ⟨c,hcL,.inr e.symm⟩)))],fun j hj _=>hj⟩
theorem next_doc (hD:DocAt (liveL S) S.st nx it nd I pd pm g) (n:Nat):acall T (n+1) 10 [DocP pd] g=some (.p (.int .i64 nx),g):=by
 have hd:=hD.doc
 rw [acall_code T10,run_code rfl rfl]
 simp -implicitDefEqProofs (disch:=omega) only [Rx,simprocAttr,F10,hd]
theorem set_run (hS:S.Ok R) (hD:DocAt (liveL S) S.st nx it nd I pd pm g) (id:Int) (name v:Bs) {n:Nat} (hn:1048577<n) :
    ∃ g',acall T (n+37) 21 [DocP pd,.p (.int .i64 id),.p (.str name),.p (.str v)] g=some (.p (.int .i64 (setD S id name v).1),g')∧DocAt (liveL (setD S id name v).2) (setD S id name v).2.st nx it nd I pd pm g'∧GFr g (DocOwn (liveL S) it nd pd pm) g' (DocOwn (liveL (setD S id name v).2) it nd pd pm):=by
  have hl:=live_run hD id (n+35)
  have hfi:=fits_run v [] (n+35)
  have hna:=name_run name [] n
  unfold liveR at hl
  unfold setD
  by_cases hf:fitE S id≠0
  · rw [if_pos hf]
    rw [if_neg hf] at hl
    have e1:(fitE S id==0)=false:=by simpa using hf
    refine ⟨g, ?_,hD,GFr.refl _ _⟩
    rw [acall_code T21,run_code rfl rfl]
    generalize fitE S id=e at hl e1 ⊢
    simp -implicitDefEqProofs (disch:=omega) only [Rx,simprocAttr,F21,hl,e1]
  rw [if_neg hf]
  simp only [ne_eq,Decidable.not_not] at hf
  obtain ⟨c,rfl,hcL,hc0⟩:=fitE_zero hf
  rw [if_pos hf,hf] at hl
  simp only [Int.toNat_natCast] at hl ⊢
  cases hb:namedB true name with
  | false =>
    rw [hb] at hna
    rw [if_pos rfl]
    refine ⟨g, ?_,hD,GFr.refl _ _⟩
    rw [acall_code T21,run_code rfl rfl]
    simp -implicitDefEqProofs (disch:=omega) only [Rx,simprocAttr,F21,hl,hna]
  | true=>
  rw [hb] at hna
  rw [if_neg (by decide)]
  by_cases hs:65536<(v.length:Int)
  · rw [if_pos hs]
    have e2:decide ((v.length:Int)≤65536)=false:=by simp;omega
    rw [e2] at hfi
    refine ⟨g, ?_,hD,GFr.refl _ _⟩
    rw [acall_code T21,run_code rfl rfl]
    simp -implicitDefEqProofs (disch:=omega) only [Rx,simprocAttr,F21,hl,hna,hfi]
  rw [if_neg hs]
  have e2:decide ((v.length:Int)≤65536)=true:=by simp;omega
  rw [e2] at hfi
  have hnd:=hD.nodes c hcL
  have hw:=with_run (S.st c).attrs name v (hS.attrs c (mem_liveL.1 hcL).1) [] (n:=n+34) (by have:=hS.attrs c (mem_liveL.1 hcL).1;omega)
  by_cases h64:64<((withA (S.st c).attrs name v).length:Int)
  · rw [if_pos h64]
    have k64:((withA (S.st c).attrs name v).length:Int) > 64:=h64
    refine ⟨g, ?_,hD,GFr.refl _ _⟩
    rw [acall_code T21,run_code rfl rfl]
    have wl:((withA (S.st c).attrs name v).map Attr.pv).length=(withA (S.st c).attrs name v).length:=by simp
    generalize withA (S.st c).attrs name v=l' at hw wl k64
    simp only [nodeC] at hnd
    simp -implicitDefEqProofs (disch:=omega) only [Rx,simprocAttr,F21,hl,hna,hfi,hnd,hw,wl,k64]
  rw [if_neg h64]
  have k64:¬ ((withA (S.st c).attrs name v).length:Int) > 64:=h64
  have hlv:liveL (setM S c (withA (S.st c).attrs name v))=liveL S:=liveL_node (S:=S) (h:=c) (s:={ S.st c with attrs:=withA (S.st c).attrs name v }) rfl
  have hD':=hD.node hcL { S.st c with attrs:=withA (S.st c).attrs name v }
  refine ⟨_, ?_,by rw [hlv];exact hD', ?_⟩
  · rw [acall_code T21,run_code rfl rfl]
    have wl:((withA (S.st c).attrs name v).map Attr.pv).length=(withA (S.st c).attrs name v).length:=by simp
    simp only [nodeC] at hnd ⊢
    generalize withA (S.st c).attrs name v=l' at hw wl k64
    simp -implicitDefEqProofs (disch:=omega) only [Rx,simprocAttr,F21,hl,hna,hfi,hnd,hw,wl,k64]
  · rw [hlv]
    exact ⟨by simp,fun j hj hO=>by rw [List.getElem?_set,if_neg (fun e=>hO (.inr (.inr ⟨c,hcL,.inr e.symm⟩)))],fun j hj _=>hj⟩
theorem del_run (hS:S.Ok R) (hD:DocAt (liveL S) S.st nx it nd I pd pm g) (id:Int) (name:Bs) {n:Nat} (hn:1048578<n) :
  ∃ g',acall T (n+5) 22 [DocP pd,.p (.int .i64 id),.p (.str name)] g=some (.p (.int .i64 (delD S id name).1),g')∧DocAt (liveL (delD S id name).2) (delD S id name).2.st nx it nd I pd pm g'∧GFr g (DocOwn (liveL S) it nd pd pm) g' (DocOwn (liveL (delD S id name).2) it nd pd pm):=by
 have hl:=live_run hD id (n+3)
 unfold liveR at hl
 unfold delD
 by_cases hf:fitE S id≠0
 ·rw [if_pos hf]
  rw [if_neg hf] at hl
  have e1:(fitE S id==0)=false:=by simpa using hf
  refine ⟨g, ?_,hD,GFr.refl _ _⟩
  rw [acall_code T22,run_code rfl rfl]
  generalize fitE S id=e at hl e1 ⊢
  simp -implicitDefEqProofs (disch:=omega) only [Rx,simprocAttr,F22,hl,e1]
 rw [if_neg hf]
 simp only [ne_eq,Decidable.not_not] at hf
 obtain ⟨c,rfl,hcL,hc0⟩:=fitE_zero hf
 rw [if_pos hf,hf] at hl
 simp only [Int.toNat_natCast] at hl ⊢
 have hnd:=hD.nodes c hcL
 have hw:=without_run (S.st c).attrs name (hS.attrs c (mem_liveL.1 hcL).1) [] (n:=n) (by have:=hS.attrs c (mem_liveL.1 hcL).1;omega)
 by_cases hlt:(withoutA (S.st c).attrs name).length<(S.st c).attrs.length
 ·rw [if_pos hlt]
  have ed:decide ((withoutA (S.st c).attrs name).length<(S.st c).attrs.length)=true:=by simpa using hlt
  rw [ed] at hw
  have hlv:liveL (setM S c (withoutA (S.st c).attrs name))=liveL S:=liveL_node (S:=S) (h:=c) (s:={ S.st c with attrs:=withoutA (S.st c).attrs name }) rfl
  have hD':=hD.node hcL { S.st c with attrs:=withoutA (S.st c).attrs name }
  refine ⟨_, ?_,by rw [hlv];exact hD', ?_⟩
  ·rw [acall_code T22,run_code rfl rfl]
   simp only [nodeC] at hnd ⊢
   generalize withoutA (S.st c).attrs name=l' at hw
   simp -implicitDefEqProofs (disch:=omega) only [Rx,simprocAttr,F22,hl,hnd,hw]
  ·rw [hlv]
   exact ⟨by simp,fun j hj hO=>by rw [List.getElem?_set,if_neg (fun e=>hO (.inr (.inr ⟨c,hcL,.inr e.symm⟩)))],fun j hj _=>hj⟩
 ·rw [if_neg hlt]
  have ed:decide ((withoutA (S.st c).attrs name).length<(S.st c).attrs.length)=false:=by simpa using hlt
  rw [ed] at hw
  refine ⟨g, ?_,hD,GFr.refl _ _⟩
  rw [acall_code T22,run_code rfl rfl]
  simp only [nodeC] at hnd
  generalize withoutA (S.st c).attrs name=l' at hw
  simp -implicitDefEqProofs (disch:=omega) only [Rx,simprocAttr,F22,hl,hnd,hw]
end
end Try
end Go.TA


end
section
/- What a document's links are behind a step. Plain. -/
namespace Go.TA
def befO (b:Int):Option Nat:=if b=0 then none else some b.toNat
section
variable {R:Nat} {S:MS} {I:Nat→LK}
theorem placed (hS : S.Ok R) (hI : LinkOk S I) {u h : Nat} {b : Int} (hu : u ∈ liveL S) (hh : h ∈ liveL S) (huh : u ≠ h) (hup : (S.st h).up < 0) (hb : b = 0 ∨ ∃ c : Nat, b = (c : Int) ∧ c ∈ liveL S ∧ c ≠ 0 ∧ (S.st c).up = (u : Int)) :
    (∀ k,befO b=some k→k ∈ liveL S∧(S.st k).up=(u:Int))∧(∀ k,aheadI I u (befO b)=some k→k ∈ liveL S∧k≠h)∧LinkOk (placeM S h u b) (placeI I u h (befO b)):=by
  have huN:=(mem_liveL.1 hu).1
  have hz:=zero_kid hS huN
  obtain ⟨c,hc,hcb⟩:∃ c:Nat,b=(c:Int)∧(c=0∨(c:Int) ∈ S.kd u):=by
    rcases hb with rfl | ⟨c,rfl,hc,_,hcu⟩
    · exact ⟨0,rfl,.inl rfl⟩
    · exact ⟨c,rfl,.inr (hS.up_lt (mem_liveL.1 hc).1 hcu).2.2⟩
  subst hc
  have hpa:=place_at hS huN hcb hz
  have hbo:befO (c:Int)=if c=0 then none else some c:=by
    unfold befO
    by_cases e:c=0
    · subst e;rfl
    · rw [if_neg (by omega),if_neg e];simp
  rw [← hbo] at hpa
  have hpl:(if (c:Int)=0 then (S.kd u).length else (S.kd u).idxOf (c:Int))≤(kidsN S u).length:=by
    have e:(kidsN S u).length=(S.kd u).length:=by simp [kidsN]
    rw [e]
    split
    · exact Nat.le_refl _
    · exact List.idxOf_le_length
  obtain ⟨p,hP⟩:∃ p,p=(if (c:Int)=0 then (S.kd u).length else (S.kd u).idxOf (c:Int)):=⟨_,rfl⟩
  rw [← hP] at hpa hpl
  have hah:=ahead_at hS hI hu hpl
  rw [hpa] at hah
  refine ⟨fun k hk => ?_,fun k hk => ?_, ?_⟩
  · rw [← hpa] at hk
    exact kidsN_up hS huN (List.mem_of_getElem? hk)
  · rw [hah] at hk
    split at hk
    · cases hk
    · obtain ⟨h1,h2⟩:=kidsN_up hS huN (List.mem_of_getElem? hk)
      refine ⟨h1,fun e => ?_⟩
      subst e;omega
  · have key:=LinkOk.place hS hI hu hh huh hup hpl (S':=placeM S h u (c:Int)) rfl (liveL_place S h u _) (fun k=>by
      simp only [placeM,upd]
      split
      · rename_i e;subst e;rfl
      · rfl) (fun k hk=>by
      by_cases e:k=u
      · subst e
        rw [if_pos rfl]
        unfold kidsN
        simp only [placeM,upd_at]
        rw [hP]
        exact insI_insAt (kidsN_kd hS huN) h _
      · rw [if_neg e]
        simp only [kidsN,placeM]
        rw [upd_ne e])
    rw [hpa] at key
    exact key
theorem dropped (hS : S.Ok R) (hI : LinkOk S I) {c u : Nat} (hc : c ∈ liveL S) (hcu : (S.st c).up = (u : Int)) :
    (I c).u=some u∧u ∈ liveL S∧u≠c∧(∀ k,(I c).p=some k→k ∈ liveL S∧k≠c)∧(∀ k,(I c).n=some k→k ∈ liveL S∧k≠c)∧LinkOk (takeM S c) (dropI I c):=by
  have hcN:=(mem_liveL.1 hc).1
  obtain ⟨huN,hul,hk⟩:=hS.up_lt hcN hcu
  have hu:u ∈ liveL S:=mem_liveL.2 ⟨huN,hul⟩
  have hn:=kidsN_nodup hS huN
  have hkn:c ∈ kidsN S u:=(mem_kidsN hS huN).2 hk
  obtain ⟨p,hp⟩:=List.getElem?_of_mem hkn
  have hl:=hI.kids u hu
  have hpv:=hl.prev p c hp
  have hnx:=hl.next p c hp
  have huc:u≠c:=fun e=>by
    obtain ⟨r,_,hr⟩:=hS.rank
    have:=hr c u hcN hcu
    subst e;omega
  refine ⟨by rw [hI.up c hc,upN_some hS hcN hcu],hu,huc,fun k hk => ?_,fun k hk => ?_, ?_⟩
  · have e:(if p=0 then none else (kidsN S u)[p - 1]?)=some k:=hpv.symm.trans hk
    split at e
    · cases e
    · obtain ⟨h1,h2⟩:=kidsN_up hS huN (List.mem_of_getElem? e)
      refine ⟨h1,fun e2 => ?_⟩
      subst e2
      have:=get_inj_of hn e hp
      omega
  · have e:(kidsN S u)[p+1]? = some k:=hnx.symm.trans hk
    obtain ⟨h1,h2⟩:=kidsN_up hS huN (List.mem_of_getElem? e)
    refine ⟨h1,fun e2 => ?_⟩
    subst e2
    have:=get_inj_of hn e hp
    omega
  · refine LinkOk.take hS hI hc hcu hp (liveL_take S c) (fun k => ?_) (fun k hk => ?_)
    · unfold takeM
      rw [if_neg (by omega)]
      simp only [upd]
      split
      · rename_i e;subst e;rfl
      · rfl
    · unfold takeM
      rw [if_neg (by omega)]
      simp only [kidsN,hcu,Int.toNat_natCast]
      by_cases e:k=u
      · subst e
        rw [if_pos rfl,upd_at]
        have hkd:=kidsN_kd hS huN
        have e1:((S.kd k).filter fun y => !(y==(c:Int))).map Int.toNat=(kidsN S k).filter fun y => !(y==c):=by
          rw [hkd,List.filter_map,List.map_map]
          have:(Int.toNat ∘ fun k:Nat=>(k:Int))=id:=by funext k;simp
          rw [this,List.map_id]
          refine List.filter_congr fun y _ => ?_
          simp only [Function.comp]
          by_cases e:y=c
          · subst e;simp
          · have:((y:Int)==(c:Int))=false:=by simp;omega
            rw [this]
            simp [e]
        rw [e1]
        show (kidsN S k).filter (fun y => !(y==c))=remAt (kidsN S k) p
        obtain ⟨hp1,hp2⟩:=List.getElem?_eq_some_iff.1 hp
        have hsp:kidsN S k=(kidsN S k).take p++c::(kidsN S k).drop (p+1):=by
          conv=>lhs;rw [← List.take_append_drop p (kidsN S k),List.drop_eq_getElem_cons hp1,hp2]
        have hn':=hn
        rw [hsp,List.nodup_append,List.nodup_cons] at hn'
        unfold remAt
        conv=>lhs;rw [hsp]
        rw [List.filter_append,List.filter_cons,if_neg (by simp),List.filter_eq_self.2,List.filter_eq_self.2]
        · intro y hy
          have:y≠c:=fun e=>hn'.2.1.1 (e ▸ hy)
          simpa using this
        · intro y hy
          have:y≠c:=fun e=>hn'.2.2 y hy c (by simp) e
          simpa using this
      · rw [if_neg e,upd_ne e]
end
section
variable {R:Nat} {S:MS} {nx:Int} {it nd:Nat→Nat} {I:Nat→LK} {pd pm:Nat} {g:List AObj}
theorem DocAt.placed (h:DocAt (liveL S) S.st nx it nd I pd pm g) (c u:Nat) (b:Int):DocAt (liveL (placeM S c u b)) (placeM S c u b).st nx it nd I pd pm g:=by
 rw [liveL_place]
 refine h.st_congr (fun k _ => ?_) (fun _ _=>rfl)
 simp only [placeM,upd]
 split
 ·rename_i e;subst e;rfl
 ·rfl
theorem DocAt.taken (h:DocAt (liveL S) S.st nx it nd I pd pm g) (c:Nat):DocAt (liveL (takeM S c)) (takeM S c).st nx it nd I pd pm g:=by
 rw [liveL_take]
 refine h.st_congr (fun k _ => ?_) (fun _ _=>rfl)
 unfold takeM
 split
 ·rfl
 ·simp only [upd]
  split
  ·rename_i e;subst e;rfl
  ·rfl
end
end Go.TA
namespace Go.TA
section
variable {L:List Nat} {st:Nat→MNode} {nx:Int} {it nd:Nat→Nat} {I:Nat→LK} {pd pm:Nat} {g:List AObj}
def Tar (L:List Nat) (x:LK):Prop:=∀ k,x.u=some k∨x.f=some k∨x.l=some k∨x.p=some k∨x.n=some k→k ∈ L
theorem LinkOk.tar {R : Nat} {S : MS} (hS : S.Ok R) (hI : LinkOk S I) {c : Nat} (hc : c ∈ liveL S) : Tar (liveL S) (I c) := by
  have hcN:=(mem_liveL.1 hc).1
  have hk:=hI.kids c hc
  have kl:∀ k,k ∈ kidsN S c→k ∈ liveL S:=fun k h=>(kidsN_up hS hcN h).1
  have sib:∀ k,(I c).p=some k∨(I c).n=some k→k ∈ liveL S:=fun k h=>by
    rcases hS.up c hcN with h1 | ⟨p,hp,h2,h3,h4⟩
    · obtain ⟨e1,e2⟩:=hI.loose c hc (by omega)
      rw [e1,e2] at h
      rcases h with h | h <;> cases h
    · have hpL:p ∈ liveL S:=mem_liveL.2 ⟨hp,h3⟩
      obtain ⟨j,hj⟩:=List.getElem?_of_mem ((mem_kidsN hS hp).2 h4)
      have hl:=hI.kids p hpL
      have e1:(I c).p=if j=0 then none else (kidsN S p)[j - 1]? := hl.prev j c hj
      have e2:(I c).n=(kidsN S p)[j+1]? := hl.next j c hj
      rcases h with h | h
      · rw [e1] at h
        split at h
        · cases h
        · exact (kidsN_up hS hp (List.mem_of_getElem? h)).1
      · rw [e2] at h
        exact (kidsN_up hS hp (List.mem_of_getElem? h)).1
  intro k h
  rcases h with h | h | h | h | h
  · rw [hI.up c hc] at h
    rcases hS.up c hcN with h1 | ⟨p,hp,h2,h3,h4⟩
    · rw [upN_none hS hcN (by omega)] at h;cases h
    · rw [upN_some hS hcN h2] at h
      cases h
      exact mem_liveL.2 ⟨hp,h3⟩
  · rw [hk.first] at h
    exact kl k (List.mem_of_getElem? h)
  · rw [hk.last] at h
    split at h
    · cases h
    · exact kl k (List.mem_of_getElem? h)
  · exact sib k (.inl h)
  · exact sib k (.inr h)
theorem iAV_congr {it it':Nat→Nat} {x:Option Nat} (h:∀ k,x=some k→it' k=it k):iAV it' x=iAV it x:=by
 cases x with
 | none=>rfl
 | some k=>simp only [iAV,h k rfl]
theorem itemC_congr {it it':Nat→Nat} {c:Nat} {x:LK} (hx:Tar L x) (h:∀ k ∈ L,it' k=it k):itemC it' c x=itemC it c x:=by
 unfold itemC
 rw [iAV_congr fun k e=>h k (hx k (.inl e)),iAV_congr fun k e=>h k (hx k (.inr (.inl e))),iAV_congr fun k e=>h k (hx k (.inr (.inr (.inl e)))),iAV_congr fun k e=>h k (hx k (.inr (.inr (.inr (.inl e))))),iAV_congr fun k e=>h k (hx k (.inr (.inr (.inr (.inr e)))))]
def pushG (L:List Nat) (nd:Nat→Nat) (pd pm:Nat) (N:Nat) (s:MNode) (nx':Int) (g:List AObj):List AObj :=
 ((g.set pd (.cells 2 [[.map true pm,.p (.int .i64 nx')]])++[AObj.pcells 6 [[.int .i64 N,.nilp,.nilp,.nilp,.nilp,.nilp]]])++[AObj.cells 5 [[.ptr true g.length 6 1 0 0,.p (.str s.tag),.p (.str s.key),.p (.str s.text),.p (.list (s.attrs.map Attr.pv))]]]).set pm (.map (mapD (L++[N]) (upd nd N (g.length+1))))
theorem DocAt.push (h : DocAt L st nx it nd I pd pm g) {N : Nat} (hN : N ∉ L) (htar : ∀ c ∈ L, Tar L (I c)) (s : MNode) (nx' : Int) :
    DocAt (L++[N]) (upd st N s) nx' (upd it N g.length) (upd nd N (g.length+1)) (upd I N ⟨none,none,none,none,none⟩) pd pm (pushG L nd pd pm N s nx' g) ∧
      GFr g (DocOwn L it nd pd pm) (pushG L nd pd pm N s nx' g) (DocOwn (L++[N]) (upd it N g.length) (upd nd N (g.length+1)) pd pm):=by
  have hpd:=(List.getElem?_eq_some_iff.1 h.doc).1
  have hpm:=(List.getElem?_eq_some_iff.1 h.map).1
  have hmem:∀ k,k ∈ L++[N]→k=N∨(k ∈ L∧k≠N):=fun k hk=>by
    rcases List.mem_append.1 hk with h1 | h1
    · exact .inr ⟨h1,fun e=>hN (e ▸ h1)⟩
    · simp at h1;exact .inl h1
  have hil:∀ c ∈ L,it c<g.length:=fun c hc=>h.own_lt (.inr (.inr ⟨c,hc,.inl rfl⟩))
  have hnl:∀ c ∈ L,nd c<g.length:=fun c hc=>h.own_lt (.inr (.inr ⟨c,hc,.inr rfl⟩))
  have old:∀ j,j<g.length→j≠pd→j≠pm→(pushG L nd pd pm N s nx' g)[j]? = g[j]? := fun j hj h1 h2=>by
    unfold pushG
    rw [List.getElem?_set,if_neg (fun e=>h2 e.symm),List.getElem?_append_left (by simp;omega),List.getElem?_append_left (by simpa using hj),List.getElem?_set,if_neg (fun e=>h1 e.symm)]
  have e1:(pushG L nd pd pm N s nx' g)[g.length]? = some (AObj.pcells 6 [[.int .i64 N,.nilp,.nilp,.nilp,.nilp,.nilp]]):=by
    unfold pushG
    rw [List.getElem?_set,if_neg (by omega),List.getElem?_append_left (by simp),List.getElem?_append_right (by simp)]
    simp
  have e2:(pushG L nd pd pm N s nx' g)[g.length+1]? = some (AObj.cells 5 [[.ptr true g.length 6 1 0 0,.p (.str s.tag),.p (.str s.key),.p (.str s.text),.p (.list (s.attrs.map Attr.pv))]]):=by
    unfold pushG
    rw [List.getElem?_set,if_neg (by omega),List.getElem?_append_right (by simp)]
    simp
  refine ⟨⟨?_, ?_,fun c hc => ?_,fun c hc => ?_,fun c hc d hd e => ?_,fun c hc d hd e => ?_,fun c hc d hd => ?_,fun c hc => ?_,fun c hc => ?_,h.pp⟩,⟨by simp [pushG],fun j hj hO => ?_,fun j hO hj => ?_⟩⟩
  · unfold pushG
    rw [List.getElem?_set,if_neg (fun e=>h.pp e.symm),List.getElem?_append_left (by simp;omega),List.getElem?_append_left (by simpa using hpd),List.getElem?_set,if_pos rfl,if_pos hpd]
  · unfold pushG
    rw [List.getElem?_set,if_pos rfl,if_pos (by simp;omega)]
  · rcases hmem c hc with rfl | ⟨h1,h2⟩
    · rw [upd_at,upd_at,e2];simp [nodeC,upd_at]
    · rw [upd_ne h2,upd_ne h2,old _ (hnl c h1) (h.ndP c h1).1 (h.ndP c h1).2,h.nodes c h1]
      simp [nodeC,upd_ne h2]
  · rcases hmem c hc with rfl | ⟨h1,h2⟩
    · rw [upd_at,upd_at]
      exact ⟨_,e1,.inr ⟨_,rfl,by simp [itemC,iAV]⟩⟩
    · rw [upd_ne h2,upd_ne h2,old _ (hil c h1) (h.itP c h1).1 (h.itP c h1).2]
      obtain ⟨o,ho,hr⟩:=h.items c h1
      refine ⟨o,ho, ?_⟩
      rw [itemC_congr (htar c h1) (fun k hk=>by
        have hne:k≠N:=fun e=>by subst e;exact hN hk
        exact upd_ne hne)]
      exact hr
  · rcases hmem c hc with rfl | ⟨h1,h2⟩
    · rcases hmem d hd with rfl | ⟨h3,h4⟩
      · rfl
      · rw [upd_at,upd_ne h4] at e
        have:=hil d h3;omega
    · rcases hmem d hd with rfl | ⟨h3,h4⟩
      · rw [upd_at,upd_ne h2] at e
        have:=hil c h1;omega
      · rw [upd_ne h2,upd_ne h4] at e
        exact h.itInj c h1 d h3 e
  · rcases hmem c hc with rfl | ⟨h1,h2⟩
    · rcases hmem d hd with rfl | ⟨h3,h4⟩
      · rfl
      · rw [upd_at,upd_ne h4] at e
        have:=hnl d h3;omega
    · rcases hmem d hd with rfl | ⟨h3,h4⟩
      · rw [upd_at,upd_ne h2] at e
        have:=hnl c h1;omega
      · rw [upd_ne h2,upd_ne h4] at e
        exact h.ndInj c h1 d h3 e
  · rcases hmem c hc with rfl | ⟨h1,h2⟩
    · rcases hmem d hd with rfl | ⟨h3,h4⟩
      · rw [upd_at,upd_at];omega
      · rw [upd_at,upd_ne h4]
        have:=hnl d h3;omega
    · rcases hmem d hd with rfl | ⟨h3,h4⟩
      · rw [upd_at,upd_ne h2]
        have:=hil c h1;omega
      · rw [upd_ne h2,upd_ne h4]
        exact h.itNd c h1 d h3
  · rcases hmem c hc with rfl | ⟨h1,h2⟩
    · rw [upd_at];omega
    · rw [upd_ne h2];exact h.itP c h1
  · rcases hmem c hc with rfl | ⟨h1,h2⟩
    · rw [upd_at];omega
    · rw [upd_ne h2];exact h.ndP c h1
  · exact old j hj (fun e=>hO (.inl e)) (fun e=>hO (.inr (.inl e)))
  · rcases hO with rfl | rfl | ⟨c,hc,e⟩
    · exact .inl rfl
    · exact .inr (.inl rfl)
    · rcases hmem c hc with rfl | ⟨h1,h2⟩
      · rw [upd_at,upd_at] at e;omega
      · rw [upd_ne h2,upd_ne h2] at e
        exact .inr (.inr ⟨c,h1,e⟩)
end
end Go.TA


end
section
/- A document: a node is put below another one, or elsewhere. -/
namespace Go.TA
theorem insertD_N' (S:MS) (id up b:Int):(insertD S id up b).2.N=S.N:=by
 unfold insertD;repeat' split
 all_goals rfl
theorem moveD_N' (S:MS) (id b:Int):(moveD S id b).2.N=S.N:=by
 unfold moveD;repeat' split
 all_goals first | rfl | simp [placeM,takeM_N]
theorem fitE_live {S:MS} {c:Nat} (hc:c ∈ liveL S) (h0:0<c):fitE S (c:Int)=0:=by
 unfold fitE
 rw [if_neg (by omega),if_pos (liveB_iff.2 hc)]
theorem fitE_dead {S:MS} {b:Int} (hb:liveB S b=false) (h0:b≠0):fitE S b=13:=by
 unfold fitE
 rw [if_neg h0,hb];simp
namespace Try
section
variable {R:Nat} {S:MS} {nx:Int} {it nd:Nat→Nat} {I:Nat→LK} {pd pm:Nat} {g:List AObj}
theorem zero_live (hS:S.Ok R):liveB S 0=true:=(liveB_iff (c:=0)).2 (mem_liveL.2 ⟨hS.pos,hS.top.1⟩)
theorem beside_ok (hS:S.Ok R) (hD:DocAt (liveL S) S.st nx it nd I pd pm g) {b:Int} (hb:liveB S b=true) (n:Nat):acall T (n+2) 37 [DocP pd,.p (.int .i64 b)] g=some (.tuple [iAV it (befO b),.p (.int .i64 0)],g):=by
 have h:=beside_run hD b n
 unfold befO
 by_cases h0:b=0
 ·rw [if_neg (fun h=>h.1 h0),if_pos h0] at h
  rw [if_pos h0];exact h
 ·obtain ⟨c,rfl,hc⟩:=live_liveL hb
  have f:=fitE_live hc (by omega)
  rw [if_pos ⟨h0,f⟩,if_neg h0,f] at h
  rw [if_neg h0];exact h
theorem beside_bad (hS:S.Ok R) (hD:DocAt (liveL S) S.st nx it nd I pd pm g) {b:Int} (hb:liveB S b=false) (n:Nat):acall T (n+2) 37 [DocP pd,.p (.int .i64 b)] g=some (.tuple [.p .nilp,.p (.int .i64 13)],g):=by
 have h0:b≠0:=fun e=>by rw [e,zero_live hS] at hb;cases hb
 have h:=beside_run hD b n
 rw [fitE_dead hb h0,if_neg (fun h=>by have:=h.2;omega),if_neg h0] at h
 exact h
theorem ins_run (hS:S.Ok R) (hI:LinkOk S I) (hD:DocAt (liveL S) S.st nx it nd I pd pm g) (id up b:Int) {n:Nat} (hn:R+3<n) :
    ∃ I' g',acall T (n+3) 13 [DocP pd,.p (.int .i64 id),.p (.int .i64 up),.p (.int .i64 b)] g=some (.p (.int .i64 (insertD S id up b).1),g')∧DocAt (liveL (insertD S id up b).2) (insertD S id up b).2.st nx it nd I' pd pm g'∧LinkOk (insertD S id up b).2 I'∧GFr g (DocOwn (liveL S) it nd pd pm) g' (DocOwn (liveL (insertD S id up b).2) it nd pd pm):=by
  have hl:=live_run hD id (n+1)
  have hd:=hD.doc
  have hm:=hD.map
  have hk:=mapD_keys (liveL S) nd up
  have hlu:=look_live (S:=S) (nd:=nd) up
  unfold liveR at hl
  unfold insertD
  by_cases hf:fitE S id≠0
  · rw [if_pos hf]
    rw [if_neg hf] at hl
    have e1:(fitE S id==0)=false:=by simpa using hf
    refine ⟨I,g, ?_,hD,hI,GFr.refl _ _⟩
    rw [acall_code T13,run_code rfl rfl]
    generalize fitE S id=e at hl e1 ⊢
    simp -implicitDefEqProofs (disch:=omega) only [Rx,simprocAttr,F13,hl,e1]
  rw [if_neg hf]
  simp only [ne_eq,Decidable.not_not] at hf
  obtain ⟨c,rfl,hcL,hc0⟩:=fitE_zero hf
  rw [if_pos hf,hf] at hl
  have hcN:=(mem_liveL.1 hcL).1
  have hnd:=hD.nodes c hcL
  simp only [nodeC] at hnd
  simp only [Int.toNat_natCast] at hl ⊢
  cases hb:liveB S b with
  | false =>
    have hbs:=beside_bad hS hD hb (n:=n)
    rw [if_pos (by simp)]
    refine ⟨I,g, ?_,hD,hI,GFr.refl _ _⟩
    rw [acall_code T13,run_code rfl rfl]
    cases hu:liveB S up with
    | false =>
      rw [if_neg (by rw [hu];decide)] at hlu
      simp -implicitDefEqProofs (disch:=omega) only [Rx,simprocAttr,F13,hl,hbs,hd,hm,hk,hlu,Option.getD_none]
    | true =>
      rw [if_pos hu] at hlu
      simp -implicitDefEqProofs (disch:=omega) only [Rx,simprocAttr,F13,hl,hbs,hd,hm,hk,hlu,Option.getD_some]
  | true=>
  have hbs:=beside_ok hS hD hb (n:=n)
  cases hu:liveB S up with
  | false =>
    rw [if_pos (by simp)]
    rw [if_neg (by rw [hu];decide)] at hlu
    refine ⟨I,g, ?_,hD,hI,GFr.refl _ _⟩
    rw [acall_code T13,run_code rfl rfl]
    simp -implicitDefEqProofs (disch:=omega) only [Rx,simprocAttr,F13,hl,hbs,hd,hm,hk,hlu,iAVe,Option.getD_none]
  | true=>
  rw [if_neg (by simp)]
  rw [if_pos hu] at hlu
  obtain ⟨u,rfl,huL⟩:=live_liveL hu
  have hud:=hD.nodes u huL
  simp only [nodeC] at hud
  simp only [Int.toNat_natCast] at hlu ⊢
  have run:∀ (e:Int) (g':List AObj),acall T (n+2) 38 [IP it u,IP it c,iAV it (befO b)] g=some (.p (.int .i64 e),g')→acall T (n+3) 13 [DocP pd,.p (.int .i64 c),.p (.int .i64 u),.p (.int .i64 b)] g=some (.p (.int .i64 e),g'):=fun e g' hp=>by
    rw [acall_code T13,run_code rfl rfl]
    simp -implicitDefEqProofs (disch:=omega) only [Rx,simprocAttr,F13,hl,hbs,hd,hm,hk,hlu,hnd,hud,hp,iAVe,Option.getD_some]
  by_cases h15:0≤upOf S (c:Int)
  · rw [if_pos h15]
    exact ⟨I,g,run 15 g (place_held hD hI hS huL hcL h15 _ n),hD,hI,GFr.refl _ _⟩
  rw [if_neg h15]
  have h15':(S.st c).up<0:=by
    have:upOf S (c:Int)=(S.st c).up:=rfl
    omega
  cases h17:underB S (u:Int) (c:Int) with
  | true =>
    rw [if_pos rfl]
    exact ⟨I,g,run 17 g (place_cycle hS hD hI huL hcL h15' h17 _ hn),hD,hI,GFr.refl _ _⟩
  | false=>
  rw [if_neg (by decide)]
  have huc:u≠c:=fun e=>by
    subst e
    rw [underB_iff.2 .here] at h17;cases h17
  by_cases h18:b≠0∧upOf S b≠(u:Int)
  · rw [if_pos h18]
    obtain ⟨d,rfl,hdL⟩:=live_liveL hb
    have e:befO (d:Int)=some d:=by unfold befO;rw [if_neg h18.1];simp
    rw [e] at run
    exact ⟨I,g,run 18 g (place_bad hS hD hI huL hcL h15' h17 hdL h18.2 hn),hD,hI,GFr.refl _ _⟩
  rw [if_neg h18]
  have hbb:b=0∨∃ d:Nat,b=(d:Int)∧d ∈ liveL S∧d≠0∧(S.st d).up=(u:Int):=by
    by_cases e:b=0
    · exact .inl e
    · obtain ⟨d,rfl,hdL⟩:=live_liveL hb
      refine .inr ⟨d,rfl,hdL,by omega, ?_⟩
      have:¬ upOf S (d:Int)≠(u:Int):=fun h=>h18 ⟨e,h⟩
      simpa [upOf] using this
  obtain ⟨p1,p2,p3⟩:=placed hS hI huL hcL huc h15' hbb
  obtain ⟨g',hp,hD',hF⟩:=place_done hS hD hI huL hcL h15' h17 (befO b) p1 p2 hn
  refine ⟨_,g',run 0 g' hp, ?_,p3, ?_⟩
  · have:=hD'.placed c u b
    exact this
  · rw [liveL_place];exact hF
theorem mov_run (hS : S.Ok R) (hI : LinkOk S I) (hD : DocAt (liveL S) S.st nx it nd I pd pm g) (id b : Int) {n : Nat} (hn : R + 3 < n) :
    ∃ I' g',acall T (n+3) 14 [DocP pd,.p (.int .i64 id),.p (.int .i64 b)] g=some (.p (.int .i64 (moveD S id b).1),g')∧DocAt (liveL (moveD S id b).2) (moveD S id b).2.st nx it nd I' pd pm g'∧LinkOk (moveD S id b).2 I'∧GFr g (DocOwn (liveL S) it nd pd pm) g' (DocOwn (liveL (moveD S id b).2) it nd pd pm):=by
  have hl:=live_run hD id (n+1)
  unfold liveR at hl
  unfold moveD
  by_cases hf:fitE S id≠0
  · rw [if_pos hf]
    rw [if_neg hf] at hl
    have e1:(fitE S id==0)=false:=by simpa using hf
    refine ⟨I,g, ?_,hD,hI,GFr.refl _ _⟩
    rw [acall_code T14,run_code rfl rfl]
    generalize fitE S id=e at hl e1 ⊢
    simp -implicitDefEqProofs (disch:=omega) only [Rx,simprocAttr,F14,hl,e1]
  rw [if_neg hf]
  simp only [ne_eq,Decidable.not_not] at hf
  obtain ⟨c,rfl,hcL,hc0⟩:=fitE_zero hf
  rw [if_pos hf,hf] at hl
  have hcN:=(mem_liveL.1 hcL).1
  have hnd:=hD.nodes c hcL
  simp only [nodeC] at hnd
  have hup:=up_run hD hcL (n+1)
  simp only [Int.toNat_natCast] at hl ⊢
  cases hb:liveB S b with
  | false =>
    have hbs:=beside_bad hS hD hb (n:=n)
    rw [if_pos rfl]
    refine ⟨I,g, ?_,hD,hI,GFr.refl _ _⟩
    rw [acall_code T14,run_code rfl rfl]
    simp -implicitDefEqProofs (disch:=omega) only [Rx,simprocAttr,F14,hl,hbs,hnd,hup,iAVe]
  | true=>
  have hbs:=beside_ok hS hD hb (n:=n)
  rw [if_neg (by decide)]
  by_cases h16:upOf S (c:Int)<0
  · rw [if_pos h16]
    have hn0:(I c).u=none:=by rw [hI.up c hcL];exact upN_none hS hcN h16
    rw [hn0] at hup
    refine ⟨I,g, ?_,hD,hI,GFr.refl _ _⟩
    rw [acall_code T14,run_code rfl rfl]
    simp -implicitDefEqProofs (disch:=omega) only [Rx,simprocAttr,F14,hl,hbs,hnd,hup,iAVs,iAVe]
  rw [if_neg h16]
  obtain ⟨u, hcu, huN, hul, hcu'⟩ := hS.up_nat hcN (show 0 ≤ (S.st c).up by have : upOf S (c : Int) = (S.st c).up := rfl
                                                                            omega)
  have huL:u ∈ liveL S:=mem_liveL.2 ⟨huN,hul⟩
  obtain ⟨q1,q2,q3,q4,q5,q6⟩:=dropped hS hI hcL hcu
  have hou:upOf S (c:Int)=(u:Int):=hcu
  rw [hou]
  rw [q1] at hup
  have ou:=hD.one huL [] []
  have oc:=hD.one hcL [] []
  simp only [St.one,St.obj,if_true] at ou oc
  by_cases h18:b=(c:Int)∨(b≠0∧upOf S b≠(u:Int))
  · rw [if_pos h18]
    have hb0:b≠0:=by rcases h18 with h | h <;> omega
    obtain ⟨d,rfl,hdL⟩:=live_liveL hb
    have e:befO (d:Int)=some d:=by unfold befO;rw [if_neg hb0];simp
    rw [e] at hbs
    have od:=hD.one hdL [] []
    simp only [St.one,St.obj,if_true] at od
    refine ⟨I,g, ?_,hD,hI,GFr.refl _ _⟩
    rw [acall_code T14,run_code rfl rfl]
    by_cases hdc:d=c
    · subst hdc
      simp -implicitDefEqProofs (disch:=omega) only [Rx,simprocAttr,F14,hl,hbs,hnd,hup,oc,iAVs]
    · have hne:(it d==it c)=false:=by
        simp only [beq_eq_false_iff_ne,ne_eq]
        exact fun e2=>hdc (hD.itInj d hdL c hcL e2)
      have hdu:=up_run hD hdL (n+1)
      have hdu2:(S.st d).up≠(u:Int):=by
        rcases h18 with h | h
        · omega
        · exact h.2
      have hdN:=(mem_liveL.1 hdL).1
      rw [hI.up d hdL] at hdu
      rcases hS.up d hdN with h1 | ⟨p,h1,h2,h3,_⟩
      · rw [upN_none hS hdN (by omega)] at hdu
        simp -implicitDefEqProofs (disch:=omega) only [Rx,simprocAttr,F14,hl,hbs,hnd,hup,oc,od,hne,hdu,iAVs]
      · rw [upN_some hS hdN h2] at hdu
        have hpL:p ∈ liveL S:=mem_liveL.2 ⟨h1,h3⟩
        have op:=hD.one hpL [] []
        simp only [St.one,St.obj,if_true] at op
        have hne2:(it p==it u)=false:=by
          simp only [beq_eq_false_iff_ne,ne_eq]
          intro e2
          have:=hD.itInj p hpL u huL e2
          subst this
          exact hdu2 h2
        simp -implicitDefEqProofs (disch:=omega) only [Rx,simprocAttr,F14,hl,hbs,hnd,hup,ou,oc,od,op,hne,hne2,hdu,iAVs]
  rw [if_neg h18]
  obtain ⟨g1,hdr,hD1,hF1⟩:=drop_done hD hcL q1 q2 q3 q4 q5 (n+1)
  obtain ⟨hT,hTu⟩:=hS.take hcN (mem_liveL.1 hcL).2
  have hD1':=hD1.taken c
  have hLT:=liveL_take S c
  have huT:u ∈ liveL (takeM S c):=by rw [hLT];exact huL
  have hcT:c ∈ liveL (takeM S c):=by rw [hLT];exact hcL
  have hst:∀ k,k≠c→((takeM S c).st k).up=(S.st k).up:=fun k hk=>by
    unfold takeM
    split
    · rfl
    · simp only;rw [upd_ne hk]
  have h17:underB (takeM S c) (u:Int) (c:Int)=false:=by
    cases hun:underB (takeM S c) (u:Int) (c:Int) with
    | false=>rfl
    | true =>
      exfalso
      obtain ⟨r,_,hr⟩:=hS.rank
      have hr':∀ k p:Nat,k<(takeM S c).N→((takeM S c).st k).up=(p:Int)→r p<r k:=fun k p hk hkp=>by
        by_cases e:k=c
        · subst e;omega
        · rw [hst k e] at hkp
          exact hr k p (by rw [takeM_N] at hk;exact hk) hkp
      have h1:=below_rank hT hr' (underB_iff.1 hun) u rfl (by rw [takeM_N];exact huN)
      have h2:=hr c u hcN hcu
      omega
  have hbb:b=0∨∃ d:Nat,b=(d:Int)∧d ∈ liveL (takeM S c)∧d≠0∧((takeM S c).st d).up=(u:Int):=by
    by_cases e:b=0
    · exact .inl e
    · obtain ⟨d,rfl,hdL⟩:=live_liveL hb
      have hdc:d≠c:=fun e2=>h18 (.inl (by rw [e2]))
      refine .inr ⟨d,rfl,by rw [hLT];exact hdL,by omega, ?_⟩
      rw [hst d hdc]
      have:¬ upOf S (d:Int)≠(u:Int):=fun h=>h18 (.inr ⟨e,h⟩)
      simpa [upOf] using this
  obtain ⟨p1,p2,p3⟩:=placed hT q6 huT hcT q3 (by rw [hTu];omega) hbb
  obtain ⟨g2,hp,hD2,hF2⟩:=place_done hT hD1' q6 huT hcT (by rw [hTu];omega) h17 (befO b) p1 p2 hn
  have hnd1:=hD1.nodes c hcL
  simp only [nodeC] at hnd1
  simp only [Int.toNat_natCast]
  refine ⟨_,g2, ?_,hD2.placed c u b,p3, ?_⟩
  · rw [acall_code T14,run_code rfl rfl]
    by_cases e:b=0
    · have e2:befO b=none:=by unfold befO;rw [if_pos e]
      rw [e2] at hbs hp
      simp only [iAV] at hbs hp
      simp -implicitDefEqProofs (disch:=omega) only [Rx,simprocAttr,F14,hl,hbs,hnd,hnd1,hup,hdr,hp,iAVs]
    · obtain ⟨d,rfl,hdL⟩:=live_liveL hb
      have e2:befO (d:Int)=some d:=by unfold befO;rw [if_neg e];simp
      rw [e2] at hbs hp
      simp only [iAV] at hbs hp
      have od:=hD.one hdL [] []
      simp only [St.one,St.obj,if_true] at od
      have hdc:d≠c:=fun e2=>h18 (.inl (by rw [e2]))
      have hne:(it d==it c)=false:=by
        simp only [beq_eq_false_iff_ne,ne_eq]
        exact fun e2=>hdc (hD.itInj d hdL c hcL e2)
      have hdu:=up_run hD hdL (n+1)
      have hdu2:(S.st d).up=(u:Int):=by
        have:¬ upOf S (d:Int)≠(u:Int):=fun h=>h18 (.inr ⟨e,h⟩)
        simpa [upOf] using this
      rw [hI.up d hdL,upN_some hS (mem_liveL.1 hdL).1 hdu2] at hdu
      simp -implicitDefEqProofs (disch:=omega) only [Rx,simprocAttr,F14,hl,hbs,hnd,hnd1,hup,hdr,hp,ou,oc,od,hne,hdu,iAVs]
  · rw [liveL_place,hLT]
    rw [hLT] at hF2
    exact hF1.trans hF2
end
end Try
end Go.TA


end
section
/- A document is made, and a node of it; the links of a node. -/
namespace Go.TA
def numI:Option Nat→Int
 | none => -1
 | some k=>k
def fiveP (x:LK):List PV:=[.int .i64 (numI x.u),.int .i64 (numI x.f),.int .i64 (numI x.l),.int .i64 (numI x.p),.int .i64 (numI x.n)]
def five0:List PV:=[.int .i64 0,.int .i64 0,.int .i64 0,.int .i64 0,.int .i64 0]
namespace Try
section
variable {R:Nat} {S:MS} {nx:Int} {it nd:Nat→Nat} {I:Nat→LK} {pd pm:Nat} {g:List AObj}
theorem number_run (hD:DocAt (liveL S) S.st nx it nd I pd pm g) (x:Option Nat) (hx:∀ k,x=some k→k ∈ liveL S) (n:Nat):acall T (n+2) 24 [iAV it x] g=some (.p (.int .i64 (numI x)),g):=by
  rw [acall_code T24,run_code rfl rfl]
  cases x with
  | none=>simp -implicitDefEqProofs (disch:=omega) only [Rx,simprocAttr,F24,iAVs,numI]
  | some k =>
    have hm:=mark_run hD (hx k rfl) n
    simp -implicitDefEqProofs (disch:=omega) only [Rx,simprocAttr,F24,iAVs,numI,hm]
theorem links_dead (hD:DocAt (liveL S) S.st nx it nd I pd pm g) {id:Int} (hb:liveB S id=false) (n:Nat):acall T (n+1) 9 [DocP pd,.p (.int .i64 id)] g=some (.tuple [.p (.agg five0),.p (.bool false)],g):=by
 have hd:=hD.doc
 have hm:=hD.map
 have hk:=mapD_keys (liveL S) nd id
 have hl:=look_live (S:=S) (nd:=nd) id
 rw [if_neg (by rw [hb];decide)] at hl
 unfold five0
 rw [acall_code T9,run_code rfl rfl]
 simp -implicitDefEqProofs (disch:=omega) only [Rx,simprocAttr,F9,hd,hm,hk,hl,Option.getD_none]
theorem links_run (hS:S.Ok R) (hI:LinkOk S I) (hD:DocAt (liveL S) S.st nx it nd I pd pm g) {c:Nat} (hc:c ∈ liveL S) (n:Nat):acall T (n+4) 9 [DocP pd,.p (.int .i64 c)] g=some (.tuple [.p (.agg (fiveP (I c))),.p (.bool true)],g):=by
 have hd:=hD.doc
 have hm:=hD.map
 have hk:=mapD_keys (liveL S) nd (c:Int)
 have hl:=look_live (S:=S) (nd:=nd) (c:Int)
 rw [if_pos (liveB_iff.2 hc)] at hl
 simp only [Int.toNat_natCast] at hl
 have hnd:=hD.nodes c hc
 simp only [nodeC] at hnd
 have tar:=hI.tar hS hc
 have c1:=up_run hD hc (n+2)
 have c2:=first_run hD hc (n+2)
 have c3:=last_run hD hc (n+2)
 have c4:=prev_run hD hc (n+2)
 have c5:=next_run hD hc (n+2)
 have n1:=number_run hD (I c).u (fun k e=>tar k (.inl e)) (n+1)
 have n2:=number_run hD (I c).f (fun k e=>tar k (.inr (.inl e))) (n+1)
 have n3:=number_run hD (I c).l (fun k e=>tar k (.inr (.inr (.inl e)))) (n+1)
 have n4:=number_run hD (I c).p (fun k e=>tar k (.inr (.inr (.inr (.inl e))))) (n+1)
 have n5:=number_run hD (I c).n (fun k e=>tar k (.inr (.inr (.inr (.inr e))))) (n+1)
 unfold fiveP
 generalize numI (I c).u=m1 at n1 ⊢
 generalize numI (I c).f=m2 at n2 ⊢
 generalize numI (I c).l=m3 at n3 ⊢
 generalize numI (I c).p=m4 at n4 ⊢
 generalize numI (I c).n=m5 at n5 ⊢
 rw [acall_code T9,run_code rfl rfl]
 simp -implicitDefEqProofs (disch:=omega) only [Rx,simprocAttr,F9,hd,hm,hk,hl,hnd,c1,c2,c3,c4,c5,n1,n2,n3,n4,n5,iAVe,Option.getD_some]
theorem cre_run (hS:S.Ok R) (hI:LinkOk S I) (hD:DocAt (liveL S) S.st S.N it nd I pd pm g) (x:GOp) (hx:x.attrs.length≤1048577) {n:Nat} (hn:x.attrs.length<n) :
    ∃ it' nd' I' g', acall T (n + 39) 12 [DocP pd, .p (.str x.tag), .p (.str x.key), .p (.str x.text), .p (.list (x.attrs.map Attr.pv))] g = some (if createErr S.N x = 0 then .tuple [.p (.int .i64 S.N), .p (.int .i64 0)] else .tuple [.p (.int .i64 0), .p (.int .i64 (createErr S.N x))], g')
      ∧ DocAt (liveL (if createErr S.N x=0 then S.create x else S)) (if createErr S.N x=0 then S.create x else S).st (if createErr S.N x=0 then S.create x else S).N it' nd' I' pd pm g'∧LinkOk (if createErr S.N x=0 then S.create x else S) I'∧GFr g (DocOwn (liveL S) it nd pd pm) g' (DocOwn (liveL (if createErr S.N x=0 then S.create x else S)) it' nd' pd pm):=by
  have htg:=tag_run x.tag [] (n+2)
  have hfk:=fits_run x.key [] (n+37)
  have hft:=fits_run x.text [] (n+37)
  have hat:=ap_run x.attrs [] (n:=n+1) (by omega)
  have bad:∀ e:Int,createErr S.N x=e→e≠0→acall T (n+39) 12 [DocP pd,.p (.str x.tag),.p (.str x.key),.p (.str x.text),.p (.list (x.attrs.map Attr.pv))] g=some (.tuple [.p (.int .i64 0),.p (.int .i64 e)],g) →
      ∃ it' nd' I' g',acall T (n+39) 12 [DocP pd,.p (.str x.tag),.p (.str x.key),.p (.str x.text),.p (.list (x.attrs.map Attr.pv))] g=some (if createErr S.N x=0 then .tuple [.p (.int .i64 S.N),.p (.int .i64 0)] else .tuple [.p (.int .i64 0),.p (.int .i64 (createErr S.N x))],g')
      ∧ DocAt (liveL (if createErr S.N x=0 then S.create x else S)) (if createErr S.N x=0 then S.create x else S).st (if createErr S.N x=0 then S.create x else S).N it' nd' I' pd pm g'∧LinkOk (if createErr S.N x=0 then S.create x else S) I'∧GFr g (DocOwn (liveL S) it nd pd pm) g' (DocOwn (liveL (if createErr S.N x=0 then S.create x else S)) it' nd' pd pm):=fun e he hne hr=>by
    rw [he,if_neg hne,if_neg hne]
    exact ⟨it,nd,I,g,hr,hD,hI,GFr.refl _ _⟩
  by_cases h7:namedB false x.tag=false
  · refine bad 7 (by simp [createErr,h7]) (by decide) ?_
    rw [h7] at htg
    rw [acall_code T12,run_code rfl rfl]
    simp -implicitDefEqProofs (disch:=omega) only [Rx,simprocAttr,F12,htg]
  simp only [Bool.not_eq_false] at h7
  rw [h7] at htg
  by_cases h3:65536<(x.key.length:Int)
  · refine bad 3 (by simp only [createErr,h7,Bool.true_eq_false,if_false,if_pos (Or.inl h3:65536<(x.key.length:Int)∨65536<(x.text.length:Int))]) (by decide) ?_
    have k3:decide ((x.key.length:Int)≤65536)=false:=by simp;omega
    rw [k3] at hfk
    rw [acall_code T12,run_code rfl rfl]
    simp -implicitDefEqProofs (disch:=omega) only [Rx,simprocAttr,F12,htg,hfk]
  have k3:decide ((x.key.length:Int)≤65536)=true:=by simp;omega
  rw [k3] at hfk
  by_cases h4:65536<(x.text.length:Int)
  · refine bad 3 (by simp only [createErr,h7,Bool.true_eq_false,if_false,if_pos (Or.inr h4:65536<(x.key.length:Int)∨65536<(x.text.length:Int))]) (by decide) ?_
    have k4:decide ((x.text.length:Int)≤65536)=false:=by simp;omega
    rw [k4] at hft
    rw [acall_code T12,run_code rfl rfl]
    simp -implicitDefEqProofs (disch:=omega) only [Rx,simprocAttr,F12,htg,hfk,hft]
  have k4:decide ((x.text.length:Int)≤65536)=true:=by simp;omega
  rw [k4] at hft
  have h34:¬ (65536<(x.key.length:Int)∨65536<(x.text.length:Int)):=fun h=>h.elim h3 h4
  by_cases h5:attrsErr x.attrs≠0
  · refine bad (attrsErr x.attrs) (by simp only [createErr,h7,Bool.true_eq_false,if_false,if_neg h34,if_pos h5]) h5 ?_
    have k5:(attrsErr x.attrs==0)=false:=by simpa using h5
    generalize attrsErr x.attrs=e at hat k5 ⊢
    rw [acall_code T12,run_code rfl rfl]
    simp -implicitDefEqProofs (disch:=omega) only [Rx,simprocAttr,F12,htg,hfk,hft,hat,k5]
  simp only [ne_eq,Decidable.not_not] at h5
  rw [h5] at hat
  generalize (attrsChk [] 0 x.attrs).1=ez at hat
  have hd:=hD.doc
  by_cases h6:4294967295<(S.N:Int)
  · refine bad 21 (by simp only [createErr,h7,Bool.true_eq_false,if_false,if_neg h34,h5,ne_eq,not_true_eq_false,if_pos h6]) (by decide) ?_
    have k6:(S.N:Int) > 4294967295:=h6
    rw [acall_code T12,run_code rfl rfl]
    simp -implicitDefEqProofs (disch:=omega) only [Rx,simprocAttr,F12,htg,hfk,hft,hat,hd,k6]
  have k6:¬ (S.N:Int) > 4294967295:=h6
  have hz:createErr S.N x=0:=by simp only [createErr,h7,Bool.true_eq_false,if_false,if_neg h34,h5,ne_eq,not_true_eq_false,if_neg h6]
  rw [hz,if_pos rfl,if_pos rfl]
  have hNL:S.N ∉ liveL S:=fun h=>by have:=(mem_liveL.1 h).1;omega
  obtain ⟨hP,hF⟩:=hD.push hNL (fun c hc=>hI.tar hS hc) ⟨true, -1,x.tag,x.key,x.text,x.attrs⟩ ((S.N:Int)+1)
  refine ⟨_,_,upd I S.N ⟨none,none,none,none,none⟩,pushG (liveL S) nd pd pm S.N ⟨true, -1,x.tag,x.key,x.text,x.attrs⟩ ((S.N:Int)+1) g, ?_,by rw [liveL_create];exact hP,hI.create hS x,by rw [liveL_create];exact hF⟩
  have hcl:=cloneA_run x.attrs hx [] (n+37)
  simp only [List.length_nil,List.nil_append] at hcl
  have hpd:=(List.getElem?_eq_some_iff.1 hD.doc).1
  have hpm:=(List.getElem?_eq_some_iff.1 hD.map).1
  have hm:=hD.map
  have hk:=mapD_keys (liveL S) nd (S.N:Int)
  have hmk:=fun g=>make_run (S.N:Int) g (n+37)
  unfold pushG
  generalize hG:g.set pd (.cells 2 [[.map true pm,.p (.int .i64 ((S.N:Int)+1))]])=G
  have hGl:G.length=g.length:=by rw [← hG];simp
  have d1:G[pd]? = some (.cells 2 [[.map true pm,.p (.int .i64 ((S.N:Int)+1))]]):=by rw [← hG,List.getElem?_set,if_pos rfl,if_pos hpd]
  have d2:∀ X,(G++[X])[pd]? = some (.cells 2 [[.map true pm,.p (.int .i64 ((S.N:Int)+1))]]):=fun X=>by rw [List.getElem?_append_left (by omega)];exact d1
  have d3:∀ X Y,(G++[X]++[Y])[pd]? = some (.cells 2 [[.map true pm,.p (.int .i64 ((S.N:Int)+1))]]):=fun X Y=>by rw [List.getElem?_append_left (by simp;omega)];exact d2 X
  have m3:∀ X Y,(G++[X]++[Y])[pm]? = some (.map (mapD (liveL S) nd)):=fun X Y=>by
    rw [List.getElem?_append_left (by simp;omega),List.getElem?_append_left (by omega), ← hG,List.getElem?_set,if_neg hD.pp];exact hm
  have gl:∀ X,(G++[X]).length=g.length+1:=fun X=>by simp [hGl]
  have hput:=mput_mapD (nd:=nd) hNL (g.length+1)
  rw [acall_code T12,run_code rfl rfl]
  simp -implicitDefEqProofs (disch:=omega) only [Rx,simprocAttr,F12,htg,hfk,hft,hat,hd,k6,hG,hGl,d1,d2,d3,m3,gl,hk,hmk,hcl,hput,Option.isSome_some]
end
end Try
def newS (N:Nat):MS:=⟨N,fun h=>if h=0 then holder else deadN,fun _=>[]⟩
theorem liveL_new (N:Nat):liveL (newS (N+1))=[0]:=by
 unfold liveL
 simp only [newS]
 rw [List.range_succ_eq_map,List.filter_cons,if_pos (by simp [holder]),List.filter_eq_nil_iff.2]
 intro a ha
 obtain ⟨b,_,rfl⟩:=List.mem_map.1 ha
 simp [deadN]
theorem newS_ok (N:Nat):(newS (N+1)).Ok 0 where
 pos:=by simp [newS]
 top:=by simp [newS,holder]
 kids p hp k hk:=by simp [newS] at hk
 up c hc:=by
  left
  simp only [newS]
  split <;> rfl
 dead h hh hl:=by
  simp only [newS] at hl ⊢
  split
  ·rename_i e;rw [if_pos e] at hl;simp [holder] at hl
  ·simp [deadN]
 nodup p hp:=by simp [newS]
 rank:=⟨fun _=>0,by simp,fun c p hc h=>by
  simp only [newS] at h
  split at h
  ·simp only [holder] at h;omega
  ·simp only [deadN] at h;omega⟩
 attrs h hh:=by
  simp only [newS]
  split <;> simp [holder,deadN]
theorem newS_link (N:Nat):LinkOk (newS (N+1)) (fun _=>⟨none,none,none,none,none⟩):=by
 refine ⟨fun c hc => ?_,fun c hc => ?_,fun c hc h=>⟨rfl,rfl⟩⟩
 ·rw [liveL_new] at hc
  simp at hc;subst hc
  simp [upN,newS,holder]
 ·have:kidsN (newS (N+1)) c=[]:=by simp [kidsN,newS]
  rw [this];exact Linked.nil _ _
namespace Try
theorem new_run (N:Nat) (hN:(N:Int)+1≤4294967296) (g:List AObj) (n:Nat) :
  ∃ it nd pd pm g',acall T (n+2) 7 [.p (.int .i64 (((N+1:Nat):Int)))] g=some (DocP pd,g')∧DocAt (liveL (newS (N+1))) (newS (N+1)).st ((N+1:Nat):Int) it nd (fun _=>⟨none,none,none,none,none⟩) pd pm g'∧GFr g (fun _=>False) g' (DocOwn (liveL (newS (N+1))) it nd pd pm):=by
 have h1:¬ ((N+1:Nat):Int)<1:=by omega
 have h2:¬ ((N+1:Nat):Int) > 4294967296:=by omega
 have hmk:=fun g=>make_run 0 g n
 rw [liveL_new]
 refine ⟨fun _=>g.length+1,fun _=>g.length+1+1,g.length+1+1+1,g.length,g++[.map [(.int .i64 0,.ptr true (g.length+1+1) 5 1 0 0)]]++[.pcells 6 [[.int .i64 0,.nilp,.nilp,.nilp,.nilp,.nilp]]]++[.cells 5 [[.ptr true (g.length+1) 6 1 0 0,.p (.str []),.p (.str []),.p (.str []),.p (.list [])]]]++[.cells 2 [[.map true g.length,.p (.int .i64 ((N+1:Nat):Int))]]], ?_,⟨?_, ?_,fun c hc => ?_,fun c hc => ?_,fun c hc d hd e => ?_,fun c hc d hd e => ?_,fun c hc d hd=>by omega,fun c hc=>by omega,fun c hc=>by omega,by omega⟩,⟨by simp,fun j hj _ => ?_,fun j hO hj => ?_⟩⟩
 ·generalize ((N+1:Nat):Int)=next at h1 h2 ⊢
  have e1:∀ X,(g++[X]).length=g.length+1:=fun X=>by simp
  have e2:∀ X Y,(g++[X]++[Y]).length=g.length+1+1:=fun X Y=>by simp
  have e3:∀ X Y Z,(g++[X]++[Y]++[Z]).length=g.length+1+1+1:=fun X Y Z=>by simp
  have e4:∀ X Y Z:AObj,(g++[X]++[Y]++[Z])[g.length]? = some X:=fun X Y Z=>by rw [List.getElem?_append_left (by simp),List.getElem?_append_left (by simp)];simp
  have e5:∀ X X' Y Z:AObj,(g++[X]++[Y]++[Z]).set g.length X'=g++[X']++[Y]++[Z]:=fun X X' Y Z=>by simp [List.set_append]
  have e6:∀ k x,mput 1 [] k x=[(k,x)]:=fun _ _=>rfl
  rw [acall_code T7,run_code rfl rfl]
  simp -implicitDefEqProofs (disch:=omega) only [Rx,simprocAttr,F7,h1,h2,hmk,e1,e2,e3,e4,e5,e6,Option.isSome_some]
 ·rw [List.getElem?_append_right (by simp)];simp
 ·simp [mapD]
 ·simp at hc;subst hc
  rw [List.getElem?_append_left (by simp),List.getElem?_append_right (by simp)]
  simp [nodeC,newS,holder]
 ·simp at hc;subst hc
  exact ⟨.pcells 6 [[.int .i64 0,.nilp,.nilp,.nilp,.nilp,.nilp]],by
   rw [List.getElem?_append_left (by simp),List.getElem?_append_left (by simp),List.getElem?_append_right (by simp)]
   simp,.inr ⟨_,rfl,by simp [itemC,iAV]⟩⟩
 ·simp at hc hd;omega
 ·simp at hc hd;omega
 ·rw [List.getElem?_append_left (by simp;omega),List.getElem?_append_left (by simp;omega),List.getElem?_append_left (by simp;omega),List.getElem?_append_left hj]
 ·rcases hO with rfl | rfl | ⟨c,hc,rfl | rfl⟩ <;> first | omega | (simp only at hj;omega)
end Try
end Go.TA


end
