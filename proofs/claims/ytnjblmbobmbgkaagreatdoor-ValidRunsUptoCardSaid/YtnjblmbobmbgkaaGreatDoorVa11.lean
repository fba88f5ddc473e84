/- Part 11 of 15 of a proof; joined from VrsRIns, VrsRMove, VrsRRem, VrsNames, VrsCmp, VrsRWith, VrsNames02, VrsAttrs09, VrsRSet, VrsRMake, MS0. The machine of rows. Plain. -/
import Derived.Test.YtnjblmbobmbgkaaGreatDoorVa1
import Derived.Test.YtnjblmbobmbgkaaGreatDoorVa10
import Derived.Test.YtnjblmbobmbgkaaGreatDoorVa7
import Derived.Test.YtnjblmbobmbgkaaGreatDoorVa6
set_option linter.unusedSimpArgs false
set_option linter.unusedVariables false
section
/- The document's answer: a node is put below another one, or elsewhere. -/
set_option maxRecDepth 100000
set_option maxHeartbeats 8000000
namespace Go.TA
theorem nodup_sub {α : Type} [BEq α] [LawfulBEq α]:∀ {l m:List α},l.Nodup→(∀ x ∈ l,x ∈ m)→l.length≤m.length
  | [],m,_,_=>by simp
  | a :: l, m, hn, h => by
    rw [List.nodup_cons] at hn
    have:=nodup_sub (l:=l) (m:=m.erase a) hn.2 (fun x hx=>by
      have hne:x≠a:=fun e=>hn.1 (e ▸ hx)
      exact (List.mem_erase_of_ne hne).2 (h x (by simp [hx])))
    rw [List.length_erase_of_mem (h a (by simp))] at this
    have hp:0<m.length:=List.length_pos_of_mem (h a (by simp))
    rw [List.length_cons];omega
section
variable {R:Nat} {S:MS}
theorem kd_len (hS:S.Ok R) {u:Nat} (hu:u<S.N):(S.kd u).length≤(liveL S).length:=by
 have:=nodup_sub (m:=(liveL S).map fun c:Nat=>(c:Int)) (hS.nodup u hu) (fun k hk=>by
  obtain ⟨c,rfl,hc,hl,_⟩:=hS.kids u hu k hk
  exact List.mem_map.2 ⟨c,mem_liveL.2 ⟨hc,hl⟩,rfl⟩)
 rwa [List.length_map] at this
theorem zero_kid (hS:S.Ok R) {u:Nat} (hu:u<S.N):(0:Int) ∉ S.kd u:=fun h=>by
 obtain ⟨c,e,_,_,h2⟩:=hS.kids u hu _ h
 have:c=0:=by omega
 subst this
 have:=hS.top.2
 omega
theorem liveL_congr {S':MS} (hN:S.N=S'.N) (h:∀ k,(S.st k).live=(S'.st k).live):liveL S=liveL S':=by
 unfold liveL
 rw [hN]
 congr 1
 funext k
 exact h k
end
theorem DM.congr {L:List Nat} {st st':Nat→MNode} {kd kd':Nat→List Int} {nx:Int} {av:Nat→AV} {p q:Nat} {g:List AObj} (h:DM L st kd nx av p q g) (hs:∀ k ∈ L,st k=st' k∧kd k=kd' k):DM L st' kd' nx av p q g where
 core:=⟨h.core.obj,by
  obtain ⟨o,h1,h2⟩:=h.core.row
  exact ⟨o,h1,by rwa [rowsD_congr (st':=st') (av':=av) (fun k hk=>⟨(hs k hk).1,rfl⟩)] at h2⟩,h.core.pq,h.core.nodup⟩
 kids k hk:=by rw [← (hs k hk).2];exact h.kids k hk
 away:=h.away
 disj:=h.disj
noncomputable def insertD (S:MS) (id up b:Int):Int × MS :=
 if fitE S id≠0 then (fitE S id,S)
 else if (liveB S up && liveB S b)=false then (13,S)
 else if 0≤upOf S id then (15,S)
 else if underB S up id=true then (17,S)
 else if b≠0∧upOf S b≠up then (18,S)
 else (0,placeM S id.toNat up.toNat b)
def moveD (S:MS) (id b:Int):Int × MS :=
 if fitE S id≠0 then (fitE S id,S)
 else if liveB S b=false then (13,S)
 else if upOf S id<0 then (16,S)
 else if b=id∨(b≠0∧upOf S b≠upOf S id) then (18,S)
 else (0,placeM (takeM S id.toNat) id.toNat (upOf S id).toNat b)
theorem fit_live {S:MS} {id:Int} (h:¬ fitE S id≠0):∃ c:Nat,id=(c:Int)∧c ∈ liveL S∧0<c:=by
 unfold fitE at h
 split at h
 ·omega
 ·split at h
  ·rename_i h0 hl
   obtain ⟨c,rfl,hc⟩:=live_liveL hl
   exact ⟨c,rfl,hc,by omega⟩
  ·omega
namespace Tryz
section
variable {R:Nat} {S:MS} {nx:Int} {av:Nat→AV} {p q:Nat} {g:List AObj}
theorem insertD_run (hS:S.Ok R) (hD:DM (liveL S) S.st S.kd nx av p q g) (hL:(liveL S).length≤4194304) (id up b:Int) {n:Nat} (hn:(liveL S).length<n) (hR:R+3<n) :
    ∃ av' g',acall T (n+4) 84 [DP p,.p (.int .i64 id),.p (.int .i64 up),.p (.int .i64 b)] g=some (.p (.int .i64 (insertD S id up b).1),g')∧DM (liveL (insertD S id up b).2) (insertD S id up b).2.st (insertD S id up b).2.kd nx av' p q g'∧DFr (liveL S) av p q g (liveL (insertD S id up b).2) av' q g':=by
  obtain ⟨o,ho,hrep⟩:=hD.core.row
  have hob:=hD.core.obj
  have hix:=fun s i=>hrep.idx rowsD_len s true q i
  have hno:=noneD_run hD.core hL id (n:=n+1) (by omega)
  have hat:=fun id=>at_run hD.core hL id (n:=n+2) (by omega)
  unfold insertD
  by_cases hf:fitE S id≠0
  · rw [if_pos hf]
    have e1:(fitE S id==0)=false:=by simpa using hf
    refine ⟨av,g, ?_,hD,DFr.refl _ _ _ _ _⟩
    rw [acall_code T84,run_code rfl rfl]
    generalize fitE S id=e at hno e1 ⊢
    simp -implicitDefEqProofs (disch:=omega) only [Rx,simprocAttr,F84,hno,e1]
  rw [if_neg hf]
  obtain ⟨c,rfl,hcL,hc0⟩:=fit_live hf
  simp only [ne_eq,Decidable.not_not] at hf
  rw [hf] at hno
  by_cases hl:(liveB S up && liveB S b)=false
  · rw [if_pos hl]
    refine ⟨av,g, ?_,hD,DFr.refl _ _ _ _ _⟩
    have hat1:=hat up
    have hat2:=hat b
    rw [acall_code T84,run_code rfl rfl]
    cases a1:liveB S up with
    | false =>
      rw [posL_dead a1] at hat1
      simp -implicitDefEqProofs (disch:=omega) only [Rx,simprocAttr,F84,hno,hat1]
    | true =>
      obtain ⟨u,hu,huL⟩:=live_liveL a1
      obtain ⟨i,hi,_⟩:=posL_in huL
      have a2:liveB S b=false:=by rw [a1] at hl;simpa using hl
      rw [posL_dead a2] at hat2
      rw [hu,hi] at hat1
      have k1:¬ (i:Int)<0:=by omega
      rw [hu]
      simp -implicitDefEqProofs (disch:=omega) only [Rx,simprocAttr,F84,hno,hat1,hat2,k1]
  rw [if_neg hl]
  simp only [Bool.not_eq_false,Bool.and_eq_true] at hl
  obtain ⟨a2,a3⟩:=hl
  obtain ⟨u,rfl,huL⟩:=live_liveL a2
  obtain ⟨w,rfl,hwL⟩:=live_liveL a3
  obtain ⟨ic,hpc,hic⟩:=posL_in hcL
  obtain ⟨iu,hpu,hiu⟩:=posL_in huL
  obtain ⟨iw,hpw,hiw⟩:=posL_in hwL
  have hat1:=hat (c:Int)
  have hat2:=hat (u:Int)
  have hat3:=hat (w:Int)
  rw [hpc] at hat1
  rw [hpu] at hat2
  rw [hpw] at hat3
  have lc:=(List.getElem?_eq_some_iff.1 hic).1
  have lu:=(List.getElem?_eq_some_iff.1 hiu).1
  have lw:=(List.getElem?_eq_some_iff.1 hiw).1
  have kc:(ic:Int)<((liveL S).length:Int):=by omega
  have ku:(iu:Int)<((liveL S).length:Int):=by omega
  have kw:(iw:Int)<((liveL S).length:Int):=by omega
  have ku0:¬ (iu:Int)<0:=by omega
  have kw0:¬ (iw:Int)<0:=by omega
  have rdc:=rd_node hrep hic (j:=1) (by omega)
  have rdw:=rd_node hrep hiw (j:=1) (by omega)
  simp only [nAV] at rdc rdw
  have un:=underD_run hS hD.core hL c u huL (n:=n+1) (by omega) (by omega)
  have uo:upOf S (c:Int)=(S.st c).up:=rfl
  have ub:upOf S (w:Int)=(S.st w).up:=rfl
  rw [uo,ub]
  simp only [Int.toNat_natCast]
  by_cases h15:0≤(S.st c).up
  · rw [if_pos h15]
    refine ⟨av,g, ?_,hD,DFr.refl _ _ _ _ _⟩
    have k15:(S.st c).up ≥ 0:=h15
    rw [acall_code T84,run_code rfl rfl]
    simp -implicitDefEqProofs (disch:=omega) only [Rx,simprocAttr,F84,hno,hat1,hat2,hat3,ku0,kw0,hob,ho,hix,rdc,k15]
  rw [if_neg h15]
  have k15:¬ (S.st c).up ≥ 0:=h15
  by_cases h17:underB S (u:Int) (c:Int)=true
  · rw [if_pos h17]
    rw [h17] at un
    refine ⟨av,g, ?_,hD,DFr.refl _ _ _ _ _⟩
    rw [acall_code T84,run_code rfl rfl]
    simp -implicitDefEqProofs (disch:=omega) only [Rx,simprocAttr,F84,hno,hat1,hat2,hat3,ku0,kw0,hob,ho,hix,rdc,k15,un]
  rw [if_neg h17]
  simp only [Bool.not_eq_true] at h17
  rw [h17] at un
  by_cases h18:(w:Int)≠0∧(S.st w).up≠(u:Int)
  · rw [if_pos h18]
    refine ⟨av,g, ?_,hD,DFr.refl _ _ _ _ _⟩
    have e1:((w:Int)==0)=false:=by simpa using h18.1
    have e2:((S.st w).up==(u:Int))=false:=by simpa using h18.2
    rw [acall_code T84,run_code rfl rfl]
    simp -implicitDefEqProofs (disch:=omega) only [Rx,simprocAttr,F84,hno,hat1,hat2,hat3,ku0,kw0,hob,ho,hix,rdc,rdw,k15,un,e1,e2]
  rw [if_neg h18]
  obtain ⟨hcN,hcl⟩:=mem_liveL.1 hcL
  obtain ⟨huN,hul⟩:=mem_liveL.1 huL
  obtain ⟨hwN,hwl⟩:=mem_liveL.1 hwL
  have hbk:(w:Int)=0∨(w:Int) ∈ S.kd u:=by
    by_cases e:(w:Int)=0
    · exact .inl e
    · right
      by_cases e2:(S.st w).up=(u:Int)
      · exact kid_in hS hwN e2
      · exact absurd ⟨e,e2⟩ h18
  have hkl:=kd_len hS huN
  have hK:=hD.kids u huL
  have hks:=inL_insI (h:=(c:Int)) (hS.nodup u huN) (zero_kid hS huN) hbk
  have hin:=in_run (S.kd u) (c:Int) (w:Int) (by omega) [] (n:=n+2) (by omega)
  rw [hks] at hin
  have hD1:=hD.core.kill (hD.away u huL).1 (hD.away u huL).2
  obtain ⟨o1,hk1,hr1⟩:=kidsF_run hD1 hL huL (intsPV (insI (S.kd u) (c:Int) (w:Int))) (n:=n+1) (by omega)
  have hD2:=hD.fix huL (insI (S.kd u) (c:Int) (w:Int)) hr1
  have hF2:=DFr.fix hD huL (intsPV (insI (S.kd u) (c:Int) (w:Int))) o1
  generalize hg2:(killG g (av u)).set q o1=g2 at hk1 hD2 hF2
  generalize hav2:upd av u (.p (.list (intsPV (insI (S.kd u) (c:Int) (w:Int)))))=av2 at hD2 hF2
  obtain ⟨o2,ho2,hrep2⟩:=hD2.core.row
  have hob2:=hD2.core.obj
  have hix2:=fun s i=>hrep2.idx rowsD_len s true q i
  have hat4:=at_run hD2.core hL (c:Int) (n:=n+2) (by omega)
  rw [hpc] at hat4
  obtain ⟨o3,hw3,hr3⟩:=wr_node hrep2 hic (j:=1) (by omega) (.p (.int .i64 u))
  have e3:(rowsD (liveL S) S.st av2).set ic ((nAV c (S.st c) (av2 c)).set 1 (.p (.int .i64 u)))=rowsD (liveL S) (upd S.st c { S.st c with up:=(u:Int) }) av2:=by
    rw [← rows_node hD.core.nodup hic];rfl
  rw [e3] at hr3
  have hD3:=hD2.node _ hr3
  have hF3:=hF2.trans (DFr.node (L:=liveL S) (av:=av2) (p:=p) (q:=q) (g:=g2) o3)
  have hlive:liveL (placeM S c u (w:Int))=liveL S:=liveL_congr rfl (fun k=>by
    simp only [placeM]
    by_cases e:k=c
    · subst e;rw [upd_at]
    · rw [upd_ne e])
  refine ⟨av2,g2.set q o3, ?_,by rw [hlive];exact hD3,by rw [hlive];exact hF3⟩
  have rdu:=rd_node hrep hiu (j:=2) (by omega)
  simp only [nAV] at rdu
  generalize insI (S.kd u) (c:Int) (w:Int)=ks' at hin hk1
  have kl:=intsPV_len (S.kd u)
  have hfz:=hK.frz
  generalize killG g (av u)=g1 at hk1 hfz
  generalize av u=au at rdu hfz
  rw [acall_code T84,run_code rfl rfl]
  by_cases e:(w:Int)=0
  · have e1:((w:Int)==0)=true:=by simpa using e
    simp -implicitDefEqProofs (disch:=omega) only [Rx,simprocAttr,F84,hno,hat1,hat2,hat3,hat4,ku0,kw0,hob,ho,hix,rdc,rdu,k15,un,e1,hin,hk1,hob2,ho2,hix2,hw3,hfz]
  · have e1:((w:Int)==0)=false:=by simpa using e
    have e2:((S.st w).up==(u:Int))=true:=by
      by_cases e2:(S.st w).up=(u:Int)
      · simpa using e2
      · exact absurd ⟨e,e2⟩ h18
    simp -implicitDefEqProofs (disch:=omega) only [Rx,simprocAttr,F84,hno,hat1,hat2,hat3,hat4,ku0,kw0,hob,ho,hix,rdc,rdw,rdu,k15,un,e1,e2,hin,hk1,hob2,ho2,hix2,hw3,hfz]
end
end Tryz
end Go.TA


end
section
/- The document's answer: a node is put elsewhere below the same one. -/
set_option maxRecDepth 100000
set_option maxHeartbeats 8000000
namespace Go.TA.Tryz
section
variable {R:Nat} {S:MS} {nx:Int} {av:Nat→AV} {p q:Nat} {g:List AObj}
theorem moveD_run (hS : S.Ok R) (hD : DM (liveL S) S.st S.kd nx av p q g) (hL : (liveL S).length ≤ 4194304) (id b : Int) {n : Nat} (hn : (liveL S).length < n) :
    ∃ av' g',acall T (n+4) 85 [DP p,.p (.int .i64 id),.p (.int .i64 b)] g=some (.p (.int .i64 (moveD S id b).1),g')∧DM (liveL (moveD S id b).2) (moveD S id b).2.st (moveD S id b).2.kd nx av' p q g'∧DFr (liveL S) av p q g (liveL (moveD S id b).2) av' q g':=by
  obtain ⟨o,ho,hrep⟩:=hD.core.row
  have hob:=hD.core.obj
  have hix:=fun s i=>hrep.idx rowsD_len s true q i
  have hno:=noneD_run hD.core hL id (n:=n+1) (by omega)
  have hat:=fun id=>at_run hD.core hL id (n:=n+2) (by omega)
  unfold moveD
  by_cases hf:fitE S id≠0
  · rw [if_pos hf]
    have e1:(fitE S id==0)=false:=by simpa using hf
    refine ⟨av,g, ?_,hD,DFr.refl _ _ _ _ _⟩
    rw [acall_code T85,run_code rfl rfl]
    generalize fitE S id=e at hno e1 ⊢
    simp -implicitDefEqProofs (disch:=omega) only [Rx,simprocAttr,F85,hno,e1]
  rw [if_neg hf]
  obtain ⟨c,rfl,hcL,hc0⟩:=fit_live hf
  simp only [ne_eq,Decidable.not_not] at hf
  rw [hf] at hno
  have hat3:=hat b
  by_cases hl:liveB S b=false
  · rw [if_pos hl]
    refine ⟨av,g, ?_,hD,DFr.refl _ _ _ _ _⟩
    rw [posL_dead hl] at hat3
    rw [acall_code T85,run_code rfl rfl]
    simp -implicitDefEqProofs (disch:=omega) only [Rx,simprocAttr,F85,hno,hat3]
  rw [if_neg hl]
  simp only [Bool.not_eq_false] at hl
  obtain ⟨w,rfl,hwL⟩:=live_liveL hl
  obtain ⟨ic,hpc,hic⟩:=posL_in hcL
  obtain ⟨iw,hpw,hiw⟩:=posL_in hwL
  have hat1:=hat (c:Int)
  rw [hpc] at hat1
  rw [hpw] at hat3
  have lc:=(List.getElem?_eq_some_iff.1 hic).1
  have lw:=(List.getElem?_eq_some_iff.1 hiw).1
  have kc:(ic:Int)<((liveL S).length:Int):=by omega
  have kw:(iw:Int)<((liveL S).length:Int):=by omega
  have kw0:¬ (iw:Int)<0:=by omega
  have rdc:=rd_node hrep hic (j:=1) (by omega)
  have rdw:=rd_node hrep hiw (j:=1) (by omega)
  simp only [nAV] at rdc rdw
  have uo:upOf S (c:Int)=(S.st c).up:=rfl
  have ub:upOf S (w:Int)=(S.st w).up:=rfl
  rw [uo,ub]
  simp only [Int.toNat_natCast]
  obtain ⟨hcN,hcl⟩:=mem_liveL.1 hcL
  obtain ⟨hwN,hwl⟩:=mem_liveL.1 hwL
  by_cases h16:(S.st c).up<0
  · rw [if_pos h16]
    refine ⟨av,g, ?_,hD,DFr.refl _ _ _ _ _⟩
    rw [acall_code T85,run_code rfl rfl]
    simp -implicitDefEqProofs (disch:=omega) only [Rx,simprocAttr,F85,hno,hat1,hat3,kw0,hob,ho,hix,rdc,h16]
  rw [if_neg h16]
  obtain ⟨u,hu,huN,hul,hkid⟩:=hS.up_nat hcN (by omega)
  rw [hu] at h16 rdc ⊢
  by_cases e0:(w:Int)=(c:Int)
  · rw [if_pos (.inl e0)]
    have q1:((w:Int)==(c:Int))=true:=by simpa using e0
    refine ⟨av,g, ?_,hD,DFr.refl _ _ _ _ _⟩
    rw [acall_code T85,run_code rfl rfl]
    simp -implicitDefEqProofs (disch:=omega) only [Rx,simprocAttr,F85,hno,hat1,hat3,kw0,hob,ho,hix,rdc,h16,q1]
  have q1:((w:Int)==(c:Int))=false:=by simpa using e0
  by_cases h18:(w:Int)≠0∧(S.st w).up≠(u:Int)
  · rw [if_pos (.inr h18)]
    refine ⟨av,g, ?_,hD,DFr.refl _ _ _ _ _⟩
    have e1:((w:Int)==0)=false:=by simpa using h18.1
    have e2:((S.st w).up==(u:Int))=false:=by simpa using h18.2
    rw [acall_code T85,run_code rfl rfl]
    simp -implicitDefEqProofs (disch:=omega) only [Rx,simprocAttr,F85,hno,hat1,hat3,kw0,hob,ho,hix,rdc,rdw,h16,q1,e1,e2]
  rw [if_neg (fun h=>h.elim e0 h18)]
  simp only [Int.toNat_natCast]
  have huL:u ∈ liveL S:=mem_liveL.2 ⟨huN,hul⟩
  obtain ⟨iu,hpu,hiu⟩:=posL_in huL
  have hat2:=hat (u:Int)
  rw [hpu] at hat2
  have lu:=(List.getElem?_eq_some_iff.1 hiu).1
  have ku:(iu:Int)<((liveL S).length:Int):=by omega
  have hkl:=kd_len hS huN
  have hK:=hD.kids u huL
  generalize hl1:(S.kd u).filter (fun k => !(k==(c:Int)))=l1
  have hl1n:l1.length≤(S.kd u).length:=by rw [← hl1];exact List.length_filter_le _ _
  have hbk:(w:Int)=0∨(w:Int) ∈ l1:=by
    by_cases e:(w:Int)=0
    · exact .inl e
    · right
      by_cases e2:(S.st w).up=(u:Int)
      · rw [← hl1,List.mem_filter]
        exact ⟨kid_in hS hwN e2,by simp;omega⟩
      · exact absurd ⟨e,e2⟩ h18
  have hks:=inL_insI (l:=l1) (h:=(c:Int)) (by rw [← hl1];exact (hS.nodup u huN).filter _) (by rw [← hl1];exact fun h=>zero_kid hS huN (List.mem_filter.1 h).1) hbk
  have hout:=out_run (S.kd u) (c:Int) (by omega) [] (n:=n+2) (by omega)
  rw [hl1] at hout
  have hin:=in_run l1 (c:Int) (w:Int) (by omega) [] (n:=n+2) (by omega)
  rw [hks] at hin
  have hD1:=hD.core.kill (hD.away u huL).1 (hD.away u huL).2
  obtain ⟨o1,hk1,hr1⟩:=kidsF_run hD1 hL huL (intsPV (insI l1 (c:Int) (w:Int))) (n:=n+1) (by omega)
  have hD2:=hD.fix huL (insI l1 (c:Int) (w:Int)) hr1
  have hF2:=DFr.fix hD huL (intsPV (insI l1 (c:Int) (w:Int))) o1
  have htk:takeM S c=⟨S.N,upd S.st c { S.st c with up := -1 },upd S.kd u l1⟩:=by
    unfold takeM
    rw [if_neg (by omega),hu,Int.toNat_natCast,hl1]
  have hlive:liveL (placeM (takeM S c) c u (w:Int))=liveL S:=liveL_congr (by rw [htk];rfl) (fun k=>by
    rw [htk]
    simp only [placeM]
    by_cases e:k=c
    · subst e;rw [upd_at,upd_at]
    · rw [upd_ne e,upd_ne e])
  refine ⟨_,_, ?_,by
    rw [hlive]
    refine hD2.congr fun k hk=>⟨?_, ?_⟩
    · rw [htk]
      simp only [placeM]
      by_cases e:k=c
      · subst e;rw [upd_at,upd_at, ← hu]
      · rw [upd_ne e,upd_ne e]
    · rw [htk]
      simp only [placeM,upd_at]
      by_cases e:k=u
      · subst e;rw [upd_at,upd_at]
      · rw [upd_ne e,upd_ne e,upd_ne e],by rw [hlive];exact hF2⟩
  have rdu:=rd_node hrep hiu (j:=2) (by omega)
  simp only [nAV] at rdu
  generalize insI l1 (c:Int) (w:Int)=ks' at hin hk1
  have hfz:=hK.frz
  generalize killG g (av u)=g1 at hk1 hfz
  generalize av u=au at rdu hfz
  rw [acall_code T85,run_code rfl rfl]
  by_cases e:(w:Int)=0
  · have e1:((w:Int)==0)=true:=by simpa using e
    simp -implicitDefEqProofs (disch:=omega) only [Rx,simprocAttr,F85,hno,hat1,hat2,hat3,kw0,hob,ho,hix,rdc,rdu,h16,q1,e1,hout,hin,hk1,hfz]
  · have e1:((w:Int)==0)=false:=by simpa using e
    have e2:((S.st w).up==(u:Int))=true:=by
      by_cases e2:(S.st w).up=(u:Int)
      · simpa using e2
      · exact absurd ⟨e,e2⟩ h18
    simp -implicitDefEqProofs (disch:=omega) only [Rx,simprocAttr,F85,hno,hat1,hat2,hat3,kw0,hob,ho,hix,rdc,rdw,rdu,h16,q1,e1,e2,hout,hin,hk1,hfz]
end
end Go.TA.Tryz


end
section
/- The document's answer: a node ends, and all below it. -/
set_option maxRecDepth 100000
set_option maxHeartbeats 8000000
namespace Go.TA
noncomputable def removeD (S:MS) (id:Int):Int × MS:=if fitE S id≠0 then (fitE S id,S) else (0,endM (takeM S id.toNat) id)
theorem below_same {S S':MS} {t:Int} (h:∀ y:Int,y≠t→upOf S' y=upOf S y) (y:Int):Below S t y↔Below S' t y:=by
  constructor
  · intro hb
    induction hb with
    | here=>exact .here
    | @up y h1 h2 ih =>
      by_cases e:y=t
      · subst e;exact .here
      · exact .up h1 (by rw [h y e];exact ih)
  · intro hb
    induction hb with
    | here=>exact .here
    | @up y h1 h2 ih =>
      by_cases e:y=t
      · subst e;exact .here
      · exact .up h1 (by rw [← h y e];exact ih)
theorem take_below {S:MS} {c:Nat} (hc:0<c) (y:Int):Below S (c:Int) y↔Below (takeM S c) (c:Int) y:=by
 refine below_same (fun z hz => ?_) y
 unfold takeM
 split
 ·rfl
 ·have:z.toNat≠c:=by omega
  simp only [upOf]
  rw [upd_ne this]
theorem DM.swap {L L':List Nat} {st:Nat→MNode} {kd:Nat→List Int} {nx:Int} {av:Nat→AV} {p q:Nat} {g:List AObj} (h:DM L st kd nx av p q g) (hs:∀ k ∈ L',k ∈ L) (hn:L'.Nodup) {o:AObj} (hr:RowRep 7 (rowsD L' st av) o):DM L' st kd nx av p g.length ((g++[o]).set p (.cells 2 [[.own true g.length L'.length,.p (.int .i64 nx)]])):=by
 have hp:=(List.getElem?_eq_some_iff.1 h.core.obj).1
 refine ⟨⟨?_,⟨o, ?_,hr⟩,by omega,hn⟩,fun k hk => ?_,fun k hk => ?_,fun k k' hk hk' hne=>h.disj k k' (hs k hk) (hs k' hk') hne⟩
 ·rw [List.getElem?_set,if_pos rfl,if_pos (by rw [List.length_append];omega)]
 ·rw [List.getElem?_set,if_neg (by omega)];simp
 ·refine (h.kids k (hs k hk)).keep fun r hr => ?_
  have:=(h.kids k (hs k hk)).ref_lt hr
  rw [List.getElem?_set,if_neg (fun e=>(h.away k (hs k hk)).1 (by rw [e];exact hr)),List.getElem?_append_left this]
 ·refine ⟨(h.away k (hs k hk)).1,fun hr => ?_⟩
  have:=(h.kids k (hs k hk)).ref_lt hr
  omega
theorem DFr.swap {L L':List Nat} {av:Nat→AV} {p q:Nat} {g:List AObj} (hs:∀ k ∈ L',k ∈ L) (o o':AObj):DFr L av p q g L' av g.length ((g++[o]).set p o') where
 len:=by simp
 keep j hj hp hq hn:=by rw [List.getElem?_set,if_neg (fun e=>hp e.symm),List.getElem?_append_left hj]
 row:=.inr (Nat.le_refl _)
 refs k hk j hj _:=⟨k,hs k hk,hj⟩
theorem liveL_end {S:MS} {c:Nat} (hc:0<c):liveL (endM (takeM S c) (c:Int))=(liveL S).filter fun h:Nat => !(underB S (h:Int) (c:Int)):=by
 classical
 unfold liveL
 rw [List.filter_filter,show (endM (takeM S c) (c:Int)).N=S.N from takeM_N S c]
 congr 1
 funext h
 simp only [endM]
 by_cases hb:Below (takeM S c) (c:Int) (h:Int)
 ·rw [if_pos hb,underB_iff.2 ((take_below hc _).2 hb)];rfl
 ·have:underB S (h:Int) (c:Int)=false:=by
   cases e:underB S (h:Int) (c:Int) with
   | false=>rfl
   | true=>exact absurd ((take_below hc _).1 (underB_iff.1 e)) hb
  rw [if_neg hb,takeM_live,this];simp
theorem end_kept {S:MS} {c:Nat} (hc:0<c):∀ k ∈ (liveL S).filter fun h:Nat => !(underB S (h:Int) (c:Int)),S.st k=(endM (takeM S c) (c:Int)).st k∧(takeM S c).kd k=(endM (takeM S c) (c:Int)).kd k:=by
 classical
 intro k hk
 have hu:=(List.mem_filter.1 hk).2
 simp only [Bool.not_eq_true'] at hu
 have hb:¬ Below (takeM S c) (c:Int) (k:Int):=fun h=>by
  rw [underB_iff.2 ((take_below hc _).2 h)] at hu;cases hu
 have hne:k≠c:=fun e=>by subst e;exact hb .here
 simp only [endM,if_neg hb,and_true]
 unfold takeM
 split
 ·rfl
 ·simp only;rw [upd_ne hne]
namespace Tryz
section
variable {R:Nat} {S:MS} {nx:Int} {av:Nat→AV} {p q:Nat} {g:List AObj}
def remS (p:Nat) (c k n i:Nat) (q1:Nat) (G:List AObj):St:=⟨[(0,DP p),(1,.p (.int .i64 c)),(7,.own true q1 k),(46,.p (.int .i64 n)),(47,.p (.int .i64 i))],[],G⟩
theorem rem_loop (hS : S.Ok R) (hD : DC (liveL S) S.st nx av p q g) (hL : (liveL S).length ≤ 4194304) (hno : ∀ h, h ∈ liveL S → noLocal (av h) = true) (c : Nat) {n : Nat} (hn : (liveL S).length < n) (hR : R + 3 < n) (N : Nat) (hN : (liveL S).length < N) :
    ∃ o,aexec (acall T (n+2)) N (.loop B86x0) (remS p c 0 (liveL S).length 0 g.length (g++[.pcells 7 []]))=some (.exit 0,⟨[(0,DP p),(7,.own true g.length ((liveL S).filter fun h:Nat => !(underB S (h:Int) (c:Int))).length)],[],g++[o]⟩)∧RowRep 7 (rowsD ((liveL S).filter fun h:Nat => !(underB S (h:Int) (c:Int))) S.st av) o:=by
  generalize hP:(fun h:Nat => !(underB S (h:Int) (c:Int)))=P
  have key:=loop_inv (C:=acall T (n+2)) (N:=N) (B:=B86x0) (σ := Nat × AObj) (S:=fun s=>remS p c (((liveL S).take s.1).filter P).length (liveL S).length s.1 g.length (g++[s.2]))
    (I:=fun s=>s.1≤(liveL S).length∧RowRep 7 (rowsD (((liveL S).take s.1).filter P) S.st av) s.2) (μ := fun s=>(liveL S).length - s.1) (Q:=fun r=>∃ o,r=(.exit 0,⟨[(0,DP p),(7,.own true g.length ((liveL S).filter P).length)],[],g++[o]⟩)∧RowRep 7 (rowsD ((liveL S).filter P) S.st av) o) ?_ (0,.pcells 7 []) ⟨by simp,RowRep.nil 7⟩ (by simp only;omega)
  · obtain ⟨r,hr,o,rfl,hro⟩:=key
    exact ⟨o,by simpa using hr,hro⟩
  rintro ⟨i,oi⟩ ⟨h1,h2⟩
  simp only at h1 h2 ⊢
  by_cases hi:i<(liveL S).length
  · left
    obtain ⟨h,hh⟩:=get_some hi
    have hhL:=List.mem_of_getElem? hh
    have hDi:=hD.more [oi]
    obtain ⟨o,ho,hrep⟩:=hDi.row
    have hob:=hDi.obj
    have hix:=fun s i=>hrep.idx rowsD_len s true q i
    have rd0:=rd_node hrep hh (j:=0) (by omega)
    have rdA:=hrep.rdA rowsD_len hi (rowsD_get hh) rfl
    have un:=underD_run hS hDi hL c h hhL (n:=n) hn hR
    have k1:(i:Int)<((liveL S).length:Int):=by omega
    have hs:((liveL S).take (i+1)).filter P=((liveL S).take i).filter P++if P h=true then [h] else []:=by
      rw [List.take_add_one,hh,List.filter_append]
      simp [List.filter_cons]
    have hlen:(((liveL S).take i).filter P).length≤4194304:=by
      have h3:=List.length_filter_le P ((liveL S).take i)
      rw [List.length_take] at h3
      omega
    cases hb:underB S (h:Int) (c:Int) with
    | true =>
      have hPh:P h=false:=by rw [← hP];simp [hb]
      rw [hPh] at hs
      simp only [Bool.false_eq_true,if_false,List.append_nil] at hs
      rw [hb] at un
      refine ⟨(i+1,oi), ?_,⟨by simp only;omega,by simp only [hs];exact h2⟩,by simp only;omega⟩
      simp only [hs,remS]
      simp only [nAV] at rd0
      generalize g++[oi]=G at hob ho un
      simp -implicitDefEqProofs (disch:=omega) only [Rx,simprocAttr,B86x0,k1,hob,ho,hix,rd0,un]
    | false =>
      have hPh:P h=true:=by rw [← hP];simp [hb]
      rw [hPh,if_pos rfl] at hs
      rw [hb] at un
      have hnl:noLocals (nAV h (S.st h) (av h))=true:=by simp [nAV,noLocals,noLocal,hno h hhL]
      obtain ⟨o',happ,hro'⟩:=h2.app (bytes:=112) rowsD_len (by omega) (c:=nAV h (S.st h) (av h)) rfl hnl
      have hpush:rowsD (((liveL S).take i).filter P) S.st av++[nAV h (S.st h) (av h)]=rowsD (((liveL S).take (i+1)).filter P) S.st av:=by
        rw [hs];simp [rowsD]
      rw [hpush] at hro'
      refine ⟨(i+1,o'), ?_,⟨by simp only;omega,hro'⟩,by simp only;omega⟩
      have hsl:(((liveL S).take (i+1)).filter P).length=(((liveL S).take i).filter P).length+1:=by rw [hs,List.length_append];rfl
      have hcv:=cells_ofCells (nAV h (S.st h) (av h))
      have hlast:(g++[oi])[g.length]? = some oi:=by simp
      have hset:(g++[oi]).set g.length o'=g++[o']:=by simp [List.set_append]
      simp only [hsl,remS]
      simp only [nAV] at rd0 rdA hcv happ
      generalize ofCells [.p (.int .i64 (h:Int)),.p (.int .i64 (S.st h).up),av h,.p (.str (S.st h).tag),.p (.str (S.st h).key),.p (.str (S.st h).text),.p (.list ((S.st h).attrs.map Attr.pv))]=v at rdA hcv
      generalize g++[o']=G' at hset
      generalize g++[oi]=G at hob ho un hlast hset
      simp -implicitDefEqProofs (disch:=omega) only [Rx,simprocAttr,B86x0,k1,hob,ho,hix,rd0,rdA,un,hcv,happ,hlast,hset]
  · right
    obtain rfl:i=(liveL S).length:=by omega
    have k1:¬ ((liveL S).length:Int)<((liveL S).length:Int):=by omega
    rw [List.take_length] at h2
    refine ⟨_, ?_, ?_,oi,rfl,h2⟩
    · simp only [List.take_length,remS]
      simp -implicitDefEqProofs (disch:=omega) only [Rx,simprocAttr,B86x0,k1]
    · simp
theorem removeD_run (hS:S.Ok R) (hD:DM (liveL S) S.st S.kd nx av p q g) (hL:(liveL S).length≤4194304) (id:Int) {n:Nat} (hn:(liveL S).length<n) (hR:R+3<n) :
  ∃ av' q' g',acall T (n+4) 86 [DP p,.p (.int .i64 id)] g=some (.p (.int .i64 (removeD S id).1),g')∧DM (liveL (removeD S id).2) (removeD S id).2.st (removeD S id).2.kd nx av' p q' g'∧DFr (liveL S) av p q g (liveL (removeD S id).2) av' q' g':=by
 obtain ⟨o,ho,hrep⟩:=hD.core.row
 have hob:=hD.core.obj
 have hix:=fun s i=>hrep.idx rowsD_len s true q i
 have hno:=noneD_run hD.core hL id (n:=n+1) (by omega)
 have hat:=fun id=>at_run hD.core hL id (n:=n+2) (by omega)
 unfold removeD
 by_cases hf:fitE S id≠0
 ·rw [if_pos hf]
  have e1:(fitE S id==0)=false:=by simpa using hf
  refine ⟨av,q,g, ?_,hD,DFr.refl _ _ _ _ _⟩
  rw [acall_code T86,run_code rfl rfl]
  generalize fitE S id=e at hno e1 ⊢
  simp -implicitDefEqProofs (disch:=omega) only [Rx,simprocAttr,F86,hno,e1]
 rw [if_neg hf]
 obtain ⟨c,rfl,hcL,hc0⟩:=fit_live hf
 simp only [ne_eq,Decidable.not_not] at hf
 rw [hf] at hno
 obtain ⟨ic,hpc,hic⟩:=posL_in hcL
 have hat1:=hat (c:Int)
 rw [hpc] at hat1
 have lc:=(List.getElem?_eq_some_iff.1 hic).1
 have kc:(ic:Int)<((liveL S).length:Int):=by omega
 have rdc:=rd_node hrep hic (j:=1) (by omega)
 simp only [nAV] at rdc
 obtain ⟨hcN,hcl⟩:=mem_liveL.1 hcL
 simp only [Int.toNat_natCast]
 have hfil:∀ k ∈ (liveL S).filter fun h:Nat => !(underB S (h:Int) (c:Int)),k ∈ liveL S:=fun k hk=>(List.mem_filter.1 hk).1
 have hfn:((liveL S).filter fun h:Nat => !(underB S (h:Int) (c:Int))).Nodup:=(liveL_nodup S).filter _
 have hle:=liveL_end (S:=S) hc0
 have hke:=end_kept (S:=S) hc0
 by_cases h16:(S.st c).up<0
 ·have htk:takeM S c=S:=by unfold takeM;rw [if_pos h16]
  obtain ⟨oe,hloop,hro⟩:=rem_loop hS hD.core hL (fun h hh=>(hD.kids h hh).noLocal) c (n:=n+1) (by omega) (by omega) (n+3) (by omega)
  have hDs:=hD.swap hfil hfn hro
  have hFs:=DFr.swap (L:=liveL S) (av:=av) (p:=p) (q:=q) (g:=g) hfil oe (.cells 2 [[.own true g.length ((liveL S).filter fun h:Nat => !(underB S (h:Int) (c:Int))).length,.p (.int .i64 nx)]])
  refine ⟨av,g.length,_, ?_,by rw [hle];exact hDs.congr fun k hk=>by rw [← (hke k hk).1, ← (hke k hk).2,htk];exact ⟨rfl,rfl⟩,by rw [hle];exact hFs⟩
  have k16:¬ (S.st c).up ≥ 0:=by omega
  have hob2:=(hD.core.more [oe]).obj
  have hob3:=(hD.core.more [.pcells 7 []]).obj
  simp only [remS,Int.natCast_zero] at hloop
  generalize ((liveL S).filter fun h:Nat => !(underB S (h:Int) (c:Int))).length=k at hloop
  rw [acall_code T86,run_code rfl rfl]
  simp -implicitDefEqProofs (disch:=omega) only [Rx,simprocAttr,F86,hno,hat1,hob,ho,hix,rdc,k16,hloop,hob2,hob3]
 ·obtain ⟨u,hu,huN,hul,hkid⟩:=hS.up_nat hcN (by omega)
  have huL:u ∈ liveL S:=mem_liveL.2 ⟨huN,hul⟩
  obtain ⟨iu,hpu,hiu⟩:=posL_in huL
  have hat2:=hat (u:Int)
  rw [hpu] at hat2
  have lu:=(List.getElem?_eq_some_iff.1 hiu).1
  have ku:(iu:Int)<((liveL S).length:Int):=by omega
  have hkl:=kd_len hS huN
  have hK:=hD.kids u huL
  have hout:=out_run (S.kd u) (c:Int) (by omega) [] (n:=n+2) (by omega)
  generalize hl1:(S.kd u).filter (fun k => !(k==(c:Int)))=l1 at hout
  have hD1:=hD.core.kill (hD.away u huL).1 (hD.away u huL).2
  obtain ⟨o1,hk1,hr1⟩:=kidsF_run hD1 hL huL (intsPV l1) (n:=n+1) (by omega)
  have hD2:=hD.fix huL l1 hr1
  have hF2:=DFr.fix hD huL (intsPV l1) o1
  generalize hav2:upd av u (.p (.list (intsPV l1)))=av2 at hD2 hF2
  generalize hg2:(killG g (av u)).set q o1=g2 at hk1 hD2 hF2
  have htk:(takeM S c).kd=upd S.kd u l1:=by
   unfold takeM
   rw [if_neg h16,hu,Int.toNat_natCast,hl1]
  obtain ⟨oe,hloop,hro⟩:=rem_loop hS hD2.core hL (fun h hh=>(hD2.kids h hh).noLocal) c (n:=n+1) (by omega) (by omega) (n+3) (by omega)
  have hDs:=hD2.swap hfil hfn hro
  have hFs:=hF2.trans (DFr.swap (L:=liveL S) (av:=av2) (p:=p) (q:=q) (g:=g2) hfil oe (.cells 2 [[.own true g2.length ((liveL S).filter fun h:Nat => !(underB S (h:Int) (c:Int))).length,.p (.int .i64 nx)]]))
  refine ⟨av2,g2.length,_, ?_,by rw [hle];exact hDs.congr fun k hk=>by rw [← (hke k hk).1, ← (hke k hk).2,htk];exact ⟨rfl,rfl⟩,by rw [hle];exact hFs⟩
  have k16:(u:Int) ≥ 0:=by omega
  rw [hu] at rdc
  have rdu:=rd_node hrep hiu (j:=2) (by omega)
  simp only [nAV] at rdu
  have hob2:=(hD2.core.more [oe]).obj
  have hob3:=(hD2.core.more [.pcells 7 []]).obj
  have hfz:=hK.frz
  generalize killG g (av u)=g1 at hk1 hfz
  generalize av u=au at rdu hfz
  simp only [remS,Int.natCast_zero] at hloop
  generalize ((liveL S).filter fun h:Nat => !(underB S (h:Int) (c:Int))).length=k at hloop
  rw [acall_code T86,run_code rfl rfl]
  simp -implicitDefEqProofs (disch:=omega) only [Rx,simprocAttr,F86,hno,hat1,hat2,hob,ho,hix,rdc,rdu,k16,hout,hk1,hfz,hloop,hob2,hob3]
end
end Tryz
end Go.TA


end
section
/- Tags and names: what the program says of them. -/
set_option maxRecDepth 100000
set_option maxHeartbeats 1000000
namespace Go.TA.Tryz
def smallB (c:UInt8):Bool:=decide ((97:Int)≤c.toNat) && decide ((c.toNat:Int)≤122)
def digitB (c:UInt8):Bool:=decide ((48:Int)≤c.toNat) && decide ((c.toNat:Int)≤57)
def innerB (more:Bool) (c:UInt8):Bool:=smallB c || (digitB c || (((c.toNat:Int)==45) || (more && (((c.toNat:Int)==58) || ((c.toNat:Int)==46)))))
def namedB (more:Bool) (s:Bs):Bool:=match s with
 | []=>false
 | c::r=>decide (s.length≤32) && smallB c && r.all (innerB more)
theorem smallB_inner {more:Bool} {c:UInt8} (h:smallB c=true):innerB more c=true:=by simp [innerB,h]
theorem small_run (c:UInt8) (g:List AObj) (n:Nat):acall T (n+1) 121 [.p (.int .u8 c.toNat)] g=some (.p (.bool (smallB c)),g):=by
 rw [acall_code T121,run_pure rfl rfl rfl]
 by_cases h1:(97:Int)≤c.toNat
 ·by_cases h2:(c.toNat:Int)≤122
  ·simp -implicitDefEqProofs (disch:=omega) only [Rx,simprocAttr,F121,smallB,h1,h2]
  ·simp -implicitDefEqProofs (disch:=omega) only [Rx,simprocAttr,F121,smallB,h1,h2]
 ·simp -implicitDefEqProofs (disch:=omega) only [Rx,simprocAttr,F121,smallB,h1]
theorem getD_get {s:Bs} {i:Nat} {c:UInt8} (h:s[i]? = some c):s.getD i 0=c:=by rw [List.getD_eq_getElem?_getD,h];rfl
theorem drop_cons {α : Type} {l:List α} {i:Nat} {x : α} (h:l[i]? = some x):l.drop i=x::l.drop (i+1):=by rw [List.drop_eq_getElem?_toList_append,h];rfl
def outB (r:Bool):Ex × St:=if r=true then (.exit 0,⟨[],[],[]⟩) else (.ret,⟨[(4,.p (.bool false))],[],[]⟩)
def othersOf (more:Bool):Bs:=if more=true then [45,58,46] else [45]
theorem u8_ne {c:UInt8} {k:UInt8}:((k==c)=true)↔c.toNat=k.toNat:=by
 rw [beq_iff_eq]
 exact ⟨fun h=>by rw [h],fun h=>(UInt8.toNat_inj.1 h).symm⟩
theorem others_at (more:Bool) (c:UInt8) (hn:(smallB c || digitB c)=false):(Lib.indexByte (othersOf more) c<0)=((innerB more c)=false):=by
 have e:innerB more c=(((c.toNat:Int)==45) || (more && (((c.toNat:Int)==58) || ((c.toNat:Int)==46)))):=by
  simp only [Bool.or_eq_false_iff] at hn
  simp [innerB,hn.1,hn.2]
 rw [e]
 have q:∀ k:UInt8,(k==c)=((c.toNat:Int)==(k.toNat:Int)):=fun k=>by
  rw [Bool.eq_iff_iff,u8_ne,beq_iff_eq]
  omega
 cases more
 ·have e0:othersOf false=[45]:=rfl
  have:((45:UInt8).toNat:Int)=45:=rfl
  simp only [e0,Lib.indexByte,q,this]
  cases h:((c.toNat:Int)==45) <;> simp
 ·have e0:othersOf true=[45,58,46]:=rfl
  have e1:((45:UInt8).toNat:Int)=45:=rfl
  have e2:((58:UInt8).toNat:Int)=58:=rfl
  have e3:((46:UInt8).toNat:Int)=46:=rfl
  simp only [e0,Lib.indexByte,q,e1,e2,e3]
  cases h:((c.toNat:Int)==45) <;> cases h':((c.toNat:Int)==58) <;> cases h'':((c.toNat:Int)==46) <;> simp
theorem index_run (s:Bs) (c:UInt8) (g:List AObj) (n:Nat):acall T (n+1) 122 [.p (.str s),.p (.int .u8 c.toNat)] g=some (.p (.int .i64 (Lib.indexByte s c)),g):=by
 rw [acall_prim T122]
 simp [pIndexByte]
theorem named_loop {n N : Nat} (s : Bs) (more : Bool) (hs : s.length ≤ 32) (hN : 32 < N) (i : Nat) (hi : i ≤ s.length) :
    aexec (acall T (n+1)) N (.loop B104x0) ⟨[(0,.p (.str s)),(1,.p (.str (othersOf more))),(21,.p (.int .i64 s.length)),(22,.p (.int .i64 i))],[],[]⟩=some (outB ((s.drop i).all (innerB more))):=by
  refine loop_rule' (σ := Nat) (S:=fun i=>⟨[(0,.p (.str s)),(1,.p (.str (othersOf more))),(21,.p (.int .i64 s.length)),(22,.p (.int .i64 i))],[],[]⟩) (I:=fun i=>i≤s.length) (μ := fun i=>s.length - i)
    (Φ := fun i=>outB ((s.drop i).all (innerB more))) ?_ i hi (by omega)
  intro i hi
  by_cases h:i<s.length
  · obtain ⟨c,hc⟩:=get_some h
    have hg:=getD_get hc
    have k1:(i:Int)<(s.length:Int):=by omega
    rw [drop_cons hc]
    have good:innerB more c=true→aexec (acall T (n+1)) N B104x0 ⟨[(0,.p (.str s)),(1,.p (.str (othersOf more))),(21,.p (.int .i64 s.length)),(22,.p (.int .i64 i))],[],[]⟩=some (.normal,⟨[(0,.p (.str s)),(1,.p (.str (othersOf more))),(21,.p (.int .i64 s.length)),(22,.p (.int .i64 ((i+1:Nat):Int)))],[],[]⟩):=fun hb=>by
      cases hsm:smallB c with
      | true=>simp -implicitDefEqProofs (disch:=omega) only [Rx,simprocAttr,B104x0,k1,hg,small_run,hsm]
      | false =>
        by_cases h48:(c.toNat:Int)<48
        · have hd:(smallB c || digitB c)=false:=by simp [hsm,digitB];omega
          have ho:¬ (Lib.indexByte (othersOf more) c<0):=by rw [others_at more c hd,hb];simp
          simp -implicitDefEqProofs (disch:=omega) only [Rx,simprocAttr,B104x0,k1,hg,small_run,hsm,h48,index_run,ho]
        · by_cases h57:57<(c.toNat:Int)
          · have hd:(smallB c || digitB c)=false:=by simp [hsm,digitB];omega
            have ho:¬ (Lib.indexByte (othersOf more) c<0):=by rw [others_at more c hd,hb];simp
            simp -implicitDefEqProofs (disch:=omega) only [Rx,simprocAttr,B104x0,k1,hg,small_run,hsm,h48,h57,index_run,ho]
          · simp -implicitDefEqProofs (disch:=omega) only [Rx,simprocAttr,B104x0,k1,hg,small_run,hsm,h48,h57]
    cases hb:innerB more c with
    | true=>exact .inl ⟨i+1,good hb,by omega,by omega,by simp [hb]⟩
    | false =>
      refine .inr ⟨?_,by simp [hb,outB]⟩
      have hsm:smallB c=false:=by
        cases h:smallB c
        · rfl
        · rw [smallB_inner h] at hb;cases hb
      have hdg:digitB c=false:=by
        cases h:digitB c
        · rfl
        · simp [innerB,h] at hb
      have hd:(smallB c || digitB c)=false:=by simp [hsm,hdg]
      have ho:Lib.indexByte (othersOf more) c<0:=by rw [others_at more c hd,hb]
      have eF:outB ((c::s.drop (i+1)).all (innerB more))=(.ret,⟨[(4,.p (.bool false))],[],[]⟩):=by simp [outB,hb]
      by_cases h48:(c.toNat:Int)<48
      · rw [eF]
        simp -implicitDefEqProofs (disch:=omega) only [Rx,simprocAttr,B104x0,k1,hg,small_run,hsm,h48,index_run,ho]
      · have h57:57<(c.toNat:Int):=by simp [digitB] at hdg;omega
        rw [eF]
        simp -implicitDefEqProofs (disch:=omega) only [Rx,simprocAttr,B104x0,k1,hg,small_run,hsm,h48,h57,index_run,ho]
  · refine .inr ⟨?_,by rw [List.drop_eq_nil_of_le (by omega)];simp [outB]⟩
    have k1:¬ (i:Int)<(s.length:Int):=by omega
    rw [List.drop_eq_nil_of_le (by omega)]
    simp -implicitDefEqProofs (disch:=omega) only [Rx,simprocAttr,B104x0,k1,outB]
theorem named_run (s : Bs) (more : Bool) (g : List AObj) (n : Nat) : acall T (n + 35) 104 [.p (.str s), .p (.str (othersOf more))] g = some (.p (.bool (namedB more s)), g) := by
  rw [acall_code T104,run_pure rfl rfl rfl]
  cases s with
  | nil=>simp -implicitDefEqProofs (disch:=omega) only [Rx,simprocAttr,F104,namedB]
  | cons c r =>
    have k0:((c::r)==([]:Bs))=false:=rfl
    by_cases h32:(c::r).length≤32
    · have k1:¬ (32<(r.length:Int)+1):=by simp at h32;omega
      have hl:=named_loop (n:=n+33) (N:=n+34) (c::r) more h32 (by omega) 0 (by simp)
      simp only [List.length_cons,Int.natCast_add,Int.natCast_one,Int.natCast_zero] at hl
      cases hsm:smallB c with
      | true =>
        have e:namedB more (c::r)=((c::r).drop 0).all (innerB more):=by
          simp only [namedB,hsm,List.drop_zero,List.all_cons,smallB_inner hsm,Bool.true_and,Bool.and_true]
          simp at h32 ⊢
          omega
        rw [e]
        cases hb:((c::r).drop 0).all (innerB more) with
        | true =>
          have hl':outB (((c::r).drop 0).all (innerB more))=(.exit 0,⟨[],[],[]⟩):=by simp only [outB,hb];rfl
          rw [hl'] at hl
          simp -implicitDefEqProofs (disch:=omega) only [Rx,simprocAttr,F104,k0,k1,small_run,hsm,hl]
        | false =>
          have hl':outB (((c::r).drop 0).all (innerB more))=(.ret,⟨[(4,.p (.bool false))],[],[]⟩):=by simp only [outB,hb];rfl
          rw [hl'] at hl
          simp -implicitDefEqProofs (disch:=omega) only [Rx,simprocAttr,F104,k0,k1,small_run,hsm,hl]
      | false =>
        have e:namedB more (c::r)=false:=by simp [namedB,hsm]
        rw [e]
        simp -implicitDefEqProofs (disch:=omega) only [Rx,simprocAttr,F104,k0,k1,small_run,hsm]
    · have k1:32<(r.length:Int)+1:=by simp at h32;omega
      have e:namedB more (c::r)=false:=by simp [namedB];simp at h32;omega
      rw [e]
      simp -implicitDefEqProofs (disch:=omega) only [Rx,simprocAttr,F104,k0,k1]
theorem tag_run (s:Bs) (g:List AObj) (n:Nat):acall T (n+36) 68 [.p (.str s)] g=some (.p (.bool (namedB false s)),g):=by
 rw [acall_code T68,run_pure rfl rfl rfl]
 have h:=named_run s false [] n
 simp only [othersOf,Bool.false_eq_true,if_false] at h
 simp -implicitDefEqProofs (disch:=omega) only [Rx,simprocAttr,F68,h]
theorem name_run (s:Bs) (g:List AObj) (n:Nat):acall T (n+36) 69 [.p (.str s)] g=some (.p (.bool (namedB true s)),g):=by
 rw [acall_code T69,run_pure rfl rfl rfl]
 have h:=named_run s true [] n
 simp only [othersOf,if_true] at h
 simp -implicitDefEqProofs (disch:=omega) only [Rx,simprocAttr,F69,h]
theorem fits_run (s:Bs) (g:List AObj) (n:Nat):acall T (n+1) 70 [.p (.str s)] g=some (.p (.bool (decide ((s.length:Int)≤65536))),g):=by
 rw [acall_code T70,run_pure rfl rfl rfl]
 simp -implicitDefEqProofs (disch:=omega) only [Rx,simprocAttr,F70]
end Go.TA.Tryz


end
section
/- Which text is ahead. -/
set_option maxRecDepth 100000
set_option maxHeartbeats 1000000
namespace Go.TA.Tryz
def cmpB:Bs→Bs→Int
 | [],[]=>0
 | [],_::_ => -1
 | _::_,[]=>1
 | a::x,b::y=>if (a.toNat:Int)<b.toNat then -1 else if (b.toNat:Int)<a.toNat then 1 else cmpB x y
theorem cmpB_less : ∀ {x y : Bs}, x ≠ y → (0 < cmpB x y ↔ (strLess x y || x == y) = false)
  | [],[],h=>absurd rfl h
  | [],b::y,h=>by simp [cmpB,strLess]
  | a::x,[],h=>by simp [cmpB,strLess]
  | a :: x, b :: y, h => by
    have e1:(a<b)=((a.toNat:Int)<b.toNat):=by rw [UInt8.lt_iff_toNat_lt];simp
    simp only [cmpB,strLess]
    by_cases h1:(a.toNat:Int)<b.toNat
    · simp [h1,e1]
    · by_cases h2:(b.toNat:Int)<a.toNat
      · have hne:a≠b:=fun e=>by subst e;omega
        have hne':¬ (a::x=b::y):=fun e=>hne (by injection e)
        simp [h1,h2,e1,hne]
      · have he:a=b:=UInt8.toNat_inj.1 (by omega)
        subst he
        have hxy:x≠y:=fun e=>h (by rw [e])
        have:=cmpB_less hxy
        simp only [h1,if_false,this,e1]
        simp [h1]
def cmpOut (a b:Bs) (r:Int):Ex × St:=if r = -1 then (.ret,⟨[(4,.p (.int .i64 (-1)))],[],[]⟩) else if r=1 then (.ret,⟨[(4,.p (.int .i64 1))],[],[]⟩) else (.exit 0,⟨[(0,.p (.str a)),(1,.p (.str b))],[],[]⟩)
def part:Bs→Bs→Int
 | a::x,b::y=>if (a.toNat:Int)<b.toNat then -1 else if (b.toNat:Int)<a.toNat then 1 else part x y
 | _,_=>0
theorem cmp_part:∀ (x y:Bs),cmpB x y=if part x y=0 then (if x.length<y.length then -1 else if y.length<x.length then 1 else 0) else part x y
  | [],[]=>by simp [cmpB,part]
  | [],_::_=>by simp [cmpB,part]
  | _::_,[]=>by simp [cmpB,part]
  | a :: x, b :: y => by
    simp only [cmpB,part,cmp_part x y,List.length_cons]
    split
    · simp
    · split
      · simp
      · simp
theorem cmp_loop {n N : Nat} (a b : Bs) (hN : b.length < N) (hb : b.length ≤ 1048577) :
    aexec (acall T n) N (.loop B100x0) ⟨[(0,.p (.str a)),(1,.p (.str b)),(5,.p (.int .i64 ((0:Nat):Int)))],[],[]⟩=some (cmpOut a b (part a b)):=by
  refine loop_rule' (C:=acall T n) (N:=N) (B:=B100x0) (σ := Nat) (S:=fun i=>⟨[(0,.p (.str a)),(1,.p (.str b)),(5,.p (.int .i64 i))],[],[]⟩) (I:=fun i=>i≤a.length∧i≤b.length) (μ := fun i=>b.length - i)
    (Φ := fun i=>cmpOut a b (part (a.drop i) (b.drop i))) ?_ 0 ⟨by omega,by omega⟩ (by omega)
  rintro i ⟨hia,hib⟩
  by_cases h:i<a.length
  · have k1:(i:Int)<(a.length:Int):=by omega
    obtain ⟨x,hx⟩:=get_some h
    have gx:=getD_get hx
    by_cases h':i<b.length
    · have k2:(i:Int)<(b.length:Int):=by omega
      obtain ⟨y,hy⟩:=get_some h'
      have gy:=getD_get hy
      rw [drop_cons hx,drop_cons hy]
      by_cases c1:(x.toNat:Int)<y.toNat
      · refine .inr ⟨?_,by simp [part,c1,cmpOut]⟩
        have e:part (x::a.drop (i+1)) (y::b.drop (i+1)) = -1:=by simp [part,c1]
        rw [e]
        simp -implicitDefEqProofs (disch:=omega) only [Rx,simprocAttr,B100x0,k1,k2,gx,gy,c1,cmpOut]
      · by_cases c2:(y.toNat:Int)<x.toNat
        · refine .inr ⟨?_,by simp [part,c1,c2,cmpOut]⟩
          have e:part (x::a.drop (i+1)) (y::b.drop (i+1))=1:=by simp [part,c1,c2]
          rw [e]
          simp -implicitDefEqProofs (disch:=omega) only [Rx,simprocAttr,B100x0,k1,k2,gx,gy,c1,c2,cmpOut]
        · refine .inl ⟨i+1, ?_,⟨by omega,by omega⟩,by omega,by simp [part,c1,c2]⟩
          simp -implicitDefEqProofs (disch:=omega) only [Rx,simprocAttr,B100x0,k1,k2,gx,gy,c1,c2]
    · have k2:¬ (i:Int)<(b.length:Int):=by omega
      have e:part (a.drop i) (b.drop i)=0:=by rw [drop_cons hx,List.drop_eq_nil_of_le (by omega:b.length≤i)];rfl
      refine .inr ⟨?_,by rw [e];simp [cmpOut]⟩
      rw [e]
      simp -implicitDefEqProofs (disch:=omega) only [Rx,simprocAttr,B100x0,k1,k2,cmpOut]
  · have k1:¬ (i:Int)<(a.length:Int):=by omega
    have e:part (a.drop i) (b.drop i)=0:=by rw [List.drop_eq_nil_of_le (by omega:a.length≤i)];rfl
    refine .inr ⟨?_,by rw [e];simp [cmpOut]⟩
    rw [e]
    simp -implicitDefEqProofs (disch:=omega) only [Rx,simprocAttr,B100x0,k1,cmpOut]
theorem part_cases:∀ (x y:Bs),part x y = -1∨part x y=1∨part x y=0
  | [],[]=>by simp [part]
  | [],_::_=>by simp [part]
  | _::_,[]=>by simp [part]
  | a :: x, b :: y => by
    simp only [part]
    split
    · simp
    · split
      · simp
      · exact part_cases x y
theorem cmp_run (a b : Bs) (g : List AObj) {n : Nat} (ha : b.length < n) (hb : b.length ≤ 1048577) : acall T (n + 1) 100 [.p (.str a), .p (.str b)] g = some (.p (.int .i64 (cmpB a b)), g) := by
  rw [acall_code T100,run_pure rfl rfl rfl,cmp_part]
  have hl:=cmp_loop (n:=n) (N:=n) a b ha hb
  simp only [Int.natCast_zero] at hl
  rcases part_cases a b with h | h | h
  · rw [h] at hl ⊢
    simp only [cmpOut] at hl
    simp -implicitDefEqProofs (disch:=omega) only [Rx,simprocAttr,F100,hl]
  · rw [h] at hl ⊢
    simp only [cmpOut] at hl
    simp -implicitDefEqProofs (disch:=omega) only [Rx,simprocAttr,F100,hl]
  · rw [h] at hl ⊢
    simp only [cmpOut] at hl
    by_cases c1:a.length<b.length
    · have k1:(a.length:Int)<(b.length:Int):=by omega
      simp -implicitDefEqProofs (disch:=omega) only [Rx,simprocAttr,F100,hl,k1,c1]
    · have k1:¬ (a.length:Int)<(b.length:Int):=by omega
      by_cases c2:b.length<a.length
      · have k2:(b.length:Int)<(a.length:Int):=by omega
        simp -implicitDefEqProofs (disch:=omega) only [Rx,simprocAttr,F100,hl,k1,c1,k2,c2]
      · have k2:¬ (b.length:Int)<(a.length:Int):=by omega
        simp -implicitDefEqProofs (disch:=omega) only [Rx,simprocAttr,F100,hl,k1,c1,k2,c2]
end Go.TA.Tryz


end
section
/- Attributes with one more, or without one: the document's answer. -/
set_option maxRecDepth 100000
set_option maxHeartbeats 8000000
namespace Go.TA
def findA (l:List Attr) (name:Bs):Int:=if fstAt l name<l.length then (fstAt l name:Int) else -1
theorem fstAt_hit {l:List Attr} {name:Bs} {i:Nat} {a:Attr} (ha:l[i]? = some a) (h:i=fstAt l name):a.name=name:=by
 obtain ⟨hi,e⟩:=List.getElem?_eq_some_iff.1 ha
 have:=List.findIdx_getElem (xs:=l) (p:=fun a=>a.name==name) (w:=by unfold fstAt at h;omega)
 unfold fstAt at h
 simp only [← h,e] at this
 simpa using this
theorem fstAt_miss {l:List Attr} {name:Bs} {i:Nat} {a:Attr} (ha:l[i]? = some a) (h:i<fstAt l name):a.name≠name:=by
 obtain ⟨hi,e⟩:=List.getElem?_eq_some_iff.1 ha
 have:=List.not_of_lt_findIdx (xs:=l) (p:=fun a:Attr=>a.name==name) (i:=i) (by unfold fstAt at h;exact h)
 rw [e] at this
 simpa using this
theorem take_snoc {α : Type} {l:List α} {i:Nat} {a : α} (h:l[i]? = some a):l.take (i+1)=l.take i++[a]:=by
 rw [List.take_add_one,h];rfl
namespace Tryz
theorem find09_run (l : List Attr) (name : Bs) (hl : l.length ≤ 1048577) (g : List AObj) {n : Nat} (hn : l.length < n) :
    acall T (n+1) 128 [.p (.list (l.map Attr.pv)),.p (.str name)] g=some (.p (.int .i64 (findA l name)),g):=by
  have ll:(l.map Attr.pv).length=l.length:=by simp
  have key:=loop_inv (C:=acall T n) (N:=n) (B:=B128x0) (σ := Nat) (S:=fun i=>⟨[(0,.p (.list (l.map Attr.pv))),(1,.p (.str name)),(7,.p (.int .i64 l.length)),(8,.p (.int .i64 i))],[],[]⟩)
    (I:=fun i=>i≤l.length∧i≤fstAt l name) (μ := fun i=>l.length - i) (Q:=fun r=>r=if fstAt l name<l.length then (.ret,⟨[(4,.p (.int .i64 (fstAt l name)))],[],[]⟩) else (.exit 0,⟨[],[],[]⟩)) ?_ 0 ⟨by omega,by omega⟩ (by omega)
  · obtain ⟨r,hq,rfl⟩:=key
    simp only [Int.natCast_zero] at hq
    unfold findA
    rw [acall_code T128,run_pure rfl rfl rfl]
    by_cases hc:fstAt l name<l.length
    · rw [if_pos hc] at hq ⊢
      simp -implicitDefEqProofs (disch:=omega) only [Rx,simprocAttr,F128,hq,ll]
    · rw [if_neg hc] at hq ⊢
      simp -implicitDefEqProofs (disch:=omega) only [Rx,simprocAttr,F128,hq,ll]
  rintro i ⟨h1,h2⟩
  by_cases hi:i<l.length
  · have k1:(i:Int)<(l.length:Int):=by omega
    obtain ⟨a,ha⟩:=get_some hi
    have hg:=getD_map (f:=Attr.pv) ha
    by_cases e:i=fstAt l name
    · right
      have hp:(a.name==name)=true:=by simpa using fstAt_hit ha e
      refine ⟨_, ?_, ?_,rfl⟩
      · rw [if_pos (by omega), ← e]
        simp -implicitDefEqProofs (disch:=omega) only [Rx,simprocAttr,B128x0,k1,hg,ll,Attr.pv,hp]
      · rw [if_pos (by omega)];simp
    · left
      have hp:(a.name==name)=false:=by simpa using fstAt_miss ha (by omega)
      refine ⟨i+1, ?_,⟨by omega,by omega⟩,by omega⟩
      simp -implicitDefEqProofs (disch:=omega) only [Rx,simprocAttr,B128x0,k1,hg,ll,Attr.pv,hp]
  · right
    obtain rfl:i=l.length:=by omega
    have k1:¬ (l.length:Int)<(l.length:Int):=by omega
    refine ⟨_, ?_, ?_,rfl⟩
    · rw [if_neg (by omega)]
      simp -implicitDefEqProofs (disch:=omega) only [Rx,simprocAttr,B128x0,k1]
    · rw [if_neg (by omega)];simp
theorem without09_run (l:List Attr) (name:Bs) (hl:l.length≤1048577) (g:List AObj) {n:Nat} (hn:l.length<n) :
  acall T (n+1) 118 [.p (.list (l.map Attr.pv)),.p (.str name)] g=some (.tuple [.p (.list ((withoutA l name).map Attr.pv)),.p (.bool (decide ((withoutA l name).length<l.length)))],g):=by
 have ll:(l.map Attr.pv).length=l.length:=by simp
 unfold withoutA
 have hlen:∀ i,((l.take i).filter (notN name)).length≤l.length:=fun i=>by
  have:=List.length_filter_le (notN name) (l.take i)
  have h2:(l.take i).length≤l.length:=by rw [List.length_take];omega
  omega
 have key:=loop_inv (C:=acall T n) (N:=n) (B:=B118x0) (σ := Nat) (S:=fun i=>⟨[(0,.p (.list (l.map Attr.pv))),(1,.p (.str name)),(6,.own false 1000 ((l.take i).filter (notN name)).length),(9,.p (.int .i64 l.length)),(10,.p (.int .i64 i))],[(1000,.pcells 2 (((l.take i).filter (notN name)).map Attr.pv))],[]⟩)
  (I:=fun i=>i≤l.length) (μ := fun i=>l.length - i) (Q:=fun r=>r=(.exit 0,⟨[(0,.p (.list (l.map Attr.pv))),(6,.own false 1000 (l.filter (notN name)).length)],[(1000,.pcells 2 ((l.filter (notN name)).map Attr.pv))],[]⟩)) ?_ 0 (by omega) (by omega)
 ·obtain ⟨r,hq,rfl⟩:=key
  simp only [List.take_zero,List.filter_nil,List.length_nil,List.map_nil,Int.natCast_zero] at hq
  have hll:=hlen l.length
  rw [List.take_length] at hll
  generalize l.filter (notN name)=acc at hq hll
  have la:(acc.map Attr.pv).length=acc.length:=by simp
  rw [acall_code T118,run_pure rfl rfl rfl]
  by_cases hc:acc.length<l.length
  ·have k1:(acc.length:Int)<(l.length:Int):=by omega
   have ed:decide (acc.length<l.length)=true:=by simpa using hc
   simp -implicitDefEqProofs (disch:=omega) only [Rx,simprocAttr,F118,hq,ll,la,k1,ed]
  ·have k1:¬ (acc.length:Int)<(l.length:Int):=by omega
   have ed:decide (acc.length<l.length)=false:=by simpa using hc
   simp -implicitDefEqProofs (disch:=omega) only [Rx,simprocAttr,F118,hq,ll,la,k1,ed]
 intro i h1
 by_cases hi:i<l.length
 ·left
  have k1:(i:Int)<(l.length:Int):=by omega
  obtain ⟨a,ha⟩:=get_some hi
  have hg:=getD_map (f:=Attr.pv) ha
  have hs:(l.take (i+1)).filter (notN name)=(l.take i).filter (notN name)++if notN name a=true then [a] else []:=by
   rw [take_snoc ha,List.filter_append]
   simp [List.filter_cons]
  have hll:=hlen i
  refine ⟨i+1, ?_,by omega,by omega⟩
  rw [hs]
  generalize (l.take i).filter (notN name)=acc at hll
  have la:(acc.map Attr.pv).length=acc.length:=by simp
  by_cases e:a.name=name
  ·have e1:(a.name==name)=true:=by simpa using e
   have hfx:notN name a=false:=by simp [notN,e]
   rw [hfx]
   simp only [Bool.false_eq_true,if_false,List.append_nil]
   simp -implicitDefEqProofs (disch:=omega) only [Rx,simprocAttr,B118x0,k1,hg,ll,Attr.pv,e1]
  ·have e1:(a.name==name)=false:=by simpa using e
   have hfx:notN name a=true:=by simp [notN,e]
   rw [hfx,if_pos rfl]
   have os1:acc.map Attr.pv++[[.str a.name,.str a.value]]=(acc++[a]).map Attr.pv:=by simp [Attr.pv]
   have ol1:((acc++[a]).map Attr.pv).length=acc.length+1:=by simp
   have ol3:(acc++[a]).length=acc.length+1:=by simp
   rw [ol3]
   generalize acc++[a]=acc1 at os1 ol1
   simp -implicitDefEqProofs (disch:=omega) only [Rx,simprocAttr,B118x0,k1,hg,ll,la,Attr.pv,e1,os1,ol1]
 ·right
  obtain rfl:i=l.length:=by omega
  have k1:¬ (l.length:Int)<(l.length:Int):=by omega
  refine ⟨_, ?_, ?_,rfl⟩
  ·rw [List.take_length]
   simp -implicitDefEqProofs (disch:=omega) only [Rx,simprocAttr,B118x0,k1]
  ·simp
def leAt (l:List Attr) (name:Bs):Nat:=l.findIdx (fun a=>decide (0<cmpB a.name name))
theorem le_loop (l : List Attr) (name v : Bs) (at' : Int) (hl : l.length ≤ 1048577) (hnl : name.length ≤ 1048577) {n : Nat} (hn : name.length < n) (N : Nat) (hN : l.length < N) :
    aexec (acall T (n+1)) N (.loop B117x0) ⟨[(0,.p (.list (l.map Attr.pv))),(1,.p (.str name)),(2,.p (.str v)),(7,.p (.int .i64 at')),(8,.p (.int .i64 ((0:Nat):Int)))],[],[]⟩=some (.exit 0,⟨[(0,.p (.list (l.map Attr.pv))),(1,.p (.str name)),(2,.p (.str v)),(7,.p (.int .i64 at')),(8,.p (.int .i64 (leAt l name)))],[],[]⟩):=by
  have ll:(l.map Attr.pv).length=l.length:=by simp
  have hle:leAt l name≤l.length:=List.findIdx_le_length
  refine loop_rule' (C:=acall T (n+1)) (N:=N) (B:=B117x0) (σ := Nat) (S:=fun i=>⟨[(0,.p (.list (l.map Attr.pv))),(1,.p (.str name)),(2,.p (.str v)),(7,.p (.int .i64 at')),(8,.p (.int .i64 i))],[],[]⟩) (I:=fun i=>i≤leAt l name) (μ := fun i=>l.length - i) (Φ := fun i=>(.exit 0,⟨[(0,.p (.list (l.map Attr.pv))),(1,.p (.str name)),(2,.p (.str v)),(7,.p (.int .i64 at')),(8,.p (.int .i64 (leAt l name)))],[],[]⟩)) ?_ 0 (by omega) (by omega)
  intro i hi
  by_cases h1:i<l.length
  · have k1:(i:Int)<(l.length:Int):=by omega
    obtain ⟨a,ha⟩:=get_some h1
    have hg:=getD_map (f:=Attr.pv) ha
    obtain ⟨_,ea⟩:=List.getElem?_eq_some_iff.1 ha
    have hc:=cmp_run (n:=n) a.name name [] hn hnl
    by_cases e:i=leAt l name
    · right
      have hp:¬ cmpB a.name name≤0:=by
        have:=List.findIdx_getElem (xs:=l) (p:=fun a=>decide (0<cmpB a.name name)) (w:=by unfold leAt at e;omega)
        unfold leAt at e
        simp only [← e,ea] at this
        simp only [decide_eq_true_eq] at this
        omega
      refine ⟨?_,by simp⟩
      rw [← e]
      simp -implicitDefEqProofs (disch:=omega) only [Rx,simprocAttr,B117x0,k1,hg,ll,Attr.pv,hc,hp]
    · left
      have hp:cmpB a.name name≤0:=by
        have:=List.not_of_lt_findIdx (xs:=l) (p:=fun a=>decide (0<cmpB a.name name)) (i:=i) (by unfold leAt at e hi;omega)
        rw [ea] at this
        have h2:¬ 0<cmpB a.name name:=by simpa using this
        omega
      refine ⟨i+1, ?_,by omega,by omega,rfl⟩
      simp -implicitDefEqProofs (disch:=omega) only [Rx,simprocAttr,B117x0,k1,hg,ll,Attr.pv,hc,hp]
  · right
    have e:i=leAt l name:=by omega
    have k1:¬ (i:Int)<(l.length:Int):=by omega
    refine ⟨?_,by simp⟩
    rw [← e]
    simp -implicitDefEqProofs (disch:=omega) only [Rx,simprocAttr,B117x0,k1,ll]
theorem leAt_pos {l : List Attr} {name : Bs} (h : ¬ fstAt l name < l.length) : leAt l name = posAt l name := by
  unfold leAt posAt
  have hne:∀ a ∈ l,a.name≠name:=fun a ha e=>h (List.findIdx_lt_length_of_exists ⟨a,ha,by simpa using e⟩)
  clear h
  induction l with
  | nil=>rfl
  | cons a l ih =>
    have h1:=hne a (by simp)
    have h2:=cmpB_less h1
    have h3:(a.name==name)=false:=by simpa using h1
    rw [h3,Bool.or_false] at h2
    have e:decide (0<cmpB a.name name) = !(strLess a.name name):=by
      by_cases hs:strLess a.name name=true
      · rw [hs] at h2
        have h4:¬ 0<cmpB a.name name:=fun h=>by have:=h2.1 h;cases this
        simp [hs,h4]
      · simp only [Bool.not_eq_true] at hs
        simp [hs,h2.2 hs]
    rw [List.findIdx_cons,List.findIdx_cons,e,ih (fun b hb=>hne b (by simp [hb]))]
def withS (l:List Attr) (name v:Bs) (at':Int) (to:Nat) (acc:List Attr) (i:Nat):St:=⟨[(0,.p (.list (l.map Attr.pv))),(1,.p (.str name)),(2,.p (.str v)),(7,.p (.int .i64 at')),(8,.p (.int .i64 to)),(9,.own false 1000 acc.length),(32,.p (.int .i64 l.length)),(33,.p (.int .i64 i))],[(1000,.pcells 2 (acc.map Attr.pv))],[]⟩
def withE (l:List Attr) (name v:Bs) (at':Int) (to:Nat) (acc:List Attr):Ex × St:=(.exit 2,⟨[(0,.p (.list (l.map Attr.pv))),(1,.p (.str name)),(2,.p (.str v)),(7,.p (.int .i64 at')),(8,.p (.int .i64 to)),(9,.own false 1000 acc.length)],[(1000,.pcells 2 (acc.map Attr.pv))],[]⟩)
theorem with_found (l:List Attr) (name v:Bs) (to k:Nat) (hl:l.length≤1048577) (hk:k<l.length) (hkn:∀ a,l[k]? = some a→a.name=name) (C:Calls') (N:Nat) (hN:l.length<N) :
  aexec C N (.loop B117x1) (withS l name v (k:Int) to [] 0)=some (withE l name v (k:Int) to (l.set k ⟨name,v⟩)):=by
 have ll:(l.map Attr.pv).length=l.length:=by simp
 have key:=loop_inv (C:=C) (N:=N) (B:=B117x1) (σ := Nat) (S:=fun i=>withS l name v (k:Int) to ((l.set k ⟨name,v⟩).take i) i) (I:=fun i=>i≤l.length) (μ := fun i=>l.length - i) (Q:=fun r=>r=withE l name v (k:Int) to (l.set k ⟨name,v⟩)) ?_ 0 (by omega) (by omega)
 ·obtain ⟨r,hq,rfl⟩:=key
  simpa using hq
 intro i hi
 by_cases h1:i<l.length
 ·left
  have k1:(i:Int)<(l.length:Int):=by omega
  obtain ⟨a,ha⟩:=get_some h1
  have hg:=getD_map (f:=Attr.pv) ha
  have hw:(l.set k ⟨name,v⟩)[i]? = some (if k=i then ⟨name,v⟩ else a):=by
   rw [List.getElem?_set]
   split
   ·rename_i e;subst e;first | rfl | rw [if_pos h1]
   ·rw [ha]
  have hs:=take_snoc hw
  have hll:((l.set k ⟨name,v⟩).take i).length≤1048577:=by rw [List.length_take,List.length_set];omega
  refine ⟨i+1, ?_,by omega,by omega⟩
  simp only [withS]
  rw [hs]
  generalize (l.set k ⟨name,v⟩).take i=acc at hll
  have la:(acc.map Attr.pv).length=acc.length:=by simp
  have k0:¬ (k:Int)<0:=by omega
  by_cases e:k=i
  ·rw [if_pos e]
   have e1:((i:Int)==(k:Int))=true:=by simp;omega
   have hn:=hkn a (by rw [e];exact ha)
   have os1:acc.map Attr.pv++[[.str name,.str v]]=(acc++[(⟨name,v⟩:Attr)]).map Attr.pv:=by simp [Attr.pv]
   have ol1:((acc++[(⟨name,v⟩:Attr)]).map Attr.pv).length=acc.length+1:=by simp
   have ol3:(acc++[(⟨name,v⟩:Attr)]).length=acc.length+1:=by simp
   rw [ol3]
   generalize acc++[(⟨name,v⟩:Attr)]=acc1 at os1 ol1
   simp -implicitDefEqProofs (disch:=omega) only [Rx,simprocAttr,B117x1,k0,k1,hg,ll,la,Attr.pv,e1,hn,os1,ol1]
  ·rw [if_neg e]
   have e1:((i:Int)==(k:Int))=false:=by simp;omega
   have os1:acc.map Attr.pv++[[.str a.name,.str a.value]]=(acc++[a]).map Attr.pv:=by simp [Attr.pv]
   have ol1:((acc++[a]).map Attr.pv).length=acc.length+1:=by simp
   have ol3:(acc++[a]).length=acc.length+1:=by simp
   rw [ol3]
   generalize acc++[a]=acc1 at os1 ol1
   simp -implicitDefEqProofs (disch:=omega) only [Rx,simprocAttr,B117x1,k0,k1,hg,ll,la,Attr.pv,e1,os1,ol1]
 ·right
  obtain rfl:i=l.length:=by omega
  have k1:¬ (l.length:Int)<(l.length:Int):=by omega
  refine ⟨_, ?_, ?_,rfl⟩
  ·have:(l.set k ⟨name,v⟩).take l.length=l.set k ⟨name,v⟩:=List.take_of_length_le (by simp)
   rw [this]
   simp only [withS,withE]
   simp -implicitDefEqProofs (disch:=omega) only [Rx,simprocAttr,B117x1,k1]
  ·simp [withE]
def putA (l:List Attr) (to:Nat) (a:Attr) (i:Nat):List Attr:=if i≤to then l.take i else l.take to++a::(l.drop to).take (i - to)
theorem with_new (l : List Attr) (name v : Bs) (to : Nat) (hl : l.length ≤ 1048577) (C : Calls') (N : Nat) (hN : l.length < N) :
    aexec C N (.loop B117x1) (withS l name v (-1) to [] 0)=some (withE l name v (-1) to (putA l to ⟨name,v⟩ l.length)):=by
  have ll:(l.map Attr.pv).length=l.length:=by simp
  have key:=loop_inv (C:=C) (N:=N) (B:=B117x1) (σ := Nat) (S:=fun i=>withS l name v (-1) to (putA l to ⟨name,v⟩ i) i) (I:=fun i=>i≤l.length) (μ := fun i=>l.length - i) (Q:=fun r=>r=withE l name v (-1) to (putA l to ⟨name,v⟩ l.length)) ?_ 0 (by omega) (by omega)
  · obtain ⟨r,hq,rfl⟩:=key
    have:putA l to ⟨name,v⟩ 0=[]:=by simp [putA]
    rw [this] at hq
    exact hq
  intro i hi
  by_cases h1:i<l.length
  · left
    have k1:(i:Int)<(l.length:Int):=by omega
    obtain ⟨a,ha⟩:=get_some h1
    have hg:=getD_map (f:=Attr.pv) ha
    have e9:((i:Int) == -1)=false:=by simp <;> omega
    have hll:(putA l to ⟨name,v⟩ i).length≤1048579:=by
      unfold putA
      split
      · rw [List.length_take];omega
      · rw [List.length_append,List.length_cons,List.length_take,List.length_take,List.length_drop];omega
    refine ⟨i+1, ?_,by omega,by omega⟩
    by_cases e:i=to
    · have hs:putA l to ⟨name,v⟩ (i+1)=putA l to ⟨name,v⟩ i++[⟨name,v⟩]++[a]:=by
        subst e
        have hd:l.drop i=a::l.drop (i+1):=by rw [List.drop_eq_getElem?_toList_append,ha];rfl
        simp only [putA,Nat.le_refl,if_true]
        rw [if_neg (by omega),show i+1 - i=1 by omega,hd]
        simp
      have e1:((i:Int)==(to:Int))=true:=by simp;omega
      rw [hs]
      generalize putA l to ⟨name,v⟩ i=acc at hll
      have la:(acc.map Attr.pv).length=acc.length:=by simp
      have os1:acc.map Attr.pv++[[.str name,.str v]]=(acc++[(⟨name,v⟩:Attr)]).map Attr.pv:=by simp [Attr.pv]
      have ol1:((acc++[(⟨name,v⟩:Attr)]).map Attr.pv).length=acc.length+1:=by simp
      have os2:(acc++[(⟨name,v⟩:Attr)]).map Attr.pv++[[.str a.name,.str a.value]]=(acc++[(⟨name,v⟩:Attr)]++[a]).map Attr.pv:=by simp [Attr.pv]
      have ol2:((acc++[(⟨name,v⟩:Attr)]++[a]).map Attr.pv).length=acc.length+1+1:=by simp
      have ol3:(acc++[(⟨name,v⟩:Attr)]++[a]).length=acc.length+1+1:=by simp
      simp only [withS]
      rw [ol3]
      generalize acc++[(⟨name,v⟩:Attr)]++[a]=acc2 at os2 ol2
      generalize acc++[(⟨name,v⟩:Attr)]=acc1 at os1 os2 ol1
      simp -implicitDefEqProofs (disch:=omega) only [Rx,simprocAttr,B117x1,k1,hg,ll,la,Attr.pv,e1,e9,os1,os2,ol1,ol2]
    · have hs:putA l to ⟨name,v⟩ (i+1)=putA l to ⟨name,v⟩ i++[a]:=by
        unfold putA
        by_cases e2:i+1≤to
        · rw [if_pos e2,if_pos (by omega),take_snoc ha]
        · rw [if_neg e2,if_neg (by omega),show i+1 - to=i - to+1 by omega]
          have hd:(l.drop to)[i - to]? = some a:=by rw [List.getElem?_drop,show to+(i - to)=i by omega];exact ha
          rw [take_snoc hd]
          simp
      have e1:((i:Int)==(to:Int))=false:=by simp;omega
      rw [hs]
      generalize putA l to ⟨name,v⟩ i=acc at hll
      have la:(acc.map Attr.pv).length=acc.length:=by simp
      have os1:acc.map Attr.pv++[[.str a.name,.str a.value]]=(acc++[a]).map Attr.pv:=by simp [Attr.pv]
      have ol1:((acc++[a]).map Attr.pv).length=acc.length+1:=by simp
      have ol3:(acc++[a]).length=acc.length+1:=by simp
      simp only [withS]
      rw [ol3]
      generalize acc++[a]=acc1 at os1 ol1
      simp -implicitDefEqProofs (disch:=omega) only [Rx,simprocAttr,B117x1,k1,hg,ll,la,Attr.pv,e1,e9,os1,ol1]
  · right
    obtain rfl:i=l.length:=by omega
    have k1:¬ (l.length:Int)<(l.length:Int):=by omega
    refine ⟨_, ?_, ?_,rfl⟩
    · simp only [withS,withE]
      simp -implicitDefEqProofs (disch:=omega) only [Rx,simprocAttr,B117x1,k1]
    · simp [withE]
theorem with09_run (l : List Attr) (name v : Bs) (hl : l.length ≤ 1048577) (hnl : name.length ≤ 1048577) (g : List AObj) {n : Nat} (hn : l.length < n) (hn2 : name.length < n) :
    acall T (n+2) 117 [.p (.list (l.map Attr.pv)),.p (.str name),.p (.str v)] g=some (.p (.list ((withA l name v).map Attr.pv)),g):=by
  have ll:(l.map Attr.pv).length=l.length:=by simp
  have hfi:=fun g=>find09_run l name hl g (n:=n) hn
  have hle:=le_loop l name v (findA l name) hl hnl (n:=n) hn2 (n+1) (by omega)
  simp only [Int.natCast_zero] at hle
  unfold withA
  rw [acall_code T117,run_pure rfl rfl rfl]
  by_cases hf:fstAt l name<l.length
  · rw [if_pos hf]
    have hfa:findA l name=(fstAt l name:Int):=by simp [findA,hf]
    have hlo:=with_found l name v (leAt l name) (fstAt l name) hl hf (fun a ha=>fstAt_hit ha rfl) (acall T (n+1)) (n+1) (by omega)
    rw [hfa] at hfi hle
    have hwl:(l.set (fstAt l name) ⟨name,v⟩).length≤1048577:=by simp;omega
    generalize l.set (fstAt l name) ⟨name,v⟩=w at hlo hwl
    have wl:(w.map Attr.pv).length=w.length:=by simp
    generalize fstAt l name=k at hfi hle hlo
    generalize leAt l name=to at hle hlo
    simp only [withS,withE,List.map_nil,List.length_nil,Int.natCast_zero] at hlo
    have k0:¬ (k:Int)<0:=by omega
    simp -implicitDefEqProofs (disch:=omega) only [Rx,simprocAttr,F117,hfi,hle,hlo,ll,wl,k0]
  · rw [if_neg hf]
    have hfa:findA l name = -1:=by simp [findA,hf]
    have hlo:=with_new l name v (leAt l name) hl (acall T (n+1)) (n+1) (by omega)
    rw [hfa] at hfi hle
    rw [leAt_pos hf] at hle hlo
    have hpl:posAt l name≤l.length:=List.findIdx_le_length
    generalize hto:posAt l name=to at hle hlo hpl
    have hacc:(putA l to ⟨name,v⟩ l.length).length≤1048579:=by
      unfold putA
      split
      · rw [List.length_take];omega
      · rw [List.length_append,List.length_cons,List.length_take,List.length_take,List.length_drop];omega
    by_cases e:to=l.length
    · have hr:l.take to++⟨name,v⟩::l.drop to=putA l to ⟨name,v⟩ l.length++[⟨name,v⟩]:=by
        subst e;simp [putA]
      rw [hr]
      generalize putA l to ⟨name,v⟩ l.length=acc at hlo hacc
      have la:(acc.map Attr.pv).length=acc.length:=by simp
      have os1:acc.map Attr.pv++[[.str name,.str v]]=(acc++[(⟨name,v⟩:Attr)]).map Attr.pv:=by simp [Attr.pv]
      have ol1:((acc++[(⟨name,v⟩:Attr)]).map Attr.pv).length=acc.length+1:=by simp
      generalize acc++[(⟨name,v⟩:Attr)]=acc1 at os1 ol1
      have e1:((to:Int)==(l.length:Int))=true:=by simp;omega
      simp only [withS,withE,List.map_nil,List.length_nil,Int.natCast_zero] at hlo
      simp -implicitDefEqProofs (disch:=omega) only [Rx,simprocAttr,F117,hfi,hle,hlo,ll,la,os1,ol1,e1]
    · have hr:l.take to++⟨name,v⟩::l.drop to=putA l to ⟨name,v⟩ l.length:=by
        unfold putA
        rw [if_neg (by omega),List.take_of_length_le (l:=l.drop to) (by rw [List.length_drop];omega)]
      rw [hr]
      generalize putA l to ⟨name,v⟩ l.length=acc at hlo hacc
      have la:(acc.map Attr.pv).length=acc.length:=by simp
      have e1:((to:Int)==(l.length:Int))=false:=by simp;omega
      simp only [withS,withE,List.map_nil,List.length_nil,Int.natCast_zero] at hlo
      simp -implicitDefEqProofs (disch:=omega) only [Rx,simprocAttr,F117,hfi,hle,hlo,ll,la,e1]
end Tryz
end Go.TA


end
section
/- Tags and names: what the document's answer says of them. -/
set_option maxRecDepth 100000
set_option maxHeartbeats 1000000
namespace Go.TA.Tryz
theorem inner_run (c : UInt8) (more : Bool) (g : List AObj) (n : Nat) : acall T (n + 1) 99 [.p (.int .u8 c.toNat), .p (.bool more)] g = some (.p (.bool (innerB more c)), g) := by
  rw [acall_code T99,run_pure rfl rfl rfl]
  by_cases h5:(c.toNat:Int)=45
  · simp -implicitDefEqProofs (disch:=omega) only [Rx,simprocAttr,F99,innerB,smallB,digitB,h5]
  have e5:((c.toNat:Int)==45)=false:=by simpa using h5
  by_cases h1:(97:Int)≤c.toNat
  · by_cases h2:(c.toNat:Int)≤122
    · simp -implicitDefEqProofs (disch:=omega) only [Rx,simprocAttr,F99,innerB,smallB,digitB,h1,h2]
    · have h3:(48:Int)≤c.toNat:=by omega
      have h4:¬ (c.toNat:Int)≤57:=by omega
      have e6:((c.toNat:Int)==58)=false:=by simp;omega
      have e7:((c.toNat:Int)==46)=false:=by simp;omega
      cases more
      · simp -implicitDefEqProofs (disch:=omega) only [Rx,simprocAttr,F99,innerB,smallB,digitB,h1,h2,h3,h4,e5,e6,e7]
      · simp -implicitDefEqProofs (disch:=omega) only [Rx,simprocAttr,F99,innerB,smallB,digitB,h1,h2,h3,h4,e5,e6,e7]
  · by_cases h3:(48:Int)≤c.toNat
    · by_cases h4:(c.toNat:Int)≤57
      · simp -implicitDefEqProofs (disch:=omega) only [Rx,simprocAttr,F99,innerB,smallB,digitB,h1,h3,h4]
      · have e7:((c.toNat:Int)==46)=false:=by simp;omega
        cases more
        · simp -implicitDefEqProofs (disch:=omega) only [Rx,simprocAttr,F99,innerB,smallB,digitB,h1,h3,h4,e5,e7]
        · by_cases h6:(c.toNat:Int)=58
          · simp -implicitDefEqProofs (disch:=omega) only [Rx,simprocAttr,F99,innerB,smallB,digitB,h6]
          · have e6:((c.toNat:Int)==58)=false:=by simpa using h6
            simp -implicitDefEqProofs (disch:=omega) only [Rx,simprocAttr,F99,innerB,smallB,digitB,h1,h3,h4,e5,e6,e7]
    · have e6:((c.toNat:Int)==58)=false:=by simp;omega
      cases more
      · simp -implicitDefEqProofs (disch:=omega) only [Rx,simprocAttr,F99,innerB,smallB,digitB,h1,h3,e5,e6]
      · by_cases h7:(c.toNat:Int)=46
        · simp -implicitDefEqProofs (disch:=omega) only [Rx,simprocAttr,F99,innerB,smallB,digitB,h7]
        · have e7:((c.toNat:Int)==46)=false:=by simpa using h7
          simp -implicitDefEqProofs (disch:=omega) only [Rx,simprocAttr,F99,innerB,smallB,digitB,h1,h3,e5,e6,e7]
theorem named02_loop {n N:Nat} (s:Bs) (more:Bool) (hs:s.length≤32) (hN:32<N) (i:Nat) (hi:i≤s.length) :
    aexec (acall T (n+1)) N (.loop B63x0) ⟨[(0,.p (.str s)),(1,.p (.bool more)),(5,.p (.int .i64 i))],[],[]⟩=some (outB ((s.drop i).all (innerB more))):=by
  refine loop_rule' (σ := Nat) (S:=fun i=>⟨[(0,.p (.str s)),(1,.p (.bool more)),(5,.p (.int .i64 i))],[],[]⟩) (I:=fun i=>i≤s.length) (μ := fun i=>s.length - i)
    (Φ := fun i=>outB ((s.drop i).all (innerB more))) ?_ i hi (by omega)
  intro i hi
  by_cases h:i<s.length
  · obtain ⟨c,hc⟩:=get_some h
    have hg:=getD_get hc
    have k1:(i:Int)<(s.length:Int):=by omega
    rw [drop_cons hc]
    cases hb:innerB more c with
    | true =>
      refine .inl ⟨i+1, ?_,by omega,by omega,by simp [hb]⟩
      simp -implicitDefEqProofs (disch:=omega) only [Rx,simprocAttr,B63x0,k1,hg,inner_run,hb]
    | false =>
      refine .inr ⟨?_,by simp [hb,outB]⟩
      have eF:outB ((c::s.drop (i+1)).all (innerB more))=(.ret,⟨[(4,.p (.bool false))],[],[]⟩):=by simp [outB,hb]
      rw [eF]
      simp -implicitDefEqProofs (disch:=omega) only [Rx,simprocAttr,B63x0,k1,hg,inner_run,hb]
  · refine .inr ⟨?_,by rw [List.drop_eq_nil_of_le (by omega)];simp [outB]⟩
    have k1:¬ (i:Int)<(s.length:Int):=by omega
    rw [List.drop_eq_nil_of_le (by omega)]
    simp -implicitDefEqProofs (disch:=omega) only [Rx,simprocAttr,B63x0,k1,outB]
theorem named02_run (s : Bs) (more : Bool) (g : List AObj) (n : Nat) : acall T (n + 35) 63 [.p (.str s), .p (.bool more)] g = some (.p (.bool (namedB more s)), g) := by
  rw [acall_code T63,run_pure rfl rfl rfl]
  cases s with
  | nil=>simp -implicitDefEqProofs (disch:=omega) only [Rx,simprocAttr,F63,namedB,Int.natCast_zero]
  | cons c r =>
    have k0:¬ ((r.length:Int)+1<1):=by omega
    by_cases h32:(c::r).length≤32
    · have k1:¬ (32<(r.length:Int)+1):=by simp at h32;omega
      have hl:=named02_loop (n:=n+33) (N:=n+34) (c::r) more h32 (by omega) 1 (by simp)
      simp only [Int.natCast_one] at hl
      by_cases h1:(97:Int)≤c.toNat
      · by_cases h2:(c.toNat:Int)≤122
        · have h1':¬ ((c.toNat:Int)<97):=by omega
          have h2':¬ (122<(c.toNat:Int)):=by omega
          have e:namedB more (c::r)=r.all (innerB more):=by simp [namedB,smallB,h1,h2];simp at h32;omega
          rw [e]
          cases hb:r.all (innerB more) with
          | true =>
            have hl':outB (((c::r).drop 1).all (innerB more))=(.exit 0,⟨[],[],[]⟩):=by simp [outB,hb]
            rw [hl'] at hl
            simp -implicitDefEqProofs (disch:=omega) only [Rx,simprocAttr,F63,k0,k1,h1',h2',hl]
          | false =>
            have hl':outB (((c::r).drop 1).all (innerB more))=(.ret,⟨[(4,.p (.bool false))],[],[]⟩):=by simp [outB,hb]
            rw [hl'] at hl
            simp -implicitDefEqProofs (disch:=omega) only [Rx,simprocAttr,F63,k0,k1,h1',h2',hl]
        · have h1':¬ ((c.toNat:Int)<97):=by omega
          have h2':122<(c.toNat:Int):=by omega
          have e:namedB more (c::r)=false:=by simp [namedB,smallB,h2]
          rw [e]
          simp -implicitDefEqProofs (disch:=omega) only [Rx,simprocAttr,F63,k0,k1,h1',h2']
      · have h1':(c.toNat:Int)<97:=by omega
        have e:namedB more (c::r)=false:=by simp [namedB,smallB,h1]
        rw [e]
        simp -implicitDefEqProofs (disch:=omega) only [Rx,simprocAttr,F63,k0,k1,h1']
    · have k1:32<(r.length:Int)+1:=by simp at h32;omega
      have e:namedB more (c::r)=false:=by simp [namedB];simp at h32;omega
      rw [e]
      simp -implicitDefEqProofs (disch:=omega) only [Rx,simprocAttr,F63,k0,k1]
end Go.TA.Tryz


end
section
/- What is wrong with attributes: the document's answer. -/
set_option maxRecDepth 100000
set_option maxHeartbeats 8000000
namespace Go.TA.Tryz
def attrErr (p : List Attr) (i : Nat) (a : Attr) : Int :=
  if i=64 then 12 else if namedB true a.name=false then 8 else if 65536<(a.value.length:Int) then 3 else match p with
    | []=>0
    | b::_=>if b.name=a.name then 10 else if 0<cmpB b.name a.name then 9 else 0
def attrsChk:List Attr→Nat→List Attr→Int × Int
 | _,_,[]=>(0,0)
 | p,i,a::l=>if attrErr p i a=0 then attrsChk [a] (i+1) l else (i,attrErr p i a)
def attrsErr (l:List Attr):Int:=(attrsChk [] 0 l).2
def prevOf (l:List Attr):Nat→List Attr
 | 0=>[]
 | i+1=>(l[i]?).toList
def chkOut (r:Int × Int):Ex × St:=if r.2=0 then (.exit 0,⟨[],[],[]⟩) else (.ret,⟨[(2,.p (.int .i64 r.1)),(3,.p (.int .i64 r.2))],[],[]⟩)
theorem chk_step {l:List Attr} {i:Nat} {a:Attr} (h:l[i]? = some a):attrsChk (prevOf l i) i (l.drop i)=if attrErr (prevOf l i) i a=0 then attrsChk (prevOf l (i+1)) (i+1) (l.drop (i+1)) else ((i:Int),attrErr (prevOf l i) i a):=by
 have e:prevOf l (i+1)=[a]:=by simp [prevOf,h]
 rw [drop_cons h,e]
 simp only [attrsChk]
theorem a09_loop {n N : Nat} (l : List Attr) (hs : smallAttrs l) (hN : l.length < N) (hn : 1048576 < n) :
    aexec (acall T (n+35)) N (.loop B64x0) ⟨[(0,.p (.list (l.map Attr.pv))),(6,.p (.int .i64 l.length)),(7,.p (.int .i64 ((0:Nat):Int)))],[],[]⟩=some (chkOut (attrsChk [] 0 l)):=by
  refine loop_rule' (C:=acall T (n+35)) (N:=N) (B:=B64x0) (σ := Nat) (S:=fun i=>⟨[(0,.p (.list (l.map Attr.pv))),(6,.p (.int .i64 l.length)),(7,.p (.int .i64 i))],[],[]⟩) (I:=fun i=>i≤l.length∧i≤64) (μ := fun i=>l.length - i)
    (Φ := fun i=>chkOut (attrsChk (prevOf l i) i (l.drop i))) ?_ 0 ⟨by omega,by omega⟩ (by omega)
  rintro i ⟨hi,hi64⟩
  by_cases h:i<l.length
  · have k1:(i:Int)<(l.length:Int):=by omega
    obtain ⟨a,ha⟩:=get_some h
    have ga:=getD_map (f:=Attr.pv) ha
    have hsa:=hs a (List.mem_of_getElem? ha)
    rw [chk_step ha]
    have bad:∀ e:Int,attrErr (prevOf l i) i a=e→e≠0→aexec (acall T (n+35)) N B64x0 ⟨[(0,.p (.list (l.map Attr.pv))),(6,.p (.int .i64 l.length)),(7,.p (.int .i64 i))],[],[]⟩=some (.ret,⟨[(2,.p (.int .i64 i)),(3,.p (.int .i64 e))],[],[]⟩) →
        (∃ s',aexec (acall T (n+35)) N B64x0 ⟨[(0,.p (.list (l.map Attr.pv))),(6,.p (.int .i64 l.length)),(7,.p (.int .i64 i))],[],[]⟩=some (.normal,(fun (i:Nat)=>(⟨[(0,.p (.list (l.map Attr.pv))),(6,.p (.int .i64 l.length)),(7,.p (.int .i64 i))],[],[]⟩:St)) s')∧(s'≤l.length∧s'≤64)∧l.length - s'<l.length - i∧chkOut (if attrErr (prevOf l i) i a=0 then attrsChk (prevOf l (i+1)) (i+1) (l.drop (i+1)) else ((i:Int),attrErr (prevOf l i) i a))=chkOut (attrsChk (prevOf l s') s' (l.drop s'))) ∨
        (aexec (acall T (n+35)) N B64x0 ⟨[(0,.p (.list (l.map Attr.pv))),(6,.p (.int .i64 l.length)),(7,.p (.int .i64 i))],[],[]⟩=some (chkOut (if attrErr (prevOf l i) i a=0 then attrsChk (prevOf l (i+1)) (i+1) (l.drop (i+1)) else ((i:Int),attrErr (prevOf l i) i a)))∧(chkOut (if attrErr (prevOf l i) i a=0 then attrsChk (prevOf l (i+1)) (i+1) (l.drop (i+1)) else ((i:Int),attrErr (prevOf l i) i a))).1 ≠ .normal):=fun e he h0 hr=>by
      refine .inr ?_
      rw [he,if_neg h0]
      simp only [chkOut,h0,if_false]
      exact ⟨hr,by simp⟩
    by_cases h64:i=64
    · refine bad 12 (by simp [attrErr,h64]) (by decide) ?_
      have k2:((i:Int)==64)=true:=by simp;omega
      simp -implicitDefEqProofs (disch:=omega) only [Rx,simprocAttr,B64x0,k1,k2]
    have k2:((i:Int)==64)=false:=by simp;omega
    cases hnm:namedB true a.name with
    | false =>
      refine bad 8 (by simp [attrErr,h64,hnm]) (by decide) ?_
      simp -implicitDefEqProofs (disch:=omega) only [Rx,simprocAttr,B64x0,k1,k2,ga,Attr.pv,named02_run,hnm]
    | true=>
    by_cases hlong:65536<(a.value.length:Int)
    · refine bad 3 (by simp [attrErr,h64,hnm,hlong]) (by decide) ?_
      simp -implicitDefEqProofs (disch:=omega) only [Rx,simprocAttr,B64x0,k1,k2,ga,Attr.pv,named02_run,hnm,hlong]
    cases i with
    | zero =>
      have e:attrErr (prevOf l 0) 0 a=0:=by simp [attrErr,hnm,hlong,prevOf]
      rw [e,if_pos rfl]
      refine .inl ⟨1, ?_,⟨by omega,by omega⟩,by omega,rfl⟩
      simp only [Int.natCast_zero,Int.natCast_one] at k1 k2 ⊢
      have k3:(0:Int)<(l.length:Int):=k1
      have ga0:(l.map Attr.pv).getD 0 []=Attr.pv a:=ga
      have e0:Int.toNat 0=0:=rfl
      simp -implicitDefEqProofs (disch:=omega) only [Rx,simprocAttr,B64x0,k3,ga0,e0,Attr.pv,named02_run,hnm,hlong]
    | succ j =>
      obtain ⟨b,hb⟩:=get_some (show j<l.length by omega)
      have gb:=getD_map (f:=Attr.pv) hb
      have hsb:=hs b (List.mem_of_getElem? hb)
      have ep:prevOf l (j+1)=[b]:=by simp [prevOf,hb]
      have k3:(0:Int)<(j:Int)+1:=by omega
      have k4:(j:Int)<(l.length:Int):=by omega
      simp only [Int.natCast_add,Int.natCast_one] at k1 k2
      have k5:((j:Int)+1).toNat=j+1:=by omega
      have hc:=fun g=>cmp_run (n:=n+34) b.name a.name g (by omega) (by omega)
      by_cases heq:b.name=a.name
      · refine bad 10 (by simp [attrErr,h64,hnm,hlong,ep,heq]) (by decide) ?_
        have heq':(b.name==a.name)=true:=by simpa using heq
        simp -implicitDefEqProofs (disch:=omega) only [Rx,simprocAttr,B64x0,k1,k2,k3,k4,k5,ga,gb,Attr.pv,named02_run,hnm,hlong,heq']
      · have heq':(b.name==a.name)=false:=by simpa using heq
        by_cases hgt:0<cmpB b.name a.name
        · refine bad 9 (by simp [attrErr,h64,hnm,hlong,ep,heq,hgt]) (by decide) ?_
          simp -implicitDefEqProofs (disch:=omega) only [Rx,simprocAttr,B64x0,k1,k2,k3,k4,k5,ga,gb,Attr.pv,named02_run,hnm,hlong,heq',hc,hgt]
        · have e:attrErr (prevOf l (j+1)) (j+1) a=0:=by simp [attrErr,h64,hnm,hlong,ep,heq,hgt]
          rw [e,if_pos rfl]
          refine .inl ⟨j+1+1, ?_,⟨by omega,by omega⟩,by omega,rfl⟩
          simp -implicitDefEqProofs (disch:=omega) only [Rx,simprocAttr,B64x0,k1,k2,k3,k4,k5,ga,gb,Attr.pv,named02_run,hnm,hlong,heq',hc,hgt]
  · have k1:¬ (i:Int)<(l.length:Int):=by omega
    have e:l.drop i=[]:=List.drop_eq_nil_of_le (by omega)
    refine .inr ⟨?_,by rw [e];simp [attrsChk,chkOut]⟩
    rw [e]
    simp -implicitDefEqProofs (disch:=omega) only [Rx,simprocAttr,B64x0,k1,attrsChk,chkOut]
theorem a09_run (l : List Attr) (hs : smallAttrs l) (g : List AObj) {n : Nat} (hl : l.length < n + 35) (hn : 1048576 < n) : acall T (n + 36) 64 [.p (.list (l.map Attr.pv))] g = some (.tuple [.p (.int .i64 (attrsChk [] 0 l).1), .p (.int .i64 (attrsErr l))], g) := by
  rw [acall_code T64,run_pure rfl rfl rfl]
  have hloop:=a09_loop (n:=n) (N:=n+35) l hs hl hn
  simp only [Int.natCast_zero] at hloop
  unfold attrsErr
  have h1:(attrsChk [] 0 l).2=0→(attrsChk [] 0 l).1=0:=by
    have key:∀ (p:List Attr) (i:Nat) (l:List Attr),(attrsChk p i l).2=0→(attrsChk p i l).1=0:=by
      intro p i l
      induction l generalizing p i with
      | nil=>simp [attrsChk]
      | cons a l ih =>
        simp only [attrsChk]
        split
        · exact ih _ _
        · rename_i h;intro h';exact absurd h' h
    exact key [] 0 l
  generalize attrsChk [] 0 l=r at hloop h1
  obtain ⟨x,e⟩:=r
  simp only [chkOut] at hloop h1 ⊢
  by_cases h:e=0
  · rw [if_pos h] at hloop
    rw [h1 h,h]
    simp -implicitDefEqProofs (disch:=omega) only [Rx,simprocAttr,F64,hloop]
  · rw [if_neg h] at hloop
    simp -implicitDefEqProofs (disch:=omega) only [Rx,simprocAttr,F64,hloop]
end Go.TA.Tryz


end
section
/- The document's answer: a node's attributes and text; a node is made. -/
set_option maxRecDepth 100000
set_option maxHeartbeats 8000000
namespace Go.TA
def nodeM (S:MS) (h:Nat) (s:MNode):MS:=⟨S.N,upd S.st h s,S.kd⟩
theorem liveL_node {S:MS} {h:Nat} {s:MNode} (hs:s.live=(S.st h).live):liveL (nodeM S h s)=liveL S:=liveL_congr rfl (fun k=>by
 simp only [nodeM]
 by_cases e:k=h
 ·subst e;rw [upd_at,hs]
 ·rw [upd_ne e])
namespace Tryz
def setD (S:MS) (id:Int) (name v:Bs):Int × MS :=
 if fitE S id≠0 then (fitE S id,S) else if namedB true name=false then (8,S) else if 65536<(v.length:Int) then (3,S)
 else if 64<((withA (S.st id.toNat).attrs name v).length:Int) then (12,S) else (0,setM S id.toNat (withA (S.st id.toNat).attrs name v))
def delD (S:MS) (id:Int) (name:Bs):Int × MS :=
 if fitE S id≠0 then (fitE S id,S)
 else if (withoutA (S.st id.toNat).attrs name).length<(S.st id.toNat).attrs.length then (0,setM S id.toNat (withoutA (S.st id.toNat).attrs name)) else (8,S)
def textD (S:MS) (id:Int) (s:Bs):Int × MS :=
 if fitE S id≠0 then (fitE S id,S) else if 65536<(s.length:Int) then (3,S) else (0,textM S id.toNat s)
def createErr (N:Nat) (x:GOp):Int:=if namedB false x.tag=false then 7 else if 65536<(x.key.length:Int)∨65536<(x.text.length:Int) then 3 else if attrsErr x.attrs≠0 then attrsErr x.attrs else if 4294967295<(N:Int) then 21 else 0
theorem named_len {more:Bool} {s:Bs} (h:namedB more s=true):s.length≤32:=by
 unfold namedB at h
 split at h
 ·cases h
 ·simp only [Bool.and_eq_true,decide_eq_true_eq] at h
  simp_all
section
variable {R:Nat} {S:MS} {av:Nat→AV} {p q:Nat} {g:List AObj} {nx:Int}
theorem textD_run (hD:DM (liveL S) S.st S.kd nx av p q g) (hL:(liveL S).length≤4194304) (id:Int) (s:Bs) {n:Nat} (hn:(liveL S).length<n) :
  ∃ g',acall T (n+3) 89 [DP p,.p (.int .i64 id),.p (.str s)] g=some (.p (.int .i64 (textD S id s).1),g')∧DM (liveL (textD S id s).2) (textD S id s).2.st (textD S id s).2.kd nx av p q g'∧DFr (liveL S) av p q g (liveL (textD S id s).2) av q g':=by
 obtain ⟨o,ho,hrep⟩:=hD.core.row
 have hob:=hD.core.obj
 have hix:=fun s i=>hrep.idx rowsD_len s true q i
 have hno:=noneD_run hD.core hL id (n:=n) (by omega)
 unfold textD
 by_cases hf:fitE S id≠0
 ·rw [if_pos hf]
  have e1:(fitE S id==0)=false:=by simpa using hf
  refine ⟨g, ?_,hD,DFr.refl _ _ _ _ _⟩
  rw [acall_code T89,run_code rfl rfl]
  generalize fitE S id=e at hno e1 ⊢
  simp -implicitDefEqProofs (disch:=omega) only [Rx,simprocAttr,F89,hno,e1]
 rw [if_neg hf]
 obtain ⟨c,rfl,hcL,hc0⟩:=fit_live hf
 simp only [ne_eq,Decidable.not_not] at hf
 rw [hf] at hno
 by_cases hl:65536<(s.length:Int)
 ·rw [if_pos hl]
  have e1:(s.length:Int) > 65536:=hl
  refine ⟨g, ?_,hD,DFr.refl _ _ _ _ _⟩
  rw [acall_code T89,run_code rfl rfl]
  simp -implicitDefEqProofs (disch:=omega) only [Rx,simprocAttr,F89,hno,e1]
 rw [if_neg hl]
 have e1:¬ (s.length:Int) > 65536:=hl
 obtain ⟨ic,hpc,hic⟩:=posL_in hcL
 have hat1:=at_run hD.core hL (c:Int) (n:=n+1) (by omega)
 rw [hpc] at hat1
 have lc:=(List.getElem?_eq_some_iff.1 hic).1
 have kc:(ic:Int)<((liveL S).length:Int):=by omega
 obtain ⟨o',hw,hr'⟩:=wr_node hrep hic (j:=5) (by omega) (.p (.str s))
 have e3:(rowsD (liveL S) S.st av).set ic ((nAV c (S.st c) (av c)).set 5 (.p (.str s)))=rowsD (liveL S) (upd S.st c { S.st c with text:=s }) av:=by
  rw [← rows_node hD.core.nodup hic];rfl
 rw [e3] at hr'
 have hlv:liveL (textM S c s)=liveL S:=liveL_node (S:=S) (h:=c) (s:={ S.st c with text:=s }) rfl
 simp only [Int.toNat_natCast]
 refine ⟨g.set q o', ?_,by rw [hlv];exact hD.node _ hr',by rw [hlv];exact DFr.node o'⟩
 rw [acall_code T89,run_code rfl rfl]
 simp -implicitDefEqProofs (disch:=omega) only [Rx,simprocAttr,F89,hno,e1,hat1,hob,ho,hix,hw]
theorem setD_run (hS:S.Ok R) (hD:DM (liveL S) S.st S.kd nx av p q g) (hL:(liveL S).length≤4194304) (id:Int) (name v:Bs) {n:Nat} (hn:(liveL S).length<n) (hn2:1048577<n) :
  ∃ g',acall T (n+36) 87 [DP p,.p (.int .i64 id),.p (.str name),.p (.str v)] g=some (.p (.int .i64 (setD S id name v).1),g')∧DM (liveL (setD S id name v).2) (setD S id name v).2.st (setD S id name v).2.kd nx av p q g'∧DFr (liveL S) av p q g (liveL (setD S id name v).2) av q g':=by
 obtain ⟨o,ho,hrep⟩:=hD.core.row
 have hob:=hD.core.obj
 have hix:=fun s i=>hrep.idx rowsD_len s true q i
 have hno:=noneD_run hD.core hL id (n:=n+33) (by omega)
 unfold setD
 by_cases hf:fitE S id≠0
 ·rw [if_pos hf]
  have e1:(fitE S id==0)=false:=by simpa using hf
  refine ⟨g, ?_,hD,DFr.refl _ _ _ _ _⟩
  rw [acall_code T87,run_code rfl rfl]
  generalize fitE S id=e at hno e1 ⊢
  simp -implicitDefEqProofs (disch:=omega) only [Rx,simprocAttr,F87,hno,e1]
 rw [if_neg hf]
 obtain ⟨c,rfl,hcL,hc0⟩:=fit_live hf
 simp only [ne_eq,Decidable.not_not] at hf
 rw [hf] at hno
 have hnm:=fun g=>named02_run name true g n
 by_cases hm:namedB true name=false
 ·rw [if_pos hm]
  rw [hm] at hnm
  refine ⟨g, ?_,hD,DFr.refl _ _ _ _ _⟩
  rw [acall_code T87,run_code rfl rfl]
  simp -implicitDefEqProofs (disch:=omega) only [Rx,simprocAttr,F87,hno,hnm]
 rw [if_neg hm]
 simp only [Bool.not_eq_false] at hm
 have hnl:=named_len hm
 rw [hm] at hnm
 by_cases hl:65536<(v.length:Int)
 ·rw [if_pos hl]
  have e1:(v.length:Int) > 65536:=hl
  refine ⟨g, ?_,hD,DFr.refl _ _ _ _ _⟩
  rw [acall_code T87,run_code rfl rfl]
  simp -implicitDefEqProofs (disch:=omega) only [Rx,simprocAttr,F87,hno,hnm,e1]
 rw [if_neg hl]
 have e1:¬ (v.length:Int) > 65536:=hl
 obtain ⟨ic,hpc,hic⟩:=posL_in hcL
 have hat1:=at_run hD.core hL (c:Int) (n:=n+34) (by omega)
 rw [hpc] at hat1
 have lc:=(List.getElem?_eq_some_iff.1 hic).1
 have kc:(ic:Int)<((liveL S).length:Int):=by omega
 have rdc:=rd_node hrep hic (j:=6) (by omega)
 simp only [nAV] at rdc
 obtain ⟨hcN,hcl⟩:=mem_liveL.1 hcL
 have hal:=hS.attrs c hcN
 have hwi:=fun g=>with09_run (S.st c).attrs name v hal (by omega) g (n:=n+33) (by omega) (by omega)
 simp only [Int.toNat_natCast]
 generalize hwa:withA (S.st c).attrs name v=w at hwi
 have wl:(w.map Attr.pv).length=w.length:=by simp
 by_cases h64:64<(w.length:Int)
 ·rw [if_pos h64]
  have k64:(w.length:Int) > 64:=h64
  refine ⟨g, ?_,hD,DFr.refl _ _ _ _ _⟩
  rw [acall_code T87,run_code rfl rfl]
  simp -implicitDefEqProofs (disch:=omega) only [Rx,simprocAttr,F87,hno,hnm,e1,hat1,hob,ho,hix,rdc,hwi,wl,k64]
 rw [if_neg h64]
 have k64:¬ (w.length:Int) > 64:=h64
 obtain ⟨o',hw,hr'⟩:=wr_node hrep hic (j:=6) (by omega) (.p (.list (w.map Attr.pv)))
 have e3:(rowsD (liveL S) S.st av).set ic ((nAV c (S.st c) (av c)).set 6 (.p (.list (w.map Attr.pv))))=rowsD (liveL S) (upd S.st c { S.st c with attrs:=w }) av:=by
  rw [← rows_node hD.core.nodup hic];rfl
 rw [e3] at hr'
 have hlv:liveL (setM S c w)=liveL S:=liveL_node (S:=S) (h:=c) (s:={ S.st c with attrs:=w }) rfl
 refine ⟨g.set q o', ?_,by rw [hlv];exact hD.node _ hr',by rw [hlv];exact DFr.node o'⟩
 rw [acall_code T87,run_code rfl rfl]
 simp -implicitDefEqProofs (disch:=omega) only [Rx,simprocAttr,F87,hno,hnm,e1,hat1,hob,ho,hix,rdc,hwi,wl,k64,hw]
theorem delD_run (hS:S.Ok R) (hD:DM (liveL S) S.st S.kd nx av p q g) (hL:(liveL S).length≤4194304) (id:Int) (name:Bs) {n:Nat} (hn:(liveL S).length<n) (hn2:1048577<n) :
  ∃ g',acall T (n+3) 88 [DP p,.p (.int .i64 id),.p (.str name)] g=some (.p (.int .i64 (delD S id name).1),g')∧DM (liveL (delD S id name).2) (delD S id name).2.st (delD S id name).2.kd nx av p q g'∧DFr (liveL S) av p q g (liveL (delD S id name).2) av q g':=by
 obtain ⟨o,ho,hrep⟩:=hD.core.row
 have hob:=hD.core.obj
 have hix:=fun s i=>hrep.idx rowsD_len s true q i
 have hno:=noneD_run hD.core hL id (n:=n) (by omega)
 unfold delD
 by_cases hf:fitE S id≠0
 ·rw [if_pos hf]
  have e1:(fitE S id==0)=false:=by simpa using hf
  refine ⟨g, ?_,hD,DFr.refl _ _ _ _ _⟩
  rw [acall_code T88,run_code rfl rfl]
  generalize fitE S id=e at hno e1 ⊢
  simp -implicitDefEqProofs (disch:=omega) only [Rx,simprocAttr,F88,hno,e1]
 rw [if_neg hf]
 obtain ⟨c,rfl,hcL,hc0⟩:=fit_live hf
 simp only [ne_eq,Decidable.not_not] at hf
 rw [hf] at hno
 obtain ⟨ic,hpc,hic⟩:=posL_in hcL
 have hat1:=at_run hD.core hL (c:Int) (n:=n+1) (by omega)
 rw [hpc] at hat1
 have lc:=(List.getElem?_eq_some_iff.1 hic).1
 have kc:(ic:Int)<((liveL S).length:Int):=by omega
 have rdc:=rd_node hrep hic (j:=6) (by omega)
 simp only [nAV] at rdc
 obtain ⟨hcN,hcl⟩:=mem_liveL.1 hcL
 have hal:=hS.attrs c hcN
 have hwi:=fun g=>without09_run (S.st c).attrs name hal g (n:=n+1) (by omega)
 simp only [Int.toNat_natCast]
 generalize hwa:withoutA (S.st c).attrs name=w at hwi
 have wl:(w.map Attr.pv).length=w.length:=by simp
 by_cases hlt:w.length<(S.st c).attrs.length
 rotate_left
 ·rw [if_neg hlt]
  have ed:decide (w.length<(S.st c).attrs.length)=false:=by simpa using hlt
  rw [ed] at hwi
  refine ⟨g, ?_,hD,DFr.refl _ _ _ _ _⟩
  rw [acall_code T88,run_code rfl rfl]
  simp -implicitDefEqProofs (disch:=omega) only [Rx,simprocAttr,F88,hno,hat1,hob,ho,hix,rdc,hwi]
 rw [if_pos hlt]
 have ed:decide (w.length<(S.st c).attrs.length)=true:=by simpa using hlt
 rw [ed] at hwi
 obtain ⟨o',hw,hr'⟩:=wr_node hrep hic (j:=6) (by omega) (.p (.list (w.map Attr.pv)))
 have e3:(rowsD (liveL S) S.st av).set ic ((nAV c (S.st c) (av c)).set 6 (.p (.list (w.map Attr.pv))))=rowsD (liveL S) (upd S.st c { S.st c with attrs:=w }) av:=by
  rw [← rows_node hD.core.nodup hic];rfl
 rw [e3] at hr'
 have hlv:liveL (setM S c w)=liveL S:=liveL_node (S:=S) (h:=c) (s:={ S.st c with attrs:=w }) rfl
 refine ⟨g.set q o', ?_,by rw [hlv];exact hD.node _ hr',by rw [hlv];exact DFr.node o'⟩
 rw [acall_code T88,run_code rfl rfl]
 simp -implicitDefEqProofs (disch:=omega) only [Rx,simprocAttr,F88,hno,hat1,hob,ho,hix,rdc,hwi,hw]
end
end Tryz
end Go.TA


end
section
/- The document's answer: a node is made; any operation. -/
set_option maxRecDepth 100000
set_option maxHeartbeats 8000000
namespace Go.TA
theorem liveL_create (S:MS) (x:GOp):liveL (S.create x)=liveL S++[S.N]:=by
 unfold liveL
 simp only [MS.create,List.range_succ,List.filter_append,List.filter_cons,List.filter_nil,upd_at,if_true]
 congr 1
 refine List.filter_congr fun k hk => ?_
 have:=List.mem_range.1 hk
 rw [upd_ne (by omega)]
theorem DM.push {L : List Nat} {st : Nat → MNode} {kd : Nat → List Int} {nx : Int} {av : Nat → AV} {p q : Nat} {g : List AObj} (h : DM L st kd nx av p q g) {N : Nat} (hN : N ∉ L) (s : MNode) (nx' : Int) {o' : AObj} (hr : RowRep 7 (rowsD (L ++ [N]) (upd st N s) (upd av N .nils)) o') : DM (L ++ [N]) (upd st N s) (upd kd N []) nx' (upd av N .nils) p q ((g.set q o').set p (.cells 2 [[.own true q (L.length + 1), .p (.int .i64 nx')]])) := by
  have hp:=(List.getElem?_eq_some_iff.1 h.core.obj).1
  obtain ⟨o,ho,_⟩:=h.core.row
  have hq:=(List.getElem?_eq_some_iff.1 ho).1
  have hmem:∀ k,k ∈ L++[N]→k=N∨(k ∈ L∧k≠N):=fun k hk=>by
    rcases List.mem_append.1 hk with h1 | h1
    · exact .inr ⟨h1,fun e=>hN (e ▸ h1)⟩
    · simp at h1;exact .inl h1
  refine ⟨⟨?_,⟨o', ?_,hr⟩,h.core.pq, ?_⟩,fun k hk => ?_,fun k hk => ?_,fun k k' hk hk' hne => ?_⟩
  · rw [List.getElem?_set,if_pos rfl,if_pos (by rw [List.length_set];exact hp)];simp
  · rw [List.getElem?_set,if_neg h.core.pq,List.getElem?_set,if_pos rfl,if_pos hq]
  · rw [List.nodup_append]
    refine ⟨h.core.nodup,by simp,fun a ha b hb e => ?_⟩
    simp at hb;subst hb;subst e;exact hN ha
  · rcases hmem k hk with rfl | ⟨h1,h2⟩
    · rw [upd_at,upd_at];exact .none
    · rw [upd_ne h2,upd_ne h2]
      refine (h.kids k h1).keep fun r hr => ?_
      rw [List.getElem?_set,if_neg (fun e=>(h.away k h1).1 (by rw [e];exact hr)),List.getElem?_set,if_neg (fun e=>(h.away k h1).2 (by rw [e];exact hr))]
  · rcases hmem k hk with rfl | ⟨h1,h2⟩
    · rw [upd_at];simp [refOf]
    · rw [upd_ne h2];exact h.away k h1
  · rcases hmem k hk with rfl | ⟨h1,h2⟩
    · left;rw [upd_at];rfl
    · rw [upd_ne h2]
      rcases hmem k' hk' with rfl | ⟨h3,h4⟩
      · rw [upd_at]
        cases hr:refOf (av k) with
        | none=>exact .inl rfl
        | some q=>exact .inr (by simp [refOf])
      · rw [upd_ne h4];exact h.disj k k' h1 h3 hne
theorem DFr.push {L:List Nat} {av:Nat→AV} {p q:Nat} {g:List AObj} {N:Nat} (hN:N ∉ L) (o o':AObj):DFr L av p q g (L++[N]) (upd av N .nils) q ((g.set q o).set p o') where
 len:=by simp
 keep j hj hp hq hn:=by rw [List.getElem?_set,if_neg (fun e=>hp e.symm),List.getElem?_set,if_neg (fun e=>hq e.symm)]
 row:=.inl rfl
 refs k hk j hj _:=by
  rcases List.mem_append.1 hk with h1 | h1
  ·have:k≠N:=fun e=>hN (e ▸ h1)
   rw [upd_ne this] at hj;exact ⟨k,h1,hj⟩
  ·simp at h1;subst h1;rw [upd_at] at hj;cases hj
namespace Tryz
noncomputable def doD (S:MS) (x:GOp):Int × Int × MS :=
 if x.kind=1 then (if createErr S.N x=0 then ((S.N:Int),0,S.create x) else (0,createErr S.N x,S))
 else if x.kind=2 then (0,insertD S x.node x.up x.before)
 else if x.kind=3 then (0,moveD S x.node x.before)
 else if x.kind=4 then (0,removeD S x.node)
 else if x.kind=5 then (0,setD S x.node x.name x.text)
 else if x.kind=6 then (0,delD S x.node x.name)
 else if x.kind=7 then (0,textD S x.node x.text)
 else (0,0,S)
section
variable {R:Nat} {S:MS} {av:Nat→AV} {p q:Nat} {g:List AObj}
theorem createD_run (hD:DM (liveL S) S.st S.kd S.N av p q g) (hL:(liveL S).length≤4194304) (x:GOp) (hs:smallAttrs x.attrs) {n:Nat} (hn:x.attrs.length<n) (hn2:1048576<n) :
    ∃ av' g', acall T (n + 37) 83 [DP p, .p (.str x.tag), .p (.str x.key), .p (.str x.text), .p (.list (x.attrs.map Attr.pv))] g = some (if createErr S.N x = 0 then .tuple [.p (.int .i64 S.N), .p (.int .i64 0)] else .tuple [.p (.int .i64 0), .p (.int .i64 (createErr S.N x))], g')
      ∧ DM (liveL (if createErr S.N x=0 then S.create x else S)) (if createErr S.N x=0 then S.create x else S).st (if createErr S.N x=0 then S.create x else S).kd (if createErr S.N x=0 then S.create x else S).N av' p q g'∧DFr (liveL S) av p q g (liveL (if createErr S.N x=0 then S.create x else S)) av' q g':=by
  obtain ⟨o,ho,hrep⟩:=hD.core.row
  have hob:=hD.core.obj
  have hnm:=fun g=>named02_run x.tag false g (n+1)
  have hat:=fun g=>a09_run x.attrs hs g (n:=n) (by omega) hn2
  have bad:∀ e:Int,createErr S.N x=e→e≠0→acall T (n+37) 83 [DP p,.p (.str x.tag),.p (.str x.key),.p (.str x.text),.p (.list (x.attrs.map Attr.pv))] g=some (.tuple [.p (.int .i64 0),.p (.int .i64 e)],g) →
      ∃ av' g',acall T (n+37) 83 [DP p,.p (.str x.tag),.p (.str x.key),.p (.str x.text),.p (.list (x.attrs.map Attr.pv))] g=some (if createErr S.N x=0 then .tuple [.p (.int .i64 S.N),.p (.int .i64 0)] else .tuple [.p (.int .i64 0),.p (.int .i64 (createErr S.N x))],g')
      ∧ DM (liveL (if createErr S.N x=0 then S.create x else S)) (if createErr S.N x=0 then S.create x else S).st (if createErr S.N x=0 then S.create x else S).kd (if createErr S.N x=0 then S.create x else S).N av' p q g'∧DFr (liveL S) av p q g (liveL (if createErr S.N x=0 then S.create x else S)) av' q g':=fun e he hne hr=>by
    rw [he,if_neg hne,if_neg hne]
    exact ⟨av,g,hr,hD,DFr.refl _ _ _ _ _⟩
  by_cases h7:namedB false x.tag=false
  · refine bad 7 (by simp [createErr,h7]) (by decide) ?_
    rw [h7] at hnm
    rw [acall_code T83,run_code rfl rfl]
    simp -implicitDefEqProofs (disch:=omega) only [Rx,simprocAttr,F83,hnm]
  simp only [Bool.not_eq_false] at h7
  rw [h7] at hnm
  by_cases h3:65536<(x.key.length:Int)
  · refine bad 3 (by simp only [createErr,h7,Bool.true_eq_false,if_false,if_pos (Or.inl h3:65536<(x.key.length:Int)∨65536<(x.text.length:Int))]) (by decide) ?_
    have k3:(x.key.length:Int) > 65536:=h3
    rw [acall_code T83,run_code rfl rfl]
    simp -implicitDefEqProofs (disch:=omega) only [Rx,simprocAttr,F83,hnm,k3]
  have k3:¬ (x.key.length:Int) > 65536:=h3
  by_cases h4:65536<(x.text.length:Int)
  · refine bad 3 (by simp only [createErr,h7,Bool.true_eq_false,if_false,if_pos (Or.inr h4:65536<(x.key.length:Int)∨65536<(x.text.length:Int))]) (by decide) ?_
    have k4:(x.text.length:Int) > 65536:=h4
    rw [acall_code T83,run_code rfl rfl]
    simp -implicitDefEqProofs (disch:=omega) only [Rx,simprocAttr,F83,hnm,k3,k4]
  have k4:¬ (x.text.length:Int) > 65536:=h4
  have h34:¬ (65536<(x.key.length:Int)∨65536<(x.text.length:Int)):=fun h=>h.elim h3 h4
  by_cases h5:attrsErr x.attrs≠0
  · refine bad (attrsErr x.attrs) (by simp only [createErr,h7,Bool.true_eq_false,if_false,if_neg h34,if_pos h5]) h5 ?_
    have k5:(attrsErr x.attrs==0)=false:=by simpa using h5
    generalize attrsErr x.attrs=e at hat k5
    rw [acall_code T83,run_code rfl rfl]
    simp -implicitDefEqProofs (disch:=omega) only [Rx,simprocAttr,F83,hnm,k3,k4,hat,k5]
  simp only [ne_eq,Decidable.not_not] at h5
  rw [h5] at hat
  by_cases h6:4294967295<(S.N:Int)
  · refine bad 21 (by simp only [createErr,h7,Bool.true_eq_false,if_false,if_neg h34,h5,ne_eq,not_true_eq_false,if_pos h6]) (by decide) ?_
    have k6:(S.N:Int) > 4294967295:=h6
    rw [acall_code T83,run_code rfl rfl]
    simp -implicitDefEqProofs (disch:=omega) only [Rx,simprocAttr,F83,hnm,k3,k4,hat,hob,k6]
  have k6:¬ (S.N:Int) > 4294967295:=h6
  have hz:createErr S.N x=0:=by simp only [createErr,h7,Bool.true_eq_false,if_false,if_neg h34,h5,ne_eq,not_true_eq_false,if_neg h6]
  rw [hz,if_pos rfl,if_pos rfl]
  have hNL:S.N ∉ liveL S:=fun h=>by have:=(mem_liveL.1 h).1;omega
  obtain ⟨o',happ,hr'⟩:=hrep.app (bytes:=112) rowsD_len (by omega) (c:=nAV S.N ⟨true, -1,x.tag,x.key,x.text,x.attrs⟩ .nils) rfl rfl
  rw [rowsD_push hNL] at hr'
  have hDp:=hD.push hNL ⟨true, -1,x.tag,x.key,x.text,x.attrs⟩ ((S.N:Int)+1) hr'
  have hFp:=DFr.push (av:=av) (p:=p) (q:=q) (g:=g) hNL o' (.cells 2 [[.own true q ((liveL S).length+1),.p (.int .i64 ((S.N:Int)+1))]])
  refine ⟨upd av S.N .nils,_, ?_,by rw [liveL_create];exact hDp,by rw [liveL_create];exact hFp⟩
  have hpl:=(List.getElem?_eq_some_iff.1 hob).1
  have hob2:(g.set q o')[p]? = some (.cells 2 [[.own true q (liveL S).length,.p (.int .i64 S.N)]]):=by
    rw [List.getElem?_set,if_neg (fun e=>hD.core.pq e.symm)];exact hob
  have hA:∀ X:AObj,((g.set q o').set p X)[p]? = some X:=fun X=>by rw [List.getElem?_set,if_pos rfl,if_pos (by rw [List.length_set];exact hpl)]
  have hss:∀ X Y:AObj,((g.set q o').set p X).set p Y=(g.set q o').set p Y:=fun X Y=>by simp
  have e9:(S.N:Int)+1 - 1=S.N:=by omega
  generalize hG:g.set q o'=G at hob2 hA hss
  simp only [nAV,List.map_nil] at happ
  rw [acall_code T83,run_code rfl rfl]
  simp -implicitDefEqProofs (disch:=omega) only [Rx,simprocAttr,F83,hnm,k3,k4,hat,hob,ho,k6,happ,hG,hob2,hA,hss,e9]
end
end Tryz
end Go.TA


end
section
/- The machine of rows. Plain. -/
namespace Go.TA
def S0 (l:List GRow):MS:=⟨l.length+1,st0 l,kd0 l l.length⟩
theorem mem_kd0 {l:List GRow} {i h:Nat} {k:Int}:k ∈ kd0 l i h↔∃ j x,j<i∧l[j]? = some x∧x.up=(h:Int)∧k=(j:Int)+1:=by
  simp only [kd0,List.mem_map,List.mem_filter,List.mem_range]
  constructor
  · rintro ⟨j,⟨h1,h2⟩,rfl⟩
    cases hx:l[j]? with
    | none=>rw [hx] at h2;simp at h2
    | some x =>
      rw [hx] at h2
      exact ⟨j,x,h1,hx,by simpa using h2,rfl⟩
  · rintro ⟨j,x,h1,h2,h3,rfl⟩
    exact ⟨j,⟨h1,by simp [h2,h3]⟩,rfl⟩
theorem kd0_nodup (l:List GRow) (i h:Nat):(kd0 l i h).Nodup:=by
 unfold kd0
 rw [List.nodup_iff_pairwise_ne,List.pairwise_map]
 refine List.Pairwise.imp ?_ ((List.nodup_iff_pairwise_ne.1 List.nodup_range).filter _)
 intro a b hab
 omega
theorem S0_ok {l:List GRow} {m:Nat} (hs:sound l) (hsm:Rows.mid m l) (hm:m≤1048577):(S0 l).Ok l.length:=by
  have hlive:∀ c,c<l.length+1→(st0 l c).live=true:=fun c hc=>by
    cases c with
    | zero=>rfl
    | succ j =>
      obtain ⟨x,hx⟩:=get_some (show j<l.length by omega)
      simp [st0,hx,nodeOf]
  have hup:∀ j x,l[j]? = some x→(st0 l (j+1)).up=x.up:=fun j x hx=>by simp [st0,hx,nodeOf]
  refine ⟨by simp [S0],⟨rfl,rfl⟩,fun p hp k hk => ?_,fun c hc => ?_,fun c hc hd => ?_,fun p hp=>kd0_nodup l l.length p,⟨fun c=>c,fun c hc=>by simp only [S0] at hc;show c≤l.length;omega,fun c p hc hu => ?_⟩,fun c hc => ?_⟩
  · obtain ⟨j,x,h1,h2,h3,rfl⟩:=mem_kd0.1 hk
    exact ⟨j+1,by omega,by simp only [S0];omega,hlive _ (by omega),by simp only [S0];rw [hup j x h2];exact h3⟩
  · simp only [S0] at hc ⊢
    cases c with
    | zero=>exact .inl rfl
    | succ j =>
      obtain ⟨x,hx⟩:=get_some (show j<l.length by omega)
      have hst:=hs.1 j x (by omega) hx
      refine .inr ⟨x.up.toNat,by omega, ?_,hlive _ (by omega),mem_kd0.2 ⟨j,x,by omega,hx,by omega,by omega⟩⟩
      rw [hup j x hx];omega
  · simp only [S0] at hc hd
    rw [hlive c hc] at hd;cases hd
  · simp only [S0] at hc hu
    cases c with
    | zero=>simp [st0,holder] at hu <;> omega
    | succ j =>
      obtain ⟨x,hx⟩:=get_some (show j<l.length by omega)
      have hst:=hs.1 j x (by omega) hx
      rw [hup j x hx] at hu
      show p<j+1
      omega
  · simp only [S0] at hc ⊢
    cases c with
    | zero=>simp [st0,holder]
    | succ j =>
      obtain ⟨x,hx⟩:=get_some (show j<l.length by omega)
      have:=(hsm.row x (List.mem_of_getElem? hx)).attrs
      simp only [st0,hx,Option.map_some,Option.getD_some,nodeOf]
      omega
end Go.TA


end
