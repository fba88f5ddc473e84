/- Part 14 of 15 of a proof; joined from StpMDo2, StpMDo3, StpMRun, StpMRows, StpStepsRows, StpRDo, StpRDo2, StpCheck13, StpVisit, StpFlatA, StpFlat, StpPNew, StpFew, StpFewR, StpSame27, StpStepsLaw. The law PlainSteps, in the machine. -/
import Derived.Test.YtnjblmbobmbgkaaGreatDoorSt1
import Derived.Test.YtnjblmbobmbgkaaGreatDoorSt13
import Derived.Test.YtnjblmbobmbgkaaGreatDoorSt12
import Derived.Test.YtnjblmbobmbgkaaGreatDoorSt6
import Derived.Test.YtnjblmbobmbgkaaGreatDoorSt11
set_option linter.unusedSimpArgs false
set_option linter.unusedVariables false
section
/- What an operation does to a machine: the functions insert, move, Do, Run. -/
set_option maxRecDepth 100000
set_option maxHeartbeats 8000000
namespace Go.TA.Tryz
theorem insertF_run {R:Nat} {S:MS} (hS:S.Ok R) (hN:S.N≤4194304) (av:Nat→AV) (rest:List AObj) (hM:MOk S.N av S.kd rest) (x:GOp) (hx0:x.node≠0) {n:Nat} (hn:S.N+R+3<n) :
  ∃ av' rest',acall T (n+3) 42 [MP,.p (.agg x.pv)] (machG S.N S.st av rest)=some (.p (.int .i64 (insertM S x).1),machG (insertM S x).2.N (insertM S x).2.st av' rest')∧MOk (insertM S x).2.N av' (insertM S x).2.kd rest'∧Fr S.N av rest (insertM S x).2.N av' rest':=by
 have len1:∀ st av,(rowsAV S.N st av).length=S.N:=fun _ _=>rowsAV_len
 have hlv:=fun h=>lives_run S av rest h (n+1)
 unfold insertM
 by_cases hl:(liveB S x.node && (liveB S x.up && liveB S x.before))=false
 ·rw [if_pos hl]
  refine ⟨av,rest, ?_,hM,Fr.refl _ _ _⟩
  rw [acall_code T42,run_code rfl rfl]
  cases a1:liveB S x.node
  ·simp only [machG] at hlv ⊢
   simp -implicitDefEqProofs (disch:=omega) only [Rx,simprocAttr,F42,GOp.pv,attrsPV,hlv,a1]
  cases a2:liveB S x.up
  ·simp only [machG] at hlv ⊢
   simp -implicitDefEqProofs (disch:=omega) only [Rx,simprocAttr,F42,GOp.pv,attrsPV,hlv,a1,a2]
  cases a3:liveB S x.before
  ·simp only [machG] at hlv ⊢
   simp -implicitDefEqProofs (disch:=omega) only [Rx,simprocAttr,F42,GOp.pv,attrsPV,hlv,a1,a2,a3]
  rw [a1,a2,a3] at hl;cases hl
 rw [if_neg hl]
 simp only [Bool.not_eq_false,Bool.and_eq_true] at hl
 obtain ⟨a1,a2,a3⟩:=hl
 obtain ⟨c,hc,hcN,hcl⟩:=live_nat a1
 obtain ⟨u,hu,huN,hul⟩:=live_nat a2
 obtain ⟨b,hb,hbN,hbl⟩:=live_nat a3
 have hlv1:=hlv x.node
 have hlv2:=hlv x.up
 have hlv3:=hlv x.before
 rw [a1] at hlv1
 rw [a2] at hlv2
 rw [a3] at hlv3
 have hgc:(rowsAV S.N S.st av).getD c []=nodeAV (S.st c) (av c):=rowsAV_get hcN
 have hgb:(rowsAV S.N S.st av).getD b []=nodeAV (S.st b) (av b):=rowsAV_get hbN
 have k1:(c:Int)<(S.N:Int):=by omega
 have k3:(b:Int)<(S.N:Int):=by omega
 have un:=under_run hS av rest c u huN (n:=n+1) (by omega)
 rw [hc] at hlv1 hx0 ⊢
 rw [hu] at hlv2 ⊢
 rw [hb] at hlv3 ⊢
 have uo:upOf S (c:Int)=(S.st c).up:=rfl
 have ub:upOf S (b:Int)=(S.st b).up:=rfl
 rw [uo,ub]
 simp only [Int.toNat_natCast]
 simp only [nodeAV] at hgc hgb
 by_cases h15:0≤(S.st c).up
 ·rw [if_pos h15]
  refine ⟨av,rest, ?_,hM,Fr.refl _ _ _⟩
  rw [acall_code T42,run_code rfl rfl]
  simp only [machG] at hlv1 hlv2 hlv3 ⊢
  simp -implicitDefEqProofs (disch:=omega) only [Rx,simprocAttr,F42,GOp.pv,attrsPV,hc,hu,hb,hlv1,hlv2,hlv3,len1,hgc,k1,h15]
 rw [if_neg h15]
 by_cases h17:underB S (u:Int) (c:Int)=true
 ·rw [if_pos h17]
  rw [h17] at un
  refine ⟨av,rest, ?_,hM,Fr.refl _ _ _⟩
  rw [acall_code T42,run_code rfl rfl]
  simp only [machG] at hlv1 hlv2 hlv3 un ⊢
  simp -implicitDefEqProofs (disch:=omega) only [Rx,simprocAttr,F42,GOp.pv,attrsPV,hc,hu,hb,hlv1,hlv2,hlv3,len1,hgc,k1,h15,un]
 rw [if_neg h17]
 simp only [Bool.not_eq_true] at h17
 rw [h17] at un
 by_cases h18:(b:Int)≠0∧(S.st b).up≠(u:Int)
 ·rw [if_pos h18]
  refine ⟨av,rest, ?_,hM,Fr.refl _ _ _⟩
  have e1:((b:Int)==0)=false:=by simpa using h18.1
  have e2:((S.st b).up==(u:Int))=false:=by simpa using h18.2
  rw [acall_code T42,run_code rfl rfl]
  simp only [machG] at hlv1 hlv2 hlv3 un ⊢
  simp -implicitDefEqProofs (disch:=omega) only [Rx,simprocAttr,F42,GOp.pv,attrsPV,hc,hu,hb,hlv1,hlv2,hlv3,len1,hgc,hgb,k1,k3,h15,un,e1,e2]
 rw [if_neg h18]
 have hbk:(b:Int)=0∨(b:Int) ∈ S.kd u:=by
  by_cases e:(b:Int)=0
  ·exact .inl e
  ·right
   by_cases e2:(S.st b).up=(u:Int)
   ·exact kid_in hS hbN e2
   ·exact absurd ⟨e,e2⟩ h18
 obtain ⟨av',rest',hp,hM',hfr⟩:=place_run hS hN av rest hM c u (b:Int) hcN huN hbk (n:=n) (by omega)
 refine ⟨av',rest', ?_,hM',hfr⟩
 simp only
 rw [show (placeM S c u (b:Int)).N=S.N from rfl]
 generalize (placeM S c u (b:Int)).st=st' at hp ⊢
 rw [acall_code T42,run_code rfl rfl]
 by_cases e:(b:Int)=0
 ·have e1:((b:Int)==0)=true:=by simpa using e
  simp only [machG] at hlv1 hlv2 hlv3 un hp ⊢
  simp -implicitDefEqProofs (disch:=omega) only [Rx,simprocAttr,F42,GOp.pv,attrsPV,hc,hu,hb,hlv1,hlv2,hlv3,len1,hgc,k1,h15,un,e1,hp]
 ·have e1:((b:Int)==0)=false:=by simpa using e
  have e2:((S.st b).up==(u:Int))=true:=by
   by_cases e2:(S.st b).up=(u:Int)
   ·simpa using e2
   ·exact absurd ⟨e,e2⟩ h18
  simp only [machG] at hlv1 hlv2 hlv3 un hp ⊢
  simp -implicitDefEqProofs (disch:=omega) only [Rx,simprocAttr,F42,GOp.pv,attrsPV,hc,hu,hb,hlv1,hlv2,hlv3,len1,hgc,hgb,k1,k3,h15,un,e1,e2,hp]
theorem moveF_run {R : Nat} {S : MS} (hS : S.Ok R) (hN : S.N ≤ 4194304) (av : Nat → AV) (rest : List AObj) (hM : MOk S.N av S.kd rest) (x : GOp) (hx0 : x.node ≠ 0) {n : Nat} (hn : S.N + R + 3 < n) :
    ∃ av' rest',acall T (n+5) 43 [MP,.p (.agg x.pv)] (machG S.N S.st av rest)=some (.p (.int .i64 (moveM S x).1),machG (moveM S x).2.N (moveM S x).2.st av' rest')∧MOk (moveM S x).2.N av' (moveM S x).2.kd rest'∧Fr S.N av rest (moveM S x).2.N av' rest':=by
  have len1:∀ st av,(rowsAV S.N st av).length=S.N:=fun _ _=>rowsAV_len
  have hlv:=fun h=>lives_run S av rest h (n+3)
  unfold moveM
  by_cases a1:liveB S x.node=false
  · rw [if_pos (by rw [a1];rfl)]
    refine ⟨av,rest, ?_,hM,Fr.refl _ _ _⟩
    rw [acall_code T43,run_code rfl rfl]
    simp only [machG] at hlv ⊢
    simp -implicitDefEqProofs (disch:=omega) only [Rx,simprocAttr,F43,GOp.pv,attrsPV,hlv,a1]
  simp only [Bool.not_eq_false] at a1
  obtain ⟨c,hc,hcN,hcl⟩:=live_nat a1
  have hgc:(rowsAV S.N S.st av).getD c []=nodeAV (S.st c) (av c):=rowsAV_get hcN
  have k1:(c:Int)<(S.N:Int):=by omega
  have hlv1:=hlv x.node
  have hlv3:=hlv x.before
  rw [a1] at hlv1
  simp only [nodeAV] at hgc
  by_cases a3:liveB S x.before=false
  · rw [if_pos (by rw [a1,a3];rfl)]
    rw [a3] at hlv3
    rw [hc] at hlv1
    refine ⟨av,rest, ?_,hM,Fr.refl _ _ _⟩
    rw [acall_code T43,run_code rfl rfl]
    simp only [machG] at hlv1 hlv3 ⊢
    simp -implicitDefEqProofs (disch:=omega) only [Rx,simprocAttr,F43,GOp.pv,attrsPV,hc,hlv1,hlv3,len1,hgc,k1]
  simp only [Bool.not_eq_false] at a3
  rw [if_neg (by rw [a1,a3];simp)]
  rw [a3] at hlv3
  obtain ⟨b,hb,hbN,hbl⟩:=live_nat a3
  have hgb:(rowsAV S.N S.st av).getD b []=nodeAV (S.st b) (av b):=rowsAV_get hbN
  have k3:(b:Int)<(S.N:Int):=by omega
  simp only [nodeAV] at hgb
  rw [hc] at hlv1 hx0 ⊢
  rw [hb] at hlv3 ⊢
  have uo:upOf S (c:Int)=(S.st c).up:=rfl
  have ub:upOf S (b:Int)=(S.st b).up:=rfl
  rw [uo,ub]
  simp only [Int.toNat_natCast]
  by_cases h16:(S.st c).up<0
  · rw [if_pos h16]
    refine ⟨av,rest, ?_,hM,Fr.refl _ _ _⟩
    rw [acall_code T43,run_code rfl rfl]
    simp only [machG] at hlv1 hlv3 ⊢
    simp -implicitDefEqProofs (disch:=omega) only [Rx,simprocAttr,F43,GOp.pv,attrsPV,hc,hb,hlv1,hlv3,len1,hgc,k1,h16]
  rw [if_neg h16]
  obtain ⟨u,hu,huN,hul,hkid⟩:=hS.up_nat hcN (by omega)
  rw [hu] at h16 hgc ⊢
  by_cases e0:(b:Int)=(c:Int)
  · rw [if_pos (.inl e0)]
    have q1:((b:Int)==(c:Int))=true:=by simpa using e0
    refine ⟨av,rest, ?_,hM,Fr.refl _ _ _⟩
    rw [acall_code T43,run_code rfl rfl]
    simp only [machG] at hlv1 hlv3 ⊢
    simp -implicitDefEqProofs (disch:=omega) only [Rx,simprocAttr,F43,GOp.pv,attrsPV,hc,hb,hlv1,hlv3,len1,hgc,k1,h16,q1]
  have q1:((b:Int)==(c:Int))=false:=by simpa using e0
  by_cases h18:(b:Int)≠0∧(S.st b).up≠(u:Int)
  · rw [if_pos (.inr h18)]
    have e1:((b:Int)==0)=false:=by simpa using h18.1
    have e2:((S.st b).up==(u:Int))=false:=by simpa using h18.2
    refine ⟨av,rest, ?_,hM,Fr.refl _ _ _⟩
    rw [acall_code T43,run_code rfl rfl]
    simp only [machG] at hlv1 hlv3 ⊢
    simp -implicitDefEqProofs (disch:=omega) only [Rx,simprocAttr,F43,GOp.pv,attrsPV,hc,hb,hlv1,hlv3,len1,hgc,hgb,k1,k3,h16,q1,e1,e2]
  rw [if_neg (fun h=>h.elim e0 h18)]
  obtain ⟨hT,hTup⟩:=hS.take hcN hcl
  have hTN:=takeM_N S c
  obtain ⟨av1,rest1,ht,hM1,hfr1⟩:=take_run hS hN av rest hM c hcN (n:=n) (by omega)
  rw [← hTN] at hM1
  have hbk:(b:Int)=0∨(b:Int) ∈ (takeM S c).kd u:=by
    by_cases e:(b:Int)=0
    · exact .inl e
    · right
      by_cases e2:(S.st b).up=(u:Int)
      · have hk:=kid_in hS hbN e2
        unfold takeM
        rw [if_neg (by omega),hu,Int.toNat_natCast]
        simp only
        rw [upd_at,List.mem_filter]
        exact ⟨hk,by simp;omega⟩
      · exact absurd ⟨e,e2⟩ h18
  obtain ⟨av',rest',hp,hM',hfr2⟩:=place_run hT (by omega) av1 rest1 hM1 c u (b:Int) (by omega) (by omega) hbk (n:=n+2) (by omega)
  refine ⟨av',rest', ?_,by simpa [placeM] using hM',by simpa [placeM] using (show Fr S.N av rest (takeM S c).N av1 rest1 by rw [hTN];exact hfr1).trans hfr2⟩
  simp only [Int.toNat_natCast]
  rw [show (placeM (takeM S c) c u (b:Int)).N=(takeM S c).N from rfl,hTN]
  rw [hTN] at hp
  generalize (placeM (takeM S c) c u (b:Int)).st=st' at hp ⊢
  generalize (takeM S c).st=st1 at ht hp
  rw [acall_code T43,run_code rfl rfl]
  by_cases e:(b:Int)=0
  · have e1:((b:Int)==0)=true:=by simpa using e
    simp only [machG] at hlv1 hlv3 ht hp ⊢
    simp -implicitDefEqProofs (disch:=omega) only [Rx,simprocAttr,F43,GOp.pv,attrsPV,hc,hb,hlv1,hlv3,len1,hgc,k1,h16,q1,e1,ht,hp]
  · have e1:((b:Int)==0)=false:=by simpa using e
    have e2:((S.st b).up==(u:Int))=true:=by
      by_cases e2:(S.st b).up=(u:Int)
      · simpa using e2
      · exact absurd ⟨e,e2⟩ h18
    simp only [machG] at hlv1 hlv3 ht hp ⊢
    simp -implicitDefEqProofs (disch:=omega) only [Rx,simprocAttr,F43,GOp.pv,attrsPV,hc,hb,hlv1,hlv3,len1,hgc,hgb,k1,k3,h16,q1,e1,e2,ht,hp]
end Go.TA.Tryz


end
section
/- What an operation does to a machine: the functions Do, Run. -/
set_option maxRecDepth 100000
set_option maxHeartbeats 8000000
namespace Go.TA.Tryz
theorem do_run {R:Nat} {S:MS} (hS:S.Ok R) (hN:S.N≤4194303) (av:Nat→AV) (rest:List AObj) (hM:MOk S.N av S.kd rest) (x:GOp) (hx:x.attrs.length≤1048576) {n:Nat} (hn:S.N+R+1048580<n) :
  ∃ av' rest',acall T (n+R+61) 15 [MP,.p (.agg x.pv)] (machG S.N S.st av rest)=some (.p (.int .i64 (doE S x).1),machG (doE S x).2.N (doE S x).2.st av' rest')∧MOk (doE S x).2.N av' (doE S x).2.kd rest'∧Fr S.N av rest (doE S x).2.N av' rest':=by
 have len1:∀ st av,(rowsAV S.N st av).length=S.N:=fun _ _=>rowsAV_len
 have hck:=opsP_run x [] (n:=n+R+22) (by omega) hx
 rw [show n+R+22+38=n+R+60 by omega] at hck
 have k0:((S.N:Int)==0)=false:=by have:=hS.pos;simp;omega
 unfold doE
 by_cases he:opErr x=0
 rotate_left
 ·rw [if_neg he]
  have e1:(opErr x==0)=false:=by simpa using he
  refine ⟨av,rest, ?_,hM,Fr.refl _ _ _⟩
  rw [acall_code T15,run_code rfl rfl]
  simp only [GOp.pv,attrsPV] at hck
  generalize opErr x=e at hck e1 ⊢
  simp only [machG]
  simp -implicitDefEqProofs (disch:=omega) only [Rx,simprocAttr,F15,GOp.pv,attrsPV,hck,k0,e1]
 rw [if_pos he]
 rw [he] at hck
 unfold doM
 by_cases h1:x.kind=1
 ·rw [if_pos h1]
  have e1:(x.kind==1)=true:=by simpa using h1
  have hcl:=cloneA_run x.attrs (by omega) [] (n+R+59)
  have hpush:=rowsAV_push (N:=S.N) (st:=S.st) (av:=av) ⟨true, -1,x.tag,x.key,x.text,x.attrs⟩ .nils
  simp only [nodeAV] at hpush
  refine ⟨upd av S.N .nils,rest, ?_,hM.push,Fr.push _ _ _⟩
  have len2:(rowsAV (S.N+1) (upd S.st S.N ⟨true, -1,x.tag,x.key,x.text,x.attrs⟩) (upd av S.N .nils)).length=S.N+1:=rowsAV_len
  rw [acall_code T15,run_code rfl rfl]
  simp only [GOp.pv,attrsPV] at hck
  simp only [machG,MS.create]
  generalize rowsAV (S.N+1) (upd S.st S.N ⟨true, -1,x.tag,x.key,x.text,x.attrs⟩) (upd av S.N .nils)=rows' at hpush len2 ⊢
  simp -implicitDefEqProofs (disch:=omega) only [Rx,simprocAttr,F15,GOp.pv,attrsPV,hck,k0,len1,len2,e1,hcl,hpush]
 rw [if_neg h1]
 have e1:(x.kind==1)=false:=by simpa using h1
 by_cases h0:x.node=0
 ·rw [if_pos h0]
  have e0:(x.node==0)=true:=by simpa using h0
  refine ⟨av,rest, ?_,hM,Fr.refl _ _ _⟩
  rw [acall_code T15,run_code rfl rfl]
  simp only [GOp.pv,attrsPV] at hck
  simp only [machG]
  simp -implicitDefEqProofs (disch:=omega) only [Rx,simprocAttr,F15,GOp.pv,attrsPV,hck,k0,e1,e0]
 rw [if_neg h0]
 have e0:(x.node==0)=false:=by simpa using h0
 by_cases h2:x.kind=2
 ·rw [if_pos h2]
  have e2:(x.kind==2)=true:=by simpa using h2
  obtain ⟨av',rest',hp,hM',hfr⟩:=insertF_run hS (by omega) av rest hM x h0 (n:=n+R+57) (by omega)
  refine ⟨av',rest', ?_,hM',hfr⟩
  rw [show n+R+57+3=n+R+60 by omega] at hp
  generalize insertM S x=q at hp ⊢
  rw [acall_code T15,run_code rfl rfl]
  simp only [GOp.pv,attrsPV] at hck hp
  simp only [machG] at hp ⊢
  simp -implicitDefEqProofs (disch:=omega) only [Rx,simprocAttr,F15,GOp.pv,attrsPV,hck,k0,e1,e0,e2,hp]
 rw [if_neg h2]
 have e2:(x.kind==2)=false:=by simpa using h2
 by_cases h3:x.kind=3
 ·rw [if_pos h3]
  have e3:(x.kind==3)=true:=by simpa using h3
  obtain ⟨av',rest',hp,hM',hfr⟩:=moveF_run hS (by omega) av rest hM x h0 (n:=n+R+55) (by omega)
  refine ⟨av',rest', ?_,hM',hfr⟩
  rw [show n+R+55+5=n+R+60 by omega] at hp
  generalize moveM S x=q at hp ⊢
  rw [acall_code T15,run_code rfl rfl]
  simp only [GOp.pv,attrsPV] at hck hp
  simp only [machG] at hp ⊢
  simp -implicitDefEqProofs (disch:=omega) only [Rx,simprocAttr,F15,GOp.pv,attrsPV,hck,k0,e1,e0,e2,e3,hp]
 rw [if_neg h3]
 have e3:(x.kind==3)=false:=by simpa using h3
 have hft:=fun av rest=>fit_run S av rest x.node (n+R+58)
 by_cases hl:liveB S x.node=false
 ·rw [if_pos hl]
  have ef:fitE S x.node=13:=by simp [fitE,h0,hl]
  rw [ef] at hft
  refine ⟨av,rest, ?_,hM,Fr.refl _ _ _⟩
  rw [acall_code T15,run_code rfl rfl]
  simp only [GOp.pv,attrsPV] at hck
  simp only [machG] at hft ⊢
  simp -implicitDefEqProofs (disch:=omega) only [Rx,simprocAttr,F15,GOp.pv,attrsPV,hck,k0,e1,e0,e2,e3,hft]
 rw [if_neg hl]
 simp only [Bool.not_eq_false] at hl
 have ef:fitE S x.node=0:=by simp [fitE,h0,hl]
 rw [ef] at hft
 obtain ⟨c,hc,hcN,hcl⟩:=live_nat hl
 have k1:(c:Int)<(S.N:Int):=by omega
 rw [hc] at hft e0
 by_cases h4:x.kind=4
 ·rw [if_pos h4]
  have e4:(x.kind==4)=true:=by simpa using h4
  obtain ⟨hT,hTup⟩:=hS.take hcN hcl
  have hTN:=takeM_N S c
  obtain ⟨av1,rest1,ht,hM1,hfr1⟩:=take_run hS (by omega) av rest hM c hcN (n:=n+R+56) (by omega)
  rw [← hTN] at hM1
  obtain ⟨av2,hp,hM2,hfr2⟩:=end_run hT (by omega) av1 rest1 hM1 c (by omega) (n:=n+59) (by omega)
  rw [show n+59+R+1=n+R+60 by omega] at hp
  rw [show n+R+56+4=n+R+60 by omega] at ht
  rw [hc]
  simp only [Int.toNat_natCast]
  refine ⟨av2,rest1, ?_,hM2,(show Fr S.N av rest (takeM S c).N av1 rest1 by rw [hTN];exact hfr1).trans hfr2⟩
  rw [show (endM (takeM S c) (c:Int)).N=(takeM S c).N from rfl,hTN]
  rw [hTN] at hp
  generalize (endM (takeM S c) (c:Int)).st=st2 at hp ⊢
  generalize (takeM S c).st=st1 at ht hp
  rw [acall_code T15,run_code rfl rfl]
  simp only [GOp.pv,attrsPV,hc] at hck
  simp only [machG] at hft ht hp ⊢
  simp -implicitDefEqProofs (disch:=omega) only [Rx,simprocAttr,F15,GOp.pv,attrsPV,hc,hck,k0,e1,e0,e2,e3,e4,hft,ht,hp]
 rw [if_neg h4]
 have e4:(x.kind==4)=false:=by simpa using h4
 have hp:=change_run hS av rest c hcN x (n:=n+R+55) (by omega)
 rw [show n+R+55+5=n+R+60 by omega] at hp
 obtain ⟨_,hcn⟩:=changeM_ok hS hcN x
 have hck2:(changeM S c x).2.kd=S.kd:=by
  unfold changeM
  split
  ·split <;> rfl
  split
  ·split <;> rfl
  split <;> rfl
 rw [hc]
 simp only [Int.toNat_natCast]
 refine ⟨av,rest, ?_,by rw [hcn,hck2];exact hM,by rw [hcn];exact Fr.refl _ _ _⟩
 rw [hcn]
 generalize changeM S c x=q at hp ⊢
 rw [acall_code T15,run_code rfl rfl]
 simp only [GOp.pv,attrsPV,hc] at hck hp
 simp only [machG] at hft hp ⊢
 simp -implicitDefEqProofs (disch:=omega) only [Rx,simprocAttr,F15,GOp.pv,attrsPV,hc,hck,k0,k1,len1,e1,e0,e2,e3,e4,hft,hp]
end Go.TA.Tryz


end
section
/- A script is run. -/
set_option maxRecDepth 100000
set_option maxHeartbeats 8000000
namespace Go.TA.Tryz
structure Mem (S:MS) (g:List AObj) (av:Nat→AV) (rest:List AObj):Prop where
 is:g=machG S.N S.st av rest
 ok:MOk S.N av S.kd rest
end Go.TA.Tryz


end
section
/- The rows of a machine. -/
set_option maxRecDepth 100000
set_option maxHeartbeats 8000000
namespace Go.TA.Tryz
def memR (S:MS) (av:Nat→AV) (rest:List AObj) (q:Nat) (out:List GRow):List AObj:=machG S.N S.st av (rest.set q (.pcells 6 (out.map GRow.pv)))
theorem mrows_body {R : Nat} {S : MS} (hS : S.Ok R) (hN : S.N ≤ 4194304) (av : Nat → AV) (rest : List AObj) (hM : MOk S.N av S.kd rest) (q : Nat) (hq : q < rest.length) (hqf : ∀ k, k < S.N → refOf (av k) ≠ some (q + 1 + 1)) (m : Nat) (hm : S.N + 1 < m) (d h : Nat) (up : Int) (out : List GRow) (hh : h < S.N) (hp : PreO S out h) (hol : out.length ≤ S.N)
    (ih:∀ c:Nat,c<S.N→(S.st c).up=(h:Int)→∀ (out:List GRow) (up:Int),out.length≤S.N→PreO S out c→acall T m 48 [MP,.own true (q+1+1) out.length,.p (.int .i64 c),.p (.int .i64 up)] (memR S av rest q out)=some (.own true (q+1+1) (belowM S d out (c:Int) up).length,memR S av rest q (belowM S d out (c:Int) up))) :
    acall T (m+1) 48 [MP,.own true (q+1+1) out.length,.p (.int .i64 h),.p (.int .i64 up)] (memR S av rest q out)=some (.own true (q+1+1) (belowM S (d+1) out (h:Int) up).length,memR S av rest q (belowM S (d+1) out (h:Int) up)):=by
  have hK:=hM.kids h hh
  have hkl:=hS.kids_len hh
  have len1:(rowsAV S.N S.st av).length=S.N:=rowsAV_len
  have k1:(h:Int)<(S.N:Int):=by omega
  have hgh:(rowsAV S.N S.st av).getD h []=nodeAV (S.st h) (av h):=rowsAV_get hh
  have il:=intsPV_len (S.kd h)
  have hinv:=post_all hS (d:=d) (up:=up) hh hp
  have hloop:aexec (acall T m) m (.loop B48x0) ⟨[(0,MP),(1,.own true (q+1+1) out.length),(3,.p (.int .i64 up)),(19,av h),(20,.p (.int .i64 (S.kd h).length)),(21,.p (.int .i64 0))],[],memR S av rest q out⟩=some (.exit 0,⟨[(1,.own true (q+1+1) (belowM S (d+1) out (h:Int) up).length)],[],memR S av rest q (belowM S (d+1) out (h:Int) up)⟩):=by
    have key:=loop_inv (C:=acall T m) (N:=m) (B:=B48x0) (σ := Nat) (S:=fun i=>⟨[(0,MP),(1,.own true (q+1+1) (outI S d out h up i).length),(3,.p (.int .i64 up)),(19,av h),(20,.p (.int .i64 (S.kd h).length)),(21,.p (.int .i64 i))],[],memR S av rest q (outI S d out h up i)⟩)
      (I:=fun i=>i≤(S.kd h).length) (μ := fun i=>(S.kd h).length - i) (Q:=fun z=>z=(.exit 0,⟨[(1,.own true (q+1+1) (belowM S (d+1) out (h:Int) up).length)],[],memR S av rest q (belowM S (d+1) out (h:Int) up)⟩)) ?_ 0 (by omega) (by omega)
    · obtain ⟨z,hz,rfl⟩:=key
      rw [outI_zero] at hz
      exact hz
    intro i hi
    by_cases hil:i<(S.kd h).length
    · left
      obtain ⟨k,hk⟩:∃ k,(S.kd h)[i]? = some k:=⟨_,List.getElem?_eq_getElem hil⟩
      have hkm:=List.mem_of_getElem? hk
      obtain ⟨c,rfl,hc,_,hcu⟩:=hS.kids h hh k hkm
      obtain ⟨hpo,hpm⟩:=hinv i hi
      have hpre:=kid_pre hS up hh hp hpo hpm hk hc hcu
      have hol1:=hpo.len
      have ho:=outI_succ (S:=S) (d:=d) (out:=out) (up:=up) hk
      have hol2:(outI S d out h up i++[rowM S (c:Int) up]).length≤S.N:=by
        have:=nodup_len S.N _ hpre.nodup (fun k hk=>by
          obtain ⟨x,hx,rfl⟩:=List.mem_map.1 hk
          exact hpre.rng x hx)
        rwa [List.length_map] at this
      have ihc:=ih c hc hcu _ (((outI S d out h up i).length:Int)+1) hol2 hpre
      rw [← ho] at ihc
      refine ⟨i+1, ?_,by omega,by omega⟩
      generalize outI S d out h up i=o1 at hol1 hol2 ihc ⊢
      generalize outI S d out h up (i+1)=o2 at ihc ⊢
      have k2:(i:Int)<((S.kd h).length:Int):=by omega
      have k3:(c:Int)<(S.N:Int):=by omega
      have hg:=intsPV_get hk
      have hgc:(rowsAV S.N S.st av).getD c []=nodeAV (S.st c) (av c):=rowsAV_get hc
      have hcl:=cloneA_run (S.st c).attrs (hS.attrs c hc) [] (m - 1)
      rw [show m - 1+1=m by omega] at hcl
      have os:o1.map GRow.pv++[[.int .i64 (c:Int),.int .i64 up,.str (S.st c).tag,.str (S.st c).key,.str (S.st c).text,.list ((S.st c).attrs.map Attr.pv)]]=(o1++[rowM S (c:Int) up]).map GRow.pv:=by
        rw [List.map_append];rfl
      have ol1:(o1.map GRow.pv).length=o1.length:=by simp
      have ol2:(o1++[rowM S (c:Int) up]).length=o1.length+1:=by simp
      rw [ol2] at ihc
      have ol3:((o1++[rowM S (c:Int) up]).map GRow.pv).length=o1.length+1:=by simp
      generalize o1++[rowM S (c:Int) up]=o3 at os ihc ol3
      have hgq:(rest.set q (.pcells 6 (o1.map GRow.pv)))[q]? = some (.pcells 6 (o1.map GRow.pv)):=by rw [List.getElem?_set,if_pos rfl,if_pos hq]
      have hss:∀ o o':AObj,(rest.set q o).set q o'=rest.set q o':=fun o o'=>by simp
      simp only [nodeAV] at hgc
      rcases hK.inv with ⟨_,hk0⟩ | ⟨r,hav,hr⟩ | hav
      · rw [hk0] at hil;simp at hil
      · have hrq:r≠q:=fun e=>hqf h hh (by rw [hav,e];rfl)
        have hgr:(rest.set q (.pcells 6 (o1.map GRow.pv)))[r]? = some (.pcells 1 (intsPV (S.kd h))):=by rw [List.getElem?_set,if_neg (fun e=>hrq e.symm)];exact hr
        rcases (hM.kids c hc).inv with ⟨hav2,_⟩ | ⟨r2,hav2,_⟩ | hav2
        all_goals
          simp only [hav2] at hgc
          simp only [memR,machG,hav] at ihc ⊢
          simp -implicitDefEqProofs (disch:=omega) only [Rx,simprocAttr,B48x0,k2,k3,hg,hgc,len1,hgq,hgr,il,hss,hcl,os,ol1,ol3,ihc]
      · rcases (hM.kids c hc).inv with ⟨hav2,_⟩ | ⟨r2,hav2,_⟩ | hav2
        all_goals
          simp only [hav2] at hgc
          simp only [memR,machG,hav] at ihc ⊢
          simp -implicitDefEqProofs (disch:=omega) only [Rx,simprocAttr,B48x0,k2,k3,hg,hgc,len1,hgq,il,hss,hcl,os,ol1,ol3,ihc]
    · right
      obtain rfl:i=(S.kd h).length:=by omega
      have k2:¬ ((S.kd h).length:Int)<((S.kd h).length:Int):=by omega
      refine ⟨_, ?_, ?_,rfl⟩
      · rw [outI_all]
        generalize belowM S (d+1) out (h:Int) up=o1
        rcases hK.inv with ⟨hav,_⟩ | ⟨r,hav,_⟩ | hav
        all_goals
          simp only [hav]
          simp -implicitDefEqProofs (disch:=omega) only [Rx,simprocAttr,B48x0,k2]
      · simp
  rw [acall_code T48,run_code rfl rfl]
  simp only [nodeAV] at hgh
  generalize belowM S (d+1) out (h:Int) up=o2 at hloop ⊢
  rcases hK.inv with ⟨hav,hk0⟩ | ⟨r,hav,hr⟩ | hav
  · simp only [hk0,List.length_nil,Int.natCast_zero] at hloop
    simp only [memR,machG,hav] at hloop hgh ⊢
    simp -implicitDefEqProofs (disch:=omega) only [Rx,simprocAttr,F48,k1,len1,hgh,hloop]
  · have hrq:r≠q:=fun e=>hqf h hh (by rw [hav,e];rfl)
    have hgr:(rest.set q (.pcells 6 (out.map GRow.pv)))[r]? = some (.pcells 1 (intsPV (S.kd h))):=by rw [List.getElem?_set,if_neg (fun e=>hrq e.symm)];exact hr
    simp only [memR,machG,hav] at hloop hgh ⊢
    simp -implicitDefEqProofs (disch:=omega) only [Rx,simprocAttr,F48,k1,len1,hgh,hloop]
  · simp only [memR,machG,hav] at hloop hgh ⊢
    simp -implicitDefEqProofs (disch:=omega) only [Rx,simprocAttr,F48,k1,len1,hgh,il,hloop]
theorem mrows_gen {R:Nat} {S:MS} (hS:S.Ok R) (hN:S.N≤4194304) (av:Nat→AV) (rest:List AObj) (hM:MOk S.N av S.kd rest) (q:Nat) (hq:q<rest.length) (hqf:∀ k,k<S.N→refOf (av k)≠some (q+1+1)) {r:Nat→Nat} (hr1:∀ c,c<S.N→r c≤R) (hr2:∀ c p:Nat,c<S.N→(S.st c).up=(p:Int)→r p<r c) (n:Nat) (hn:S.N+1<n) :
    ∀ (d h : Nat) (up : Int) (out : List GRow), h < S.N → R ≤ r h + d → out.length ≤ S.N → PreO S out h →
      acall T (n+d+1) 48 [MP,.own true (q+1+1) out.length,.p (.int .i64 h),.p (.int .i64 up)] (memR S av rest q out)=some (.own true (q+1+1) (belowM S (d+1) out (h:Int) up).length,memR S av rest q (belowM S (d+1) out (h:Int) up)):=by
  intro d
  induction d with
  | zero =>
    intro h up out hh hR hol hp
    exact mrows_body hS hN av rest hM q hq hqf n hn 0 h up out hh hp hol (fun c hc hcu=>by
      have:=hr1 c hc
      have:=hr2 c h hc hcu
      omega)
  | succ d ih =>
    intro h up out hh hR hol hp
    exact mrows_body hS hN av rest hM q hq hqf (n+d+1) (by omega) (d+1) h up out hh hp hol (fun c hc hcu out up hol hp=>by
      have:=hr2 c h hc hcu
      exact ih c up out hc (by omega) hol hp)
theorem Rows_run {R:Nat} {S:MS} (hS:S.Ok R) (hN:S.N≤4194304) (av:Nat→AV) (rest:List AObj) (hM:MOk S.N av S.kd rest) {n:Nat} (hn:S.N+1<n) :
  acall T (n+R+2) 16 [MP] (machG S.N S.st av rest)=some (.own true (rest.length+1+1) (rowsM S R).length,machG S.N S.st av (rest++[.pcells 6 ((rowsM S R).map GRow.pv)])):=by
 have hM':MOk S.N av S.kd (rest++[.pcells 6 []]):=⟨fun h hh=>(hM.kids h hh).more _,hM.disj⟩
 obtain ⟨r,hr1,hr2⟩:=hS.rank
 have hr:=mrows_gen hS hN av (rest++[.pcells 6 []]) hM' rest.length (by simp) (fun k hk e=>by
  have:=(hM.kids k hk).ref_lt e
  omega) hr1 hr2 n hn R 0 0 [] hS.pos (by omega) (by simp) pre_nil
 have hset:∀ o o':AObj,(rest++[o]).set rest.length o'=rest++[o']:=fun o o'=>by simp [List.set_append]
 have len1:(rowsAV S.N S.st av).length=S.N:=rowsAV_len
 have k0:((S.N:Int)==0)=false:=by have:=hS.pos;simp;omega
 simp only [memR,hset,Int.natCast_zero,List.map_nil,List.length_nil] at hr
 rw [acall_code T16,run_code rfl rfl]
 unfold rowsM
 generalize belowM S (R+1) [] 0 0=o at hr ⊢
 simp only [machG] at hr ⊢
 simp -implicitDefEqProofs (disch:=omega) only [Rx,simprocAttr,F16,k0,hr]
end Go.TA.Tryz


end
section
/- The rows of a machine and of the document's answer, read and held against each other. -/
set_option maxRecDepth 100000
set_option maxHeartbeats 8000000
namespace Go.TA
theorem below_attrs {R : Nat} {S : MS} (hS : S.Ok R) : ∀ (d : Nat) (out : List GRow) (h : Nat) (up : Int), h < S.N → ∀ x ∈ belowM S d out (h : Int) up, x ∈ out ∨ x.attrs.length ≤ 1048577
  | 0,out,h,up,hh,x,hx => .inl hx
  | d + 1, out, h, up, hh, x, hx => by
    rw [← outI_all] at hx
    have key:∀ i,i≤(S.kd h).length→∀ x ∈ outI S d out h up i,x ∈ out∨x.attrs.length≤1048577:=by
      intro i
      induction i with
      | zero=>exact fun _ x hx => .inl hx
      | succ i ih =>
        intro hi x hx
        obtain ⟨k,hk⟩:∃ k,(S.kd h)[i]? = some k:=⟨_,List.getElem?_eq_getElem (by omega)⟩
        obtain ⟨c,rfl,hc,_,_⟩:=hS.kids h hh k (List.mem_of_getElem? hk)
        rw [outI_succ hk] at hx
        rcases below_attrs hS d _ c _ hc x hx with h1 | h1
        · rcases List.mem_append.1 h1 with h2 | h2
          · exact ih (by omega) x h2
          · simp only [List.mem_singleton] at h2
            subst h2
            exact .inr (hS.attrs c hc)
        · exact .inr h1
    exact key _ (Nat.le_refl _) x hx
theorem rowsM_attrs {R:Nat} {S:MS} (hS:S.Ok R) (R':Nat):∀ x ∈ rowsM S R',x.attrs.length≤1048577:=fun x hx=>by
 rcases below_attrs hS (R'+1) [] 0 0 hS.pos x hx with h | h
 ·simp at h
 ·exact h
namespace Tryz
theorem both_rows {R:Nat} {S:MS} (hS:S.Ok R) (hN:S.N≤4194304) {g:List AObj} {av:Nat→AV} {rest:List AObj} {avD:Nat→AV} {p q:Nat} (hB:Both S g av rest avD p q) {n:Nat} (hn:S.N+4194304+1<n) :
    ∃ g1, acall T (n + R + 3) 16 [MP] g = some (.own true (rest.length + 1 + 1) (rowsM S R).length, g1) ∧ acall T (n + R + 3) 22 [DP p] g1 = some (.own true g1.length (rowsM S R).length, g1 ++ [.pcells 6 ((rowsM S R).map GRow.pv)])
      ∧ g1[rest.length+1+1]? = some (.pcells 6 ((rowsM S R).map GRow.pv))∧rest.length+1+1<g1.length∧(∀ g,acall T (n+R+3) 21 [.p (.list ((rowsM S R).map GRow.pv)),.p (.list ((rowsM S R).map GRow.pv))] g=some (.p (.bool true),g))
      ∧ Both S (g1++[.pcells 6 ((rowsM S R).map GRow.pv)]) av (rest++[.pcells 6 ((rowsM S R).map GRow.pv)]++[.pcells 6 ((rowsM S R).map GRow.pv)]) avD p q:=by
  have hll:=liveL_len S
  have hr:=Rows_run hS hN av rest hB.mok (n:=n+1) (by omega)
  rw [← hB.is,show n+1+R+2=n+R+3 by omega] at hr
  have hB1:=hB.more [.pcells 6 ((rowsM S R).map GRow.pv)]
  have hd:=Read_run hS (by omega) hB1.dm (by omega) (n:=n+1) (by omega)
  rw [show n+1+R+2=n+R+3 by omega] at hd
  have hgl:g.length=rest.length+1+1:=by rw [hB.is];simp [machG]
  have hB2:=hB1.more [.pcells 6 ((rowsM S R).map GRow.pv)]
  have hmg:machG S.N S.st av (rest++[.pcells 6 ((rowsM S R).map GRow.pv)])=g++[.pcells 6 ((rowsM S R).map GRow.pv)]:=by rw [hB.is];simp [machG]
  rw [hmg] at hr
  refine ⟨g++[.pcells 6 ((rowsM S R).map GRow.pv)], ?_, ?_, ?_, ?_,fun g => ?_, ?_⟩
  rotate_right
  · exact hB2
  · exact hr
  · exact hd
  · rw [← hgl];simp
  · simp;omega
  · have hl:=rowsM_len hS R
    have:=rowsEq_run (rowsM S R) (by omega) (fun x hx=>by have:=rowsM_attrs hS R x hx;omega) g (n:=n+R) (by omega) (by omega)
    exact this
end Tryz
end Go.TA


end
section
/- The document's answer: any operation. -/
set_option maxRecDepth 100000
set_option maxHeartbeats 8000000
namespace Go.TA.Tryz
section
variable {R:Nat} {S:MS} {av:Nat→AV} {p q:Nat} {g:List AObj}
theorem insertD_N (S:MS) (id up b:Int):(insertD S id up b).2.N=S.N:=by
 unfold insertD;repeat' split
 all_goals rfl
theorem moveD_N (S:MS) (id b:Int):(moveD S id b).2.N=S.N:=by
 unfold moveD;repeat' split
 all_goals first | rfl | simp [placeM,takeM_N]
theorem removeD_N (S:MS) (id:Int):(removeD S id).2.N=S.N:=by
 unfold removeD;split
 ·rfl
 ·simp [endM,takeM_N]
theorem setD_N (S:MS) (id:Int) (name v:Bs):(setD S id name v).2.N=S.N:=by
 unfold setD;repeat' split
 all_goals rfl
theorem delD_N (S:MS) (id:Int) (name:Bs):(delD S id name).2.N=S.N:=by
 unfold delD;repeat' split
 all_goals rfl
theorem textD_N (S:MS) (id:Int) (s:Bs):(textD S id s).2.N=S.N:=by
 unfold textD;repeat' split
 all_goals rfl
theorem doD_run (hS:S.Ok R) (hD:DM (liveL S) S.st S.kd S.N av p q g) (hL:(liveL S).length≤4194304) (x:GOp) (hs:smallAttrs x.attrs) {n:Nat} (hn:(liveL S).length<n) (hR:R+3<n) (hx:x.attrs.length<n) (hn2:1048577<n) :
  ∃ av' q' g',acall T (n+38) 52 [DP p,.p (.agg x.pv)] g=some (.tuple [.p (.int .i64 (doD S x).1),.p (.int .i64 (doD S x).2.1)],g')∧DM (liveL (doD S x).2.2) (doD S x).2.2.st (doD S x).2.2.kd (doD S x).2.2.N av' p q' g'∧DFr (liveL S) av p q g (liveL (doD S x).2.2) av' q' g':=by
 unfold doD
 by_cases h1:x.kind=1
 ·rw [if_pos h1]
  have e1:(x.kind==1)=true:=by simpa using h1
  obtain ⟨av',g',hc,hD',hF⟩:=createD_run hD hL x hs (n:=n) (by omega) (by omega)
  by_cases hz:createErr S.N x=0
  ·rw [if_pos hz] at hc hD' hF ⊢
   refine ⟨av',q,g', ?_,hD',hF⟩
   rw [acall_code T52,run_code rfl rfl]
   simp -implicitDefEqProofs (disch:=omega) only [Rx,simprocAttr,F52,GOp.pv,attrsPV,e1,hc]
  ·rw [if_neg hz] at hc hD' hF ⊢
   refine ⟨av',q,g', ?_,hD',hF⟩
   generalize createErr S.N x=e at hc
   rw [acall_code T52,run_code rfl rfl]
   simp -implicitDefEqProofs (disch:=omega) only [Rx,simprocAttr,F52,GOp.pv,attrsPV,e1,hc]
 rw [if_neg h1]
 have e1:(x.kind==1)=false:=by simpa using h1
 by_cases h2:x.kind=2
 ·rw [if_pos h2]
  have e2:(x.kind==2)=true:=by simpa using h2
  obtain ⟨av',g',hc,hD',hF⟩:=insertD_run hS hD hL x.node x.up x.before (n:=n+33) (by omega) (by omega)
  refine ⟨av',q,g', ?_,by rw [insertD_N];exact hD',hF⟩
  generalize insertD S x.node x.up x.before=z at hc
  rw [acall_code T52,run_code rfl rfl]
  simp -implicitDefEqProofs (disch:=omega) only [Rx,simprocAttr,F52,GOp.pv,attrsPV,e1,e2,hc]
 rw [if_neg h2]
 have e2:(x.kind==2)=false:=by simpa using h2
 by_cases h3:x.kind=3
 ·rw [if_pos h3]
  have e3:(x.kind==3)=true:=by simpa using h3
  obtain ⟨av',g',hc,hD',hF⟩:=moveD_run hS hD hL x.node x.before (n:=n+33) (by omega)
  refine ⟨av',q,g', ?_,by rw [moveD_N];exact hD',hF⟩
  generalize moveD S x.node x.before=z at hc
  rw [acall_code T52,run_code rfl rfl]
  simp -implicitDefEqProofs (disch:=omega) only [Rx,simprocAttr,F52,GOp.pv,attrsPV,e1,e2,e3,hc]
 rw [if_neg h3]
 have e3:(x.kind==3)=false:=by simpa using h3
 by_cases h4:x.kind=4
 ·rw [if_pos h4]
  have e4:(x.kind==4)=true:=by simpa using h4
  obtain ⟨av',q',g',hc,hD',hF⟩:=removeD_run hS hD hL x.node (n:=n+33) (by omega) (by omega)
  refine ⟨av',q',g', ?_,by rw [removeD_N];exact hD',hF⟩
  generalize removeD S x.node=z at hc
  rw [acall_code T52,run_code rfl rfl]
  simp -implicitDefEqProofs (disch:=omega) only [Rx,simprocAttr,F52,GOp.pv,attrsPV,e1,e2,e3,e4,hc]
 rw [if_neg h4]
 have e4:(x.kind==4)=false:=by simpa using h4
 by_cases h5:x.kind=5
 ·rw [if_pos h5]
  have e5:(x.kind==5)=true:=by simpa using h5
  obtain ⟨g',hc,hD',hF⟩:=setD_run hS hD hL x.node x.name x.text (n:=n+1) (by omega) (by omega)
  refine ⟨av,q,g', ?_,by rw [setD_N];exact hD',hF⟩
  generalize setD S x.node x.name x.text=z at hc
  rw [acall_code T52,run_code rfl rfl]
  simp -implicitDefEqProofs (disch:=omega) only [Rx,simprocAttr,F52,GOp.pv,attrsPV,e1,e2,e3,e4,e5,hc]
 rw [if_neg h5]
 have e5:(x.kind==5)=false:=by simpa using h5
 by_cases h6:x.kind=6
 ·rw [if_pos h6]
  have e6:(x.kind==6)=true:=by simpa using h6
  obtain ⟨g',hc,hD',hF⟩:=delD_run hS hD hL x.node x.name (n:=n+34) (by omega) (by omega)
  refine ⟨av,q,g', ?_,by rw [delD_N];exact hD',hF⟩
  generalize delD S x.node x.name=z at hc
  rw [acall_code T52,run_code rfl rfl]
  simp -implicitDefEqProofs (disch:=omega) only [Rx,simprocAttr,F52,GOp.pv,attrsPV,e1,e2,e3,e4,e5,e6,hc]
 rw [if_neg h6]
 have e6:(x.kind==6)=false:=by simpa using h6
 by_cases h7:x.kind=7
 ·rw [if_pos h7]
  have e7:(x.kind==7)=true:=by simpa using h7
  obtain ⟨g',hc,hD',hF⟩:=textD_run hD hL x.node x.text (n:=n+34) (by omega)
  refine ⟨av,q,g', ?_,by rw [textD_N];exact hD',hF⟩
  generalize textD S x.node x.text=z at hc
  rw [acall_code T52,run_code rfl rfl]
  simp -implicitDefEqProofs (disch:=omega) only [Rx,simprocAttr,F52,GOp.pv,attrsPV,e1,e2,e3,e4,e5,e6,e7,hc]
 rw [if_neg h7]
 have e7:(x.kind==7)=false:=by simpa using h7
 refine ⟨av,q,g, ?_,hD,DFr.refl _ _ _ _ _⟩
 rw [acall_code T52,run_code rfl rfl]
 simp -implicitDefEqProofs (disch:=omega) only [Rx,simprocAttr,F52,GOp.pv,attrsPV,e1,e2,e3,e4,e5,e6,e7]
end
end Go.TA.Tryz


end
section
/- The document's answer does what a machine does. -/
set_option maxRecDepth 100000
set_option maxHeartbeats 8000000
namespace Go.TA.Tryz
structure FineOp (x:GOp):Prop where
 kind:1≤x.kind∧x.kind≤7
 tag:x.kind=1→namedB false x.tag=true
 name:x.kind=5∨x.kind=6→namedB true x.name=true
 key:(x.key.length:Int)≤65536
 text:(x.text.length:Int)≤65536
 attrs:attrsErr x.attrs=0
 hs:0≤x.node∧x.node≤4294967295∧0≤x.up∧x.up≤4294967295∧0≤x.before∧x.before≤4294967295
 none:noneB x=false
theorem fineOp_of {x:GOp} (h:opErr x=0):FineOp x:=by
 unfold opErr at h
 split at h
 ·omega
 split at h
 ·omega
 split at h
 ·omega
 split at h
 ·omega
 split at h
 ·omega
 split at h
 ·omega
 split at h
 ·omega
 split at h
 ·omega
 split at h
 ·omega
 split at h
 ·omega
 rename_i h1 h2 h3 h4 h5 h6 h7 h8 h9 h10
 simp only [Bool.not_eq_false,Bool.not_eq_true] at h3 h4 h5 h6 h7 h8
 simp only [hOk,Bool.and_eq_true,decide_eq_true_eq] at h3 h4 h5
 refine ⟨⟨by omega,by omega⟩,fun hk => ?_,fun hk => ?_,by omega,by omega,h,⟨h3.1,h3.2,h4.1,h4.2,h5.1,h5.2⟩,h6⟩
 ·simpa [tagBad,hk] using h7
 ·rcases hk with hk | hk
  ·simpa [nameBad,hk] using h8
  ·simpa [nameBad,hk] using h8
theorem fit_node {S:MS} {h:Int} (h0:h≠0):fitE S h=if liveB S h=true then 0 else 13:=by simp [fitE,h0]
theorem doD_doM {S:MS} {x:GOp} (h:opErr x=0) (hN:S.N≤4294967295):(doD S x).2=doM S x:=by
 have hf:=fineOp_of h
 unfold doD doM
 by_cases h1:x.kind=1
 ·rw [if_pos h1,if_pos h1]
  have hz:createErr S.N x=0:=by
   have:=hf.key
   have:=hf.text
   simp only [createErr,hf.tag h1,Bool.true_eq_false,if_false,hf.attrs,ne_eq,not_true_eq_false]
   rw [if_neg (by omega),if_neg (by omega)]
  rw [if_pos hz]
 rw [if_neg h1,if_neg h1]
 by_cases h0:x.node=0
 ·rw [if_pos h0]
  have f0:fitE S x.node=14:=by simp [fitE,h0]
  by_cases h2:x.kind=2
  ·simp only [if_pos h2,insertD,f0];rfl
  rw [if_neg h2]
  by_cases h3:x.kind=3
  ·simp only [if_pos h3,moveD,f0];rfl
  rw [if_neg h3]
  by_cases h4:x.kind=4
  ·simp only [if_pos h4,removeD,f0];rfl
  rw [if_neg h4]
  by_cases h5:x.kind=5
  ·simp only [if_pos h5,setD,f0];rfl
  rw [if_neg h5]
  by_cases h6:x.kind=6
  ·simp only [if_pos h6,delD,f0];rfl
  rw [if_neg h6]
  have h7:x.kind=7:=by have:=hf.kind;omega
  simp only [if_pos h7,textD,f0];rfl
 rw [if_neg h0]
 have fn:=fit_node (S:=S) h0
 by_cases h2:x.kind=2
 ·rw [if_pos h2,if_pos h2]
  unfold insertD insertM
  rw [fn]
  cases hl:liveB S x.node <;> simp
 rw [if_neg h2,if_neg h2]
 by_cases h3:x.kind=3
 ·rw [if_pos h3,if_pos h3]
  unfold moveD moveM
  rw [fn]
  cases hl:liveB S x.node <;> simp
 rw [if_neg h3,if_neg h3]
 by_cases h4:x.kind=4
 ·rw [if_pos h4,if_pos h4]
  unfold removeD
  rw [fn]
  cases hl:liveB S x.node <;> simp
 rw [if_neg h4,if_neg h4]
 unfold changeM
 by_cases h5:x.kind=5
 ·have:=hf.text
  have hn:=hf.name (.inl h5)
  rw [if_pos h5,if_pos h5]
  unfold setD
  rw [fn]
  cases hl:liveB S x.node
  ·simp
  ·simp only [if_true,ne_eq,not_true_eq_false,if_false,hn,Bool.true_eq_false]
   rw [if_neg (by omega)]
 rw [if_neg h5,if_neg h5]
 by_cases h6:x.kind=6
 ·rw [if_pos h6,if_pos h6]
  unfold delD
  rw [fn]
  cases hl:liveB S x.node <;> simp
 rw [if_neg h6,if_neg h6]
 have h7:x.kind=7:=by have:=hf.kind;omega
 rw [if_pos h7,if_pos h7]
 unfold textD
 rw [fn]
 have:=hf.text
 cases hl:liveB S x.node
 ·simp
 ·simp only [if_true,ne_eq,not_true_eq_false,if_false,Bool.true_eq_false]
  rw [if_neg (by omega)]
section
variable {R:Nat} {S:MS} {av:Nat→AV} {p q:Nat} {g:List AObj}
theorem refDo_run (hS:S.Ok R) (hD:DM (liveL S) S.st S.kd S.N av p q g) (hL:(liveL S).length≤4194304) (hN:S.N≤4294967295) (x:GOp) (hs:smallAttrs x.attrs) {n:Nat} (hn:(liveL S).length<n) (hR:R+3<n) (hx:x.attrs.length<n) (hn2:1048577<n) :
  ∃ av' q' g',acall T (n+39) 25 [DP p,.p (.agg x.pv)] g=some (.p (.int .i64 (doE S x).1),g')∧DM (liveL (doE S x).2) (doE S x).2.st (doE S x).2.kd (doE S x).2.N av' p q' g'∧DFr (liveL S) av p q g (liveL (doE S x).2) av' q' g':=by
 have hck:=fun g=>ref25_run x hs g (n:=n+1) (by omega) (by omega)
 unfold doE
 by_cases h:opErr x=0
 ·rw [if_pos h]
  rw [h] at hck
  obtain ⟨av',q',g',hc,hD',hF⟩:=doD_run hS hD hL x hs hn hR hx hn2
  have e:=doD_doM (S:=S) h hN
  rw [e] at hc hD' hF
  refine ⟨av',q',g', ?_,hD',hF⟩
  rw [acall_code T25,run_code rfl rfl]
  generalize (doD S x).1=z at hc
  generalize doM S x=y at hc
  simp only [GOp.pv,attrsPV] at hc hck
  simp -implicitDefEqProofs (disch:=omega) only [Rx,simprocAttr,F25,GOp.pv,attrsPV,hck,hc]
 ·rw [if_neg h]
  have e1:(opErr x==0)=false:=by simpa using h
  refine ⟨av,q,g, ?_,hD,DFr.refl _ _ _ _ _⟩
  rw [acall_code T25,run_code rfl rfl]
  generalize opErr x=e at hck e1 ⊢
  simp only [GOp.pv,attrsPV] at hck
  simp -implicitDefEqProofs (disch:=omega) only [Rx,simprocAttr,F25,GOp.pv,attrsPV,hck,e1]
end
end Go.TA.Tryz


end
section
/- What is wrong with rows: the document's answer. -/
set_option maxRecDepth 100000
set_option maxHeartbeats 8000000
namespace Go.TA.Tryz
def twinB (x y:GRow):Bool:=(y.up==x.up) && (y.key==x.key)
def dupB (l:List GRow) (i:Nat) (x:GRow):Bool := !(x.key==[]) && (l.take i).any (twinB x)
def rowErr (l:List GRow) (i:Nat) (x:GRow):Int:=if i=4096 then 12 else if 64<(chain l (i+1)).length then 11 else if aloneErr x=0 then (if dupB l i x=true then 10 else 0) else aloneErr x
def errFrom (l:List GRow):Nat→List GRow→Int
 | _,[]=>0
 | i,x::r=>if rowErr l i x=0 then errFrom l (i+1) r else rowErr l i x
def check13 (l:List GRow):Int:=if formedB l=true then errFrom l 0 l else 2
def dupOut (l:List GRow) (i:Nat) (r:Bool):Ex × St:=if r=true then (.ret,⟨[(2,.p (.int .i64 10))],[],[]⟩) else (.exit 2,⟨[(0,.p (.list (l.map GRow.pv))),(10,.p (.int .i64 l.length)),(11,.p (.int .i64 i))],[],[]⟩)
theorem dup_loop {n N : Nat} (l : List GRow) (i : Nat) (x : GRow) (hx : l[i]? = some x) (hl : l.length ≤ 1048576) (hN : l.length < N) :
    aexec (acall T n) N (.loop B13x1) ⟨[(0,.p (.list (l.map GRow.pv))),(3,.p (.int .i64 i)),(10,.p (.int .i64 l.length)),(11,.p (.int .i64 i)),(46,.p (.int .i64 i)),(47,.p (.int .i64 ((0:Nat):Int)))],[],[]⟩=some (dupOut l i (dupB l i x)):=by
  have hlt:i<l.length:=(List.getElem?_eq_some_iff.1 hx).1
  have hg:=getD_map (f:=GRow.pv) hx
  have:=loop_rule' (C:=acall T n) (N:=N) (B:=B13x1) (σ := Nat) (S:=fun k=>⟨[(0,.p (.list (l.map GRow.pv))),(3,.p (.int .i64 i)),(10,.p (.int .i64 l.length)),(11,.p (.int .i64 i)),(46,.p (.int .i64 i)),(47,.p (.int .i64 k))],[],[]⟩) (I:=fun k=>k≤i) (μ := fun k=>i - k)
    (Φ := fun k=>dupOut l i (!(x.key==[]) && ((l.take i).drop k).any (twinB x))) ?_ 0 (by omega) (by omega)
  · simpa [dupB] using this
  intro k hk
  by_cases h:k<i
  · have k1 : (k : Int) < (i : Int) := by omega
    have k2:(i:Int)<(l.length:Int):=by omega
    have k3:(k:Int)<(l.length:Int):=by omega
    obtain ⟨y,hy⟩:=get_some (show k<l.length by omega)
    have hgy:=getD_map (f:=GRow.pv) hy
    have hd:(l.take i).drop k=y::(l.take i).drop (k+1):=by
      rw [List.drop_eq_getElem?_toList_append,List.getElem?_take,if_pos h,hy];rfl
    have next:(!(x.key==[]) && twinB x y)=false→dupOut l i (!(x.key==[]) && ((l.take i).drop k).any (twinB x))=dupOut l i (!(x.key==[]) && ((l.take i).drop (k+1)).any (twinB x)):=fun h=>by
      rw [hd,List.any_cons,Bool.and_or_distrib_left,h,Bool.false_or]
    cases hk0:(x.key==[]) with
    | true =>
      refine .inl ⟨k+1, ?_,by omega,by omega,by rw [hk0] at next;exact next rfl⟩
      simp -implicitDefEqProofs (disch:=omega) only [Rx,simprocAttr,B13x1,k1,k2,hg,GRow.pv,hk0]
    | false =>
      cases hu:(y.up==x.up) with
      | false =>
        refine .inl ⟨k+1, ?_,by omega,by omega,by rw [hk0] at next;exact next (by simp [twinB,hu])⟩
        simp -implicitDefEqProofs (disch:=omega) only [Rx,simprocAttr,B13x1,k1,k2,k3,hg,hgy,GRow.pv,hk0,hu]
      | true =>
        cases hke:(y.key==x.key) with
        | false =>
          refine .inl ⟨k+1, ?_,by omega,by omega,by rw [hk0] at next;exact next (by simp [twinB,hke])⟩
          simp -implicitDefEqProofs (disch:=omega) only [Rx,simprocAttr,B13x1,k1,k2,k3,hg,hgy,GRow.pv,hk0,hu,hke]
        | true =>
          have e:dupOut l i (!false && ((l.take i).drop k).any (twinB x))=(.ret,⟨[(2,.p (.int .i64 10))],[],[]⟩):=by
            rw [hd,List.any_cons];simp [twinB,hu,hke,dupOut]
          refine .inr ?_
          rw [e]
          refine ⟨?_,by simp⟩
          simp -implicitDefEqProofs (disch:=omega) only [Rx,simprocAttr,B13x1,k1,k2,k3,hg,hgy,GRow.pv,hk0,hu,hke]
  · have k1:¬ (k:Int)<(i:Int):=by omega
    have e:(l.take i).drop k=[]:=List.drop_eq_nil_of_le (by rw [List.length_take];omega)
    refine .inr ?_
    rw [e,List.any_nil,Bool.and_false]
    have e2:dupOut l i false=(.exit 2,⟨[(0,.p (.list (l.map GRow.pv))),(10,.p (.int .i64 l.length)),(11,.p (.int .i64 i))],[],[]⟩):=by simp [dupOut]
    rw [e2]
    refine ⟨?_,by simp⟩
    simp -implicitDefEqProofs (disch:=omega) only [Rx,simprocAttr,B13x1,k1]
def errOut (r:Int):Ex × St:=if r=0 then (.exit 0,⟨[],[],[]⟩) else (.ret,⟨[(2,.p (.int .i64 r))],[],[]⟩)
theorem err_loop {n N m:Nat} (l:List GRow) (hl:Rows.small m l) (hm:m≤1048577) (hs:standTo l l.length) (hN:m≤N) (hn:1048577≤n) :
    aexec (acall T (n+37)) N (.loop B13x0) ⟨[(0,.p (.list (l.map GRow.pv))),(10,.p (.int .i64 l.length)),(11,.p (.int .i64 ((0:Nat):Int)))],[],[]⟩=some (errOut (errFrom l 0 l)):=by
  have hlen:=hl.len
  have:=loop_rule' (C:=acall T (n+37)) (N:=N) (B:=B13x0) (σ := Nat) (S:=fun i=>⟨[(0,.p (.list (l.map GRow.pv))),(10,.p (.int .i64 l.length)),(11,.p (.int .i64 i))],[],[]⟩) (I:=fun i=>i≤l.length∧i≤4096) (μ := fun i=>l.length - i)
    (Φ := fun i=>errOut (errFrom l i (l.drop i))) ?_ 0 ⟨by omega,by omega⟩ (by omega)
  · simpa using this
  rintro i ⟨hi,hi4⟩
  by_cases h:i<l.length
  · have k1:(i:Int)<(l.length:Int):=by omega
    obtain ⟨x,hx⟩:=get_some h
    have hg:=getD_map (f:=GRow.pv) hx
    have hsm:=hl.row x (List.mem_of_getElem? hx)
    have hd:l.drop i=x::l.drop (i+1):=by rw [List.drop_eq_getElem?_toList_append,hx];rfl
    rw [hd]
    have bad:∀ e:Int,rowErr l i x=e→e≠0→errOut (errFrom l i (x::l.drop (i+1)))=(.ret,⟨[(2,.p (.int .i64 e))],[],[]⟩):=fun e h1 h2=>by
      simp only [errFrom,h1,if_neg h2,errOut]
    by_cases h4:i=4096
    · refine .inr ?_
      rw [bad 12 (by simp [rowErr,h4]) (by decide)]
      refine ⟨?_,by simp⟩
      have k2:((i:Int)==4096)=true:=by simp;omega
      simp -implicitDefEqProofs (disch:=omega) only [Rx,simprocAttr,B13x0,k1,k2]
    have k2:((i:Int)==4096)=false:=by simp;omega
    have hdep:=depth_run (n:=n+36) l (i+1) (hs.mono (by omega)) (by omega) (by omega) [] (by omega)
    simp only [Int.natCast_add,Int.natCast_one] at hdep
    by_cases h64:64<(chain l (i+1)).length
    · refine .inr ?_
      rw [bad 11 (by simp [rowErr,h4,h64]) (by decide)]
      refine ⟨?_,by simp⟩
      have k3:(64:Int)<((chain l (i+1)).length:Int):=by omega
      simp -implicitDefEqProofs (disch:=omega) only [Rx,simprocAttr,B13x0,k1,k2,hdep,k3]
    have k3:¬ (64:Int)<((chain l (i+1)).length:Int):=by omega
    have hal:=alone_run (n:=n) x [] hsm.small [] (by have:=hsm.attrs;omega) (by omega)
    simp only [nodeCells] at hal
    by_cases ha:aloneErr x=0
    rotate_left
    · refine .inr ?_
      rw [bad (aloneErr x) (by simp [rowErr,h4,h64,ha]) ha]
      refine ⟨?_,by simp⟩
      have ha':(aloneErr x==0)=false:=by simpa using ha
      simp -implicitDefEqProofs (disch:=omega) only [Rx,simprocAttr,B13x0,k1,k2,hdep,k3,hg,GRow.pv,attrsPV,hal,ha']
    have hdl:=dup_loop (n:=n+37) (N:=N) l i x hx (by omega) (by omega)
    simp only [Int.natCast_zero] at hdl
    rw [ha] at hal
    cases hdup:dupB l i x with
    | true =>
      refine .inr ?_
      rw [bad 10 (by simp [rowErr,h4,h64,ha,hdup]) (by decide)]
      refine ⟨?_,by simp⟩
      rw [hdup] at hdl
      simp only [dupOut,if_true] at hdl
      simp -implicitDefEqProofs (disch:=omega) only [Rx,simprocAttr,B13x0,k1,k2,hdep,k3,hg,GRow.pv,attrsPV,hal,hdl]
    | false =>
      have e:rowErr l i x=0:=by simp [rowErr,h4,h64,ha,hdup]
      refine .inl ⟨i+1, ?_,⟨by omega,by omega⟩,by omega,by simp only [errFrom,e,if_true]⟩
      rw [hdup] at hdl
      simp only [dupOut,Bool.false_eq_true,if_false] at hdl
      simp -implicitDefEqProofs (disch:=omega) only [Rx,simprocAttr,B13x0,k1,k2,hdep,k3,hg,GRow.pv,attrsPV,hal,hdl]
  · have k1:¬ (i:Int)<(l.length:Int):=by omega
    have e:l.drop i=[]:=List.drop_eq_nil_of_le (by omega)
    refine .inr ⟨?_,by rw [e];simp [errFrom,errOut]⟩
    rw [e]
    simp -implicitDefEqProofs (disch:=omega) only [Rx,simprocAttr,B13x0,k1,errFrom,errOut]
theorem check13_run (l:List GRow) {m n:Nat} (hl:Rows.small m l) (hm:m≤1048577) (hn:1048577≤n) (g:List AObj):acall T (n+38) 13 [.p (.list (l.map GRow.pv))] g=some (.p (.int .i64 (check13 l)),g):=by
  rw [acall_code T13,run_pure rfl rfl rfl]
  have hlen:=hl.len
  have hf:=form13_run (n:=n+35) l (by omega) [] (by omega)
  cases hb:formedB l with
  | false =>
    rw [hb] at hf
    have e:check13 l=2:=by simp [check13,hb]
    rw [e]
    simp -implicitDefEqProofs (disch:=omega) only [Rx,simprocAttr,F13,hf]
  | true =>
    rw [hb] at hf
    have hloop:=err_loop (n:=n) (N:=n+37) (m:=m) l hl hm (formed_stands hb) (by omega) hn
    simp only [Int.natCast_zero] at hloop
    have e:check13 l=errFrom l 0 l:=by simp [check13,hb]
    rw [e]
    by_cases h0:errFrom l 0 l=0
    · rw [h0] at hloop ⊢
      simp only [errOut,if_true] at hloop
      simp -implicitDefEqProofs (disch:=omega) only [Rx,simprocAttr,F13,hf,hloop]
    · simp only [errOut,if_neg h0] at hloop
      simp -implicitDefEqProofs (disch:=omega) only [Rx,simprocAttr,F13,hf,hloop]
end Go.TA.Tryz


end
section
/- The program's look at the tree of rows that are right. -/
set_option maxRecDepth 100000
set_option maxHeartbeats 8000000
namespace Go.TA.Tryz
def allOk (l:List GRow):Prop:=∀ (i:Nat) x,l[i]? = some x→rowErr l i x=0
theorem errFrom_ok {l:List GRow}:∀ {i:Nat},errFrom l i (l.drop i)=0→∀ (j:Nat) x,i≤j→l[j]? = some x→rowErr l j x=0:=by
  intro i h j x hij hj
  obtain ⟨d,rfl⟩:∃ d,j=i+d:=⟨j - i,by omega⟩
  induction d generalizing i with
  | zero =>
    have e:l.drop i=x::l.drop (i+1):=by rw [List.drop_eq_getElem?_toList_append];simp at hj;rw [hj];rfl
    rw [e] at h
    simp only [errFrom] at h
    by_cases h0:rowErr l i x=0
    · simpa using h0
    · rw [if_neg h0] at h;exact absurd h h0
  | succ d ih =>
    have hlt:i<l.length:=by
      have:=(List.getElem?_eq_some_iff.1 hj).1
      omega
    obtain ⟨y,hy⟩:=get_some hlt
    have e:l.drop i=y::l.drop (i+1):=by rw [List.drop_eq_getElem?_toList_append,hy];rfl
    rw [e] at h
    simp only [errFrom] at h
    have h0:rowErr l i y=0:=by
      by_cases h0:rowErr l i y=0
      · exact h0
      · rw [if_neg h0] at h;exact absurd h h0
    rw [if_pos h0] at h
    have:=ih h (by omega) (by rw [← hj];congr 1;omega)
    rw [show i+(d+1)=i+1+d by omega]
    exact this
theorem check13_ok {l:List GRow} (h:check13 l=0):formedB l=true∧allOk l:=by
 unfold check13 at h
 split at h
 ·rename_i hf
  exact ⟨hf,fun i x hx=>errFrom_ok (i:=0) (by simpa using h) i x (by omega) hx⟩
 ·omega
theorem rowErr_ok {l : List GRow} {i : Nat} {x : GRow} (h : rowErr l i x = 0) : i ≠ 4096 ∧ (chain l (i + 1)).length ≤ 64 ∧ aloneErr x = 0 ∧ dupB l i x = false := by
  unfold rowErr at h
  split at h
  · omega
  · rename_i h1
    split at h
    · omega
    · rename_i h2
      split at h
      · rename_i h3
        split at h
        · omega
        · rename_i h4
          exact ⟨h1,by omega,h3,by simpa using h4⟩
      · rename_i h3
        exact absurd h h3
def KOk (l:List GRow) (u:Int) (b:Nat) (es:List (PV × AV)):Prop:=∀ e ∈ es,∃ k:Bs,e.1 = .str k∧k≠[]∧∃ (j:Nat) (y:GRow),j<b∧l[j]? = some y∧y.up=u∧y.key=k
theorem KOk.mono {l:List GRow} {u:Int} {b b':Nat} {es:List (PV × AV)} (h:KOk l u b es) (hb:b≤b'):KOk l u b' es:=fun e he=>by
 obtain ⟨k,h1,h2,j,y,h3,h4⟩:=h e he
 exact ⟨k,h1,h2,j,y,by omega,h4⟩
theorem KOk.strs {l:List GRow} {u:Int} {b:Nat} {es:List (PV × AV)} (h:KOk l u b es) (k:Bs):(es.all fun e=>(scalarEqK 2 e.1 (.str k)).isSome)=true:=by
 rw [List.all_eq_true]
 intro e he
 obtain ⟨k',h1,_⟩:=h e he
 rw [h1];rfl
theorem KOk.none {l:List GRow} {x:GRow} {b:Nat} {es:List (PV × AV)} (h:KOk l x.up b es) (hd:dupB l b x=false):mlk 2 es (.str x.key)=none:=by
  have key:∀ e ∈ es,scalarEqK 2 e.1 (.str x.key)≠some true:=by
    intro e he hc
    obtain ⟨k,h1,h2,j,y,h3,h4,h5,h6⟩:=h e he
    rw [h1] at hc
    have hk:k=x.key:=by simpa [scalarEqK] using hc
    have:dupB l b x=true:=by
      simp only [dupB,Bool.and_eq_true,Bool.not_eq_true',List.any_eq_true]
      refine ⟨by rw [← hk];simpa using h2,y, ?_,by simp [twinB,h5,h6,hk]⟩
      rw [List.mem_iff_getElem?]
      exact ⟨j,by rw [List.getElem?_take,if_pos h3];exact h4⟩
    rw [this] at hd
    cases hd
  induction es with
  | nil=>rfl
  | cons e es ih =>
    obtain ⟨a,v⟩:=e
    simp only [mlk]
    rw [if_neg (key (a,v) (by simp))]
    exact ih (fun e he=>h e (by simp [he])) (fun e he=>key e (by simp [he]))
theorem mput_none {es:List (PV × AV)} {k:PV} {v:AV} (h:mlk 2 es k=none):mput 2 es k v=es++[(k,v)]:=by
  induction es with
  | nil=>rfl
  | cons e es ih =>
    obtain ⟨a,w⟩:=e
    simp only [mlk,mput] at h ⊢
    by_cases hc:scalarEqK 2 a k=some true
    · rw [if_pos hc] at h;cases h
    · rw [if_neg hc] at h
      rw [if_neg hc,ih h];rfl
theorem KOk.more {l:List GRow} {x:GRow} {b:Nat} {es:List (PV × AV)} (h:KOk l x.up b es) (hx:l[b]? = some x) (hk:x.key≠[]) (v:AV):KOk l x.up (b+1) (es++[(.str x.key,v)]):=by
 intro e he
 rcases List.mem_append.1 he with he | he
 ·exact (h.mono (by omega)) e he
 ·simp only [List.mem_singleton] at he
  subst he
  exact ⟨x.key,rfl,hk,b,x,by omega,hx,rfl,rfl⟩
def LK (m:Nat) (deep:Int):AObj:=.pcells 3 [[.int .i64 m,.int .i64 deep,.int .i64 0]]
def VK:AObj:=.cells 1 [[.func 129 [.ptr true 0 3 1 0 0,.ptr true 1 1 1 0 0]]]
def pL:AV:=.ptr true 0 3 1 0 0
def pV:AV:=.ptr true 1 1 1 0 0
def Seen (l:List GRow) (u:Int) (b:Nat) (j:Nat) (ms:List AObj) (r:AV × List AObj):Prop :=
 ∃ deep ms' es,r=(.p (.bool true),LK b deep::VK::ms')∧ms.length≤ms'.length∧ms'[j]? = some (.map es)∧KOk l u b es∧∀ j',j'<ms.length→j'≠j→ms'[j']? = ms[j']?
def visS (d:Int) (ks:List (List PV)) (jb i m:Nat) (deep:Int) (ms:List AObj):St:=⟨[(1,.p (.int .i64 d)),(4,.ptr true 1 1 1 0 0),(11,.map true (jb+1+1)),(61,.p (.list ks)),(62,.p (.int .i64 ks.length)),(63,.p (.int .i64 i))],[],LK m deep::VK::ms⟩
theorem vis_loop {n N:Nat} (l:List GRow) (a b:Nat) (d:Int) (ks:List (List PV)) (hbt:BTs l a b ks) (hl:l.length≤1048576) (ha:a<l.length) (hd : -1000000≤d∧d≤1000000) (hN:ks.length<N) (ms0:List AObj) (deep0:Int)
  (ih:∀ m m' k es j deep ms,BT l m m' k→(∃ y,l[m]? = some y∧y.up=(a:Int)+1)→a<m→m'≤b→ms[j]? = some (.map es)→KOk l ((a:Int)+1) m es →
   ∃ r,acall T n 129 [.p (.agg k),.p (.int .i64 (d+1)),.map true (j+1+1),pL,pV] (LK m deep::VK::ms)=some r∧Seen l ((a:Int)+1) m' j ms r) :
  ∃ r,aexec (acall T n) N (.loop B129x0) (visS d ks ms0.length 0 (a+1) deep0 (ms0++[.map []]))=some r∧∃ deep ms',r=(.exit 1,⟨[],[],LK b deep::VK::ms'⟩)∧ms0.length≤ms'.length∧∀ j',j'<ms0.length→ms'[j']? = ms0[j']? := by
 refine loop_inv (σ := Nat × Nat × Int × List AObj) (S:=fun s=>visS d ks ms0.length s.1 s.2.1 s.2.2.1 s.2.2.2)
  (I:=fun s=>s.1≤ks.length∧BTs l a s.2.1 (ks.take s.1)∧ms0.length<s.2.2.2.length∧(∀ j',j'<ms0.length→s.2.2.2[j']? = ms0[j']?)∧∃ es,s.2.2.2[ms0.length]? = some (.map es)∧KOk l ((a:Int)+1) s.2.1 es) (μ := fun s=>ks.length - s.1)
  (Q:=fun r=>∃ deep ms',r=(.exit 1,⟨[],[],LK b deep::VK::ms'⟩)∧ms0.length≤ms'.length∧∀ j',j'<ms0.length→ms'[j']? = ms0[j']?) ?_ (0,a+1,deep0,ms0++[.map []]) ⟨by omega,by simpa using BTs.nil,by simp,fun j' hj=>by simp [List.getElem?_append_left hj],[],by simp,fun e he=>by simp at he⟩ (by simp only;omega)
 rintro ⟨i,m,deep,ms⟩ ⟨h1,h2,h3,h4,es,h5,h6⟩
 simp only at h1 h2 h3 h4 h5 h6 ⊢
 by_cases hi:i<ks.length
 ·obtain ⟨k,hk⟩:=get_some hi
  obtain ⟨q,q',y,p1,p2,p3,p4,p5,hle⟩:=hbt.at i k hk
  have hq:q=m:=p1.uniq h2 rfl
  subst hq
  have hlt:=(BTs.lt h2 ha)
  obtain ⟨r,hr,deep',ms',es',rfl,s1,s2,s3,s4⟩:=ih q q' k es ms0.length deep ms p4 ⟨y,p2,p3⟩ (by omega) hle h5 h6
  left
  refine ⟨(i+1,q',deep',ms'), ?_,⟨by omega,p5,by simp only;omega,fun j' hj=>by simp only;rw [s4 j' (by omega) (by omega)];exact h4 j' hj,es',s2,s3⟩,by simp only;omega⟩
  have hg:ks.getD i []=k:=by rw [List.getD_eq_getElem?_getD,hk];rfl
  have hkl:=p4.len
  obtain ⟨c1,c2,c3,c4,c5,rfl⟩:∃ c1 c2 c3 c4 c5,k=[c1,c2,c3,c4,c5]:=by
   match k,hkl with
   | [c1,c2,c3,c4,c5],_=>exact ⟨c1,c2,c3,c4,c5,rfl⟩
  have k1:(i:Int)<(ks.length:Int):=by omega
  have hkl2:=hbt.lt ha
  have k9:(i:Int)≤1048576:=by omega
  simp only [LK,VK,pL,pV] at hr
  simp only [visS,LK,VK]
  simp -implicitDefEqProofs (disch:=omega) only [Rx,simprocAttr,B129x0,k1,hg,hr]
 ·right
  obtain rfl:i=ks.length:=by omega
  rw [List.take_length] at h2
  have hm:m=b:=h2.uniq hbt rfl
  subst hm
  have k1:¬ (ks.length:Int)<(ks.length:Int):=by omega
  refine ⟨(.exit 1,⟨[],[],LK m deep::VK::ms⟩), ?_,by simp,deep,ms,rfl,by omega,h4⟩
  simp only [visS,LK,VK]
  simp -implicitDefEqProofs (disch:=omega) only [Rx,simprocAttr,B129x0,k1]
theorem vis_run (l : List GRow) (hl : l.length ≤ 1048576) (hs : standTo l l.length) (hok : allOk l) (hal : ∀ x ∈ l, x.attrs.length ≤ 1048577) : ∀ (D n a b : Nat) (p : List PV) (x : GRow) (es : List (PV × AV)) (j : Nat) (deep : Int) (ms : List AObj), b - a ≤ D → 1048577 < n → BT l a b p → l[a]? = some x → ms[j]? = some (.map es) → KOk l x.up a es →
    ∃ r,acall T (n+D+39) 129 [.p (.agg p),.p (.int .i64 (chain l (a+1)).length),.map true (j+1+1),pL,pV] (LK a deep::VK::ms)=some r∧Seen l x.up b j ms r:=by
  intro D
  induction D with
  | zero =>
    intro n a b p x es j deep ms hD hn hbt
    have:=hbt.lt
    omega
  | succ D ih =>
    intro n a b p x es j deep ms hD hn hbt hx hj hes
    have hlt:=hbt.lt
    cases hbt with
    | mk hx' hks=>
    rename_i x' ks
    rw [hx] at hx'
    cases hx'
    have ha:a<l.length:=by omega
    obtain ⟨h1,h2,h3,h4⟩:=rowErr_ok (hok a x hx)
    have hlk:=hes.none h4
    have hst:=hes.strs x.key
    have hw:=wrong_run (n:=n+D+1) x ks [] (by have:=hal x (List.mem_of_getElem? hx);omega)
    rw [h3,show n+D+1+38=n+D+39 by omega] at hw
    simp only [nodeCells] at hw
    have k1:((a:Int)==4096)=false:=by simp;omega
    have k2:¬ (64:Int)<((chain l (a+1)).length:Int):=by omega
    have hjl:j<ms.length:=(List.getElem?_eq_some_iff.1 hj).1
    obtain ⟨es1,he1,hes1⟩:∃ es1,es1=(if x.key=[] then es else es++[(.str x.key,.p (.agg []))])∧KOk l x.up (a+1) es1:=by
      refine ⟨_,rfl, ?_⟩
      split
      · exact hes.mono (by omega)
      · rename_i hk;exact hes.more hx hk _
    have hcx:∀ m y,l[m]? = some y→y.up=(a:Int)+1→a<m→(chain l (m+1)).length=(chain l (a+1)).length+1:=by
      intro m y hy hu ham
      have hm:m<l.length:=(List.getElem?_eq_some_iff.1 hy).1
      rw [chain_succ hs (Nat.le_refl _) hm]
      have:upAt l (m+1)=a+1:=by simp [upAt,hy,hu]
      rw [this,List.length_cons]
    have hks':=hks.lt ha
    obtain ⟨r,hr,deep',ms',rfl,hml,hsame⟩:=vis_loop (n:=n+D+39) (N:=n+D+39) l a b (chain l (a+1)).length ks hks hl ha (by omega) (by omega) (ms.set j (.map es1)) (if ((chain l (a+1)).length:Int) > deep then ((chain l (a+1)).length:Int) else deep) (fun m m' k es' j' deep' ms' hb1 hy ham hmb hj' hes'=>by
      obtain ⟨y,hy,hu⟩:=hy
      have:=hb1.lt
      have hc:=hcx m y hy hu ham
      have:=ih n m m' k y es' j' deep' ms' (by omega) hn hb1 hy hj' (by rw [hu];exact hes')
      rw [hc,hu] at this
      push_cast at this
      exact this)
    refine ⟨(.p (.bool true),LK b deep'::VK::ms'), ?_,deep',ms',es1,rfl,by simpa using hml, ?_,hes1.mono (by omega),fun j' hj' hne => ?_⟩
    rotate_left
    · rw [hsame j (by simpa using hjl),List.getElem?_set,if_pos rfl,if_pos hjl]
    · rw [hsame j' (by simpa using hj'),List.getElem?_set,if_neg (fun e=>hne e.symm)]
    rw [show n+(D+1)+39=n+D+39+1 by omega,acall_code T129,run_code rfl rfl]
    simp only [visS,LK,VK,Int.natCast_add,Int.natCast_one,Int.natCast_zero] at hr
    simp only [nodeCells,LK,VK,pL,pV]
    by_cases hk:x.key=[]
    · have hk':(x.key==[])=true:=by simp [hk]
      rw [if_pos hk] at he1
      subst he1
      have hset:ms.set j (.map es1)=ms:=by
        apply List.ext_getElem?
        intro q
        rw [List.getElem?_set]
        split
        · rename_i e;subst e;exact hj.symm
        · rfl
      rw [hset] at hr
      have hlk':mlk 2 es1 (.str [])=none:=by rw [hk] at hlk;exact hlk
      have hst':(es1.all fun e=>(scalarEqK 2 e.1 (.str [])).isSome)=true:=by rw [hk] at hst;exact hst
      rw [hk] at hw
      by_cases hdp:((chain l (a+1)).length:Int) > deep
      · rw [if_pos hdp] at hr
        simp -implicitDefEqProofs (disch:=omega) only [Rx,simprocAttr,F129,hk,k1,k2,hw,hlk',hst',hj,hdp,hr,Option.getD_none,Option.isSome_none]
      · rw [if_neg hdp] at hr
        simp -implicitDefEqProofs (disch:=omega) only [Rx,simprocAttr,F129,hk,k1,k2,hw,hlk',hst',hj,hdp,hr,Option.getD_none,Option.isSome_none]
    · have hk':(x.key==[])=false:=by simpa using hk
      rw [if_neg hk] at he1
      subst he1
      have hmp:=mput_none (v:=.p (.agg [])) hlk
      by_cases hdp:((chain l (a+1)).length:Int) > deep
      · rw [if_pos hdp] at hr
        simp -implicitDefEqProofs (disch:=omega) only [Rx,simprocAttr,F129,hk',k1,k2,hw,hlk,hst,hmp,hj,hdp,hr,Option.getD_none,Option.isSome_none,Option.isSome_some]
      · rw [if_neg hdp] at hr
        simp -implicitDefEqProofs (disch:=omega) only [Rx,simprocAttr,F129,hk',k1,k2,hw,hlk,hst,hmp,hj,hdp,hr,Option.getD_none,Option.isSome_none,Option.isSome_some]
end Go.TA.Tryz


end
section
/- Rows that are right for the document's answer are right for the program. -/
set_option maxRecDepth 100000
set_option maxHeartbeats 8000000
namespace Go.TA.Tryz
theorem chain_one {l:List GRow} {x:GRow} (hs:standTo l l.length) (hx:l[0]? = some x):chain l 1=[1]:=by
 have hlt:0<l.length:=(List.getElem?_eq_some_iff.1 hx).1
 rw [chain_succ hs (Nat.le_refl _) hlt]
 have:=upAt_le hs hlt hlt
 have:upAt l 1=0:=by simpa using this
 rw [this];rfl
theorem check_run (l:List GRow) (hl:l.length≤1048576) (hs:standTo l l.length) (hok:allOk l) (hal:∀ x ∈ l,x.attrs.length≤1048577) {b:Nat} {p:List PV} (hbt:BT l 0 b p) {n:Nat} (hn:1048577<n) (g:List AObj) :
  ∃ deep,acall T (n+l.length+40) 119 [.p (.agg p)] g=some (.p (.agg [.int .i64 b,.int .i64 deep,.int .i64 0]),g):=by
 have hlt:=hbt.lt
 have hbt':=hbt
 cases hbt with
 | mk hx hks=>
 rename_i x ks
 obtain ⟨r,hr,deep,ms',es,rfl,_,_,_,_⟩:=vis_run l hl hs hok hal l.length n 0 b (nodeCells x ks) x [] 0 0 [.map []] (by omega) hn hbt' hx rfl (fun e he=>by simp at he)
 refine ⟨deep, ?_⟩
 rw [acall_code T119,run_pure rfl rfl rfl]
 have hc:=chain_one hs hx
 simp only [Nat.zero_add,hc,List.length_singleton,Int.natCast_one,Int.natCast_zero,LK,VK,pL,pV,nodeCells] at hr
 simp only [nodeCells]
 simp -implicitDefEqProofs (disch:=omega) only [Rx,simprocAttr,F119,hr]
theorem vcheck_run (l:List GRow) (hl:l.length≤1048576) (hs:standTo l l.length) (hok:allOk l) (hal:∀ x ∈ l,x.attrs.length≤1048577) {b:Nat} {p:List PV} (hbt:BT l 0 b p) {n:Nat} (hn:1048577<n) (g:List AObj) :
  acall T (n+l.length+41) 98 [.p (.agg p)] g=some (.tuple [.p (.int .i64 0),.p (.int .i64 0)],g):=by
 obtain ⟨deep,hr⟩:=check_run l hl hs hok hal hbt hn []
 cases hbt with
 | mk hx hks=>
 rename_i x ks
 rw [acall_code T98,run_pure rfl rfl rfl]
 simp only [nodeCells] at hr ⊢
 simp -implicitDefEqProofs (disch:=omega) only [Rx,simprocAttr,F98,hr]
end Go.TA.Tryz


end
section
/- Rows that are right for the document's answer are right for the program. -/
set_option maxRecDepth 100000
set_option maxHeartbeats 8000000
namespace Go.TA.Tryz
theorem tree_run (l:List GRow) (hl:l.length≤1048576) (hne:l≠[]) (hf:formedB l=true) (hok:allOk l) (hal:∀ x ∈ l,x.attrs.length≤1048577) {n:Nat} (hn:1048577<n) (g:List AObj) :
  ∃ p,(∃ c1 c2 c3 c4 c5,p=[c1,c2,c3,c4,c5])∧acall T (n+l.length+42) 61 [.p (.list (l.map GRow.pv))] g=some (.tuple [.p (.agg p),.p (.int .i64 0)],g):=by
 have hs:=formed_stands hf
 have hlen:0<l.length:=List.length_pos_iff.2 hne
 have hsh:shallow l:=fun i hi=>by
  obtain ⟨x,hx⟩:=get_some hi
  exact (rowErr_ok (hok i x hx)).2.1
 have h4:l.length≤4096:=by
  rcases Nat.lt_or_ge 4096 l.length with h | h
  ·obtain ⟨i,hi⟩:∃ i:Nat,i=4096:=⟨4096,rfl⟩
   rw [← hi] at h
   obtain ⟨x,hx⟩:=get_some h
   exact absurd hi (rowErr_ok (hok i x hx)).1
  ·exact h
 obtain ⟨b,p,hbt,_,hb⟩:=build_run l hl hal l.length 0 (n+38) hlen (by omega)
 have hb:=hb []
 rw [show n+38+l.length+3=n+l.length+41 by omega] at hb
 have hv:=vcheck_run l hl hs hok hal hbt hn []
 have hfr:=formP_run l hl [] (n:=n+l.length+40) (by omega)
 rw [hf] at hfr
 have hdr:=deep_run l hs hsh h4 [] (n:=n+l.length+40) (by omega)
 cases hbt with
 | @mk _ _ x ks hx hks=>
 refine ⟨nodeCells x ks,⟨_,_,_,_,_,rfl⟩, ?_⟩
 rw [acall_code T61,run_pure rfl rfl rfl]
 simp only [nodeCells,Int.natCast_zero] at hb hv ⊢
 have k0:((l.length:Int)==0)=false:=by simp;omega
 simp -implicitDefEqProofs (disch:=omega) only [Rx,simprocAttr,F61,k0,hfr,hdr,hb,hv]
theorem flatCheck_ok (l:List GRow) {m:Nat} (hl:Rows.small m l) (hm:m≤1048577) (h:check13 l=0) {n:Nat} (hn:1048577<n) (g:List AObj):acall T (n+l.length+43) 36 [.p (.list (l.map GRow.pv))] g=some (.p (.int .i64 0),g):=by
 obtain ⟨hf,hok⟩:=check13_ok h
 have hlen:=hl.len
 rw [acall_code T36,run_pure rfl rfl rfl]
 by_cases hne:l=[]
 ·subst hne
  simp -implicitDefEqProofs (disch:=omega) only [Rx,simprocAttr,F36,Int.natCast_zero]
 ·obtain ⟨p,hp,hr⟩:=tree_run l (by omega) hne hf hok (fun x hx=>by have:=(hl.row x hx).attrs;omega) hn []
  have hlen0:0<l.length:=List.length_pos_iff.2 hne
  have k0:((l.length:Int)==0)=false:=by simp;omega
  obtain ⟨c1,c2,c3,c4,c5,rfl⟩:=hp
  simp -implicitDefEqProofs (disch:=omega) only [Rx,simprocAttr,F36,k0,hr]
end Go.TA.Tryz


end
section
/- The machine of rows that are right. -/
set_option maxRecDepth 100000
set_option maxHeartbeats 8000000
namespace Go.TA.Tryz
def newS (l:List GRow) (i:Nat) (av:Nat→AV) (rest:List AObj):St:=⟨[(5,.ptr true 1 1 1 0 0),(17,.p (.list (l.map GRow.pv))),(18,.p (.int .i64 l.length)),(19,.p (.int .i64 i))],[],machG (i+1) (st0 l) av rest⟩
theorem new_loop {n N : Nat} (l : List GRow) (hl : l.length ≤ 1048576) (hal : ∀ x ∈ l, x.attrs.length ≤ 1048577) (hs : standTo l l.length) (hN : l.length < N) :
    ∃ r,aexec (acall T (n+1)) N (.loop B12x0) (newS l 0 (fun _ => .nils) [])=some r∧∃ av rest,r=(.exit 0,⟨[(5,.ptr true 1 1 1 0 0)],[],machG (l.length+1) (st0 l) av rest⟩)∧MOk (l.length+1) av (kd0 l l.length) rest∧∀ h,h<l.length+1→∀ ks,av h ≠ .p ks:=by
  refine loop_inv (σ := Nat × (Nat→AV) × List AObj) (S:=fun s=>newS l s.1 s.2.1 s.2.2) (I:=fun s=>s.1≤l.length∧MOk (s.1+1) s.2.1 (kd0 l s.1) s.2.2∧∀ h,h<s.1+1→∀ ks,s.2.1 h ≠ .p ks) (μ := fun s=>l.length - s.1)
    (Q:=fun r=>∃ av rest,r=(.exit 0,⟨[(5,.ptr true 1 1 1 0 0)],[],machG (l.length+1) (st0 l) av rest⟩)∧MOk (l.length+1) av (kd0 l l.length) rest∧∀ h,h<l.length+1→∀ ks,av h ≠ .p ks) ?_ (0,(fun _ => .nils),[]) ⟨by omega,⟨fun h _ => .none,fun _ _ _ _ _ => .inl rfl⟩,fun h _ ks=>by simp⟩ (by simp only;omega)
  rintro ⟨i,av,rest⟩ ⟨h1,h2,h3⟩
  simp only at h1 h2 h3 ⊢
  by_cases hi:i<l.length
  · left
    obtain ⟨x,hx,hu⟩:=up_val hs (Nat.le_refl _) hi
    have hle:=upAt_le hs hi hi
    have hg:=getD_map (f:=GRow.pv) hx
    have k1:(i:Int)<(l.length:Int):=by omega
    have hcl:=cloneA_run x.attrs (hal x (List.mem_of_getElem? hx)) [] n
    generalize hU:upAt l (i+1)=u at hu hle
    have hst:st0 l (i+1)=nodeOf x:=by simp [st0,hx]
    have hpush:rowsAV (i+1) (st0 l) av++[[.p (.bool true),.p (.int .i64 u),.nils,.p (.str x.tag),.p (.str x.key),.p (.str x.text),.p (.list (x.attrs.map Attr.pv))]]=rowsAV (i+1+1) (st0 l) (upd av (i+1) .nils):=by
      have:=rowsAV_push (N:=i+1) (st:=st0 l) (av:=av) (nodeOf x) .nils
      simp only [nodeAV,nodeOf,hu] at this
      rw [this]
      refine rowsAV_congr fun k hk=>⟨?_,rfl⟩
      by_cases e:k=i+1
      · subst e;rw [upd_at,hst,nodeOf,hu]
      · rw [upd_ne e]
    have hM:=h2.push
    have len1:(rowsAV (i+1) (st0 l) av).length=i+1:=rowsAV_len
    have len2:(rowsAV (i+1+1) (st0 l) (upd av (i+1) .nils)).length=i+1+1:=rowsAV_len
    have hgu:(rowsAV (i+1+1) (st0 l) (upd av (i+1) .nils)).getD u []=nodeAV (st0 l u) (upd av (i+1) .nils u):=rowsAV_get (by omega)
    have hkd:∀ h,h<i+1+1→upd (upd (kd0 l i) (i+1) []) u (upd (kd0 l i) (i+1) [] u++[(i:Int)+1]) h=kd0 l (i+1) h:=by
      intro h hh
      have hnew:upd (kd0 l i) (i+1) [] h=kd0 l i h:=by
        by_cases e:h=i+1
        · subst e;rw [upd_at,kd0_new (hs.mono (by omega)) (by omega)]
        · rw [upd_ne e]
      rw [kd0_succ hx,hu]
      by_cases e:h=u
      · subst e
        rw [upd_at,hnew,if_pos rfl]
      · rw [upd_ne e,hnew,if_neg (by omega)]
    have hset:∀ a,(rowsAV (i+1+1) (st0 l) (upd av (i+1) .nils)).set u [.p (.bool (st0 l u).live),.p (.int .i64 (st0 l u).up),a,.p (.str (st0 l u).tag),.p (.str (st0 l u).key),.p (.str (st0 l u).text),.p (.list ((st0 l u).attrs.map Attr.pv))]=rowsAV (i+1+1) (st0 l) (upd (upd av (i+1) .nils) u a):=by
      intro a
      have:=rowsAV_set (N:=i+1+1) (st:=st0 l) (av:=upd av (i+1) .nils) (h:=u) (by omega) (st0 l u) a
      simp only [nodeAV] at this
      rw [this]
      refine rowsAV_congr fun k hk=>⟨?_,rfl⟩
      by_cases e:k=u
      · subst e;rw [upd_at]
      · rw [upd_ne e]
    have hK:=hM.kids u (by omega)
    generalize hav:upd av (i+1) .nils u=a at hK hgu
    generalize hks:upd (kd0 l i) (i+1) [] u=ks at hK hkd
    simp only [nodeAV] at hgu
    have hle2:(u:Int)<(i:Int)+1+1:=by omega
    have hkl:ks.length≤1048576:=by
      rw [← hks]
      by_cases e:u=i+1
      · rw [e,upd_at];simp
      · rw [upd_ne e]
        simp only [kd0,List.length_map]
        have:=List.length_filter_le (fun k=>((l[k]?).map (fun x=>x.up==(u:Int))).getD false) (List.range i)
        simp only [List.length_range] at this
        omega
    rcases hK.inv with ⟨rfl,rfl⟩ | ⟨r,rfl,hr⟩ | rfl
    · refine ⟨(i+1,upd (upd av (i+1) .nils) u (.own true (rest.length+1+1) 1),rest++[.pcells 1 [[.int .i64 ((i:Int)+1)]]]), ?_,⟨by omega, ?_, ?_⟩,by simp only;omega⟩
      · have hsl:∀ o o':AObj,(rest++[o]).set rest.length o'=rest++[o']:=fun o o'=>by simp [List.set_append]
        simp only [newS,machG]
        simp -implicitDefEqProofs (disch:=omega) only [Rx,simprocAttr,B12x0,k1,hg,GRow.pv,attrsPV,hcl,hpush,len1,len2,hgu,hset,hu,hle2,hsl]
      · have:=hM.fresh (u:=u) (by omega) [(i:Int)+1]
        simp only [List.length_singleton,intsPV,List.map_cons,List.map_nil] at this
        refine ⟨fun h hh => ?_,this.disj⟩
        have q:=this.kids h hh
        rw [← hkd h hh]
        simpa [hks] using q
      · intro h hh ks
        by_cases e:h=u
        · subst e;simp [upd]
        · simp only
          rw [upd_ne e]
          by_cases e':h=i+1
          · subst e';simp [upd]
          · rw [upd_ne e'];exact h3 h (by omega) ks
    · have hrl:r<rest.length:=(List.getElem?_eq_some_iff.1 hr).1
      refine ⟨(i+1,upd (upd av (i+1) .nils) u (.own true (r+1+1) (ks.length+1)),rest.set r (.pcells 1 (intsPV ks++[[.int .i64 ((i:Int)+1)]]))), ?_,⟨by omega, ?_, ?_⟩,by simp only;omega⟩
      · simp only [newS,machG]
        have il:=intsPV_len ks
        simp -implicitDefEqProofs (disch:=omega) only [Rx,simprocAttr,B12x0,k1,hg,GRow.pv,attrsPV,hcl,hpush,len1,len2,hgu,hset,hu,hle2,hr,il,List.length_append]
      · have:=hM.turn (u:=u) (r:=r) (by omega) (by rw [hav,hks]) hrl (ks++[(i:Int)+1])
        simp only [List.length_append,List.length_singleton, ← intsPV_snoc] at this
        refine ⟨fun h hh => ?_,this.disj⟩
        have q:=this.kids h hh
        rw [← hkd h hh]
        exact q
      · intro h hh ks
        by_cases e:h=u
        · subst e;simp [upd]
        · simp only
          rw [upd_ne e]
          by_cases e':h=i+1
          · subst e';simp [upd]
          · rw [upd_ne e'];exact h3 h (by omega) ks
    · exfalso
      by_cases e:u=i+1
      · rw [e,upd_at] at hav;cases hav
      · rw [upd_ne e] at hav;exact h3 u (by omega) _ hav
  · right
    obtain rfl:i=l.length:=by omega
    have k1:¬ (l.length:Int)<(l.length:Int):=by omega
    refine ⟨_, ?_, ?_,av,rest,rfl,h2,h3⟩
    · simp only [newS]
      simp -implicitDefEqProofs (disch:=omega) only [Rx,simprocAttr,B12x0,k1]
    · simp
theorem new_run (l:List GRow) {m:Nat} (hl:Rows.small m l) (hm:m≤1048577) (h:check13 l=0) {n:Nat} (hn:1048577<n) :
  ∃ av rest,acall T (n+l.length+44) 12 [.p (.list (l.map GRow.pv))] []=some (.tuple [.ptr true 1 1 1 0 0,.p (.int .i64 0)],machG (l.length+1) (st0 l) av rest)∧MOk (l.length+1) av (kd0 l l.length) rest∧∀ h,h<l.length+1→∀ ks,av h ≠ .p ks:=by
 have hlen:=hl.len
 have hfc:=flatCheck_ok l hl hm h hn []
 have hs:standTo l l.length:=formed_stands (check13_ok h).1
 obtain ⟨r,hr,av,rest,rfl,hok,hpp⟩:=new_loop (n:=n+l.length+42) (N:=n+l.length+43) l (by omega) (fun x hx=>by have:=(hl.row x hx).attrs;omega) hs (by omega)
 refine ⟨av,rest, ?_,hok,hpp⟩
 rw [acall_code T12,run_code rfl rfl]
 have h0:rowsAV 1 (st0 l) (fun _=>AV.nils)=[nodeAV holder .nils]:=rfl
 simp only [newS,machG,Nat.zero_add,Int.natCast_zero,h0,nodeAV,holder,List.map_nil] at hr ⊢
 simp -implicitDefEqProofs (disch:=omega) only [Rx,simprocAttr,F12,hfc,hr]
end Go.TA.Tryz


end
section
/- The guard of most laws: whether operations are few. -/
set_option maxRecDepth 100000
set_option maxHeartbeats 1000000
namespace Go.TA.Tryz
theorem attr_get {l:List Attr} {i:Nat} {a:Attr} (h:l[i]? = some a):(l.map Attr.pv).getD i []=[.str a.name,.str a.value]:=by
 rw [List.getD_eq_getElem?_getD,List.getElem?_map,h];rfl
theorem few_attr {C:Calls'} {N:Nat} (x:GOp) (p0 p11 p12:PV) (g:List AObj) (i:Nat) (a:Attr) (left:Int) (h:x.attrs[i]? = some a) (hb:x.attrs.length≤1048576) (ha:a.value.length+a.name.length≤1048576) (hl : -4611686018427387904≤left) (hl2:left≤4611686018427387904) :
  aexec C N B10x1 ⟨[(0,.p p0),(5,.p (.int .i64 left)),(7,.ptr false 7 9 1 0 0),(11,.p p11),(12,.p p12),(46,.p (.int .i64 x.attrs.length)),(47,.p (.int .i64 i))],[(7,.pcells 9 [x.pv])],g⟩ =
   some (.normal,⟨[(0,.p p0),(5,.p (.int .i64 (left - ((a.value.length:Int)+a.name.length).tdiv 4096))),(7,.ptr false 7 9 1 0 0),(11,.p p11),(12,.p p12),(46,.p (.int .i64 x.attrs.length)),(47,.p (.int .i64 (i+1)))],[(7,.pcells 9 [x.pv])],g⟩):=by
 have hlt:i<x.attrs.length:=(List.getElem?_eq_some_iff.1 h).1
 have h1:(i:Int)<(x.attrs.length:Int):=by omega
 have h2:=attr_get h
 have q:0≤((a.value.length:Int)+(a.name.length:Int)).tdiv 4096∧((a.value.length:Int)+(a.name.length:Int)).tdiv 4096≤1048576:=by
  rw [Int.tdiv_eq_ediv_of_nonneg (by omega)];omega
 generalize hq:((a.value.length:Int)+(a.name.length:Int)).tdiv 4096=d at q ⊢
 obtain ⟨w1,w2,w3,w4⟩:IntKind.i64.wrap ((a.value.length:Int)+(a.name.length:Int))=(a.value.length:Int)+(a.name.length:Int)∧IntKind.i64.wrap d=d∧IntKind.i64.wrap (left - d)=left - d∧IntKind.i64.wrap ((i:Int)+1)=(i:Int)+1 :=
  ⟨wrap_id (by omega) (by omega),wrap_id (by omega) (by omega),wrap_id (by omega) (by omega),wrap_id (by omega) (by omega)⟩
 simp -implicitDefEqProofs (disch:=omega) only [Rx,simprocAttr,B10x1,h1,h2,GOp.pv,attrsPV,w1,hq,w2,w3,w4]
theorem few_attr_end {C:Calls'} {N:Nat} (x:GOp) (p0 p11 p12:PV) (g:List AObj) (left:Int) :
  aexec C N B10x1 ⟨[(0,.p p0),(5,.p (.int .i64 left)),(7,.ptr false 7 9 1 0 0),(11,.p p11),(12,.p p12),(46,.p (.int .i64 x.attrs.length)),(47,.p (.int .i64 x.attrs.length))],[(7,.pcells 9 [x.pv])],g⟩ =
   some (.exit 2,⟨[(0,.p p0),(5,.p (.int .i64 left)),(11,.p p11),(12,.p p12)],[],g⟩):=by
 have h1:¬ ((x.attrs.length:Int)<(x.attrs.length:Int)):=by omega
 simp -implicitDefEqProofs (disch:=omega) only [Rx,simprocAttr,B10x1,h1]
def smallAttrs (l:List Attr):Prop:=∀ a ∈ l,a.value.length+a.name.length≤1048576
theorem few_attrs {C:Calls'} {N:Nat} (x:GOp) (p0 p11 p12:PV) (g:List AObj) (hb:x.attrs.length≤1048576) (hs:smallAttrs x.attrs) (rest:List Attr):∀ (pre:List Attr) (m:Nat) (left:Int),x.attrs=pre++rest→rest.length<m →
    -4611686018427387904+1048576*(rest.length:Int)≤left→left≤4611686018427387904 →
    aloop C N B10x1 m ⟨[(0,.p p0),(5,.p (.int .i64 left)),(7,.ptr false 7 9 1 0 0),(11,.p p11),(12,.p p12),(46,.p (.int .i64 x.attrs.length)),(47,.p (.int .i64 pre.length))],[(7,.pcells 9 [x.pv])],g⟩ =
      some (.exit 2,⟨[(0,.p p0),(5,.p (.int .i64 (attrsLeft rest left))),(11,.p p11),(12,.p p12)],[],g⟩):=by
  induction rest with
  | nil =>
    intro pre m left hd hm h1 h2
    obtain ⟨m,rfl⟩:∃ k,m=k+1:=⟨m - 1,by simp at hm;omega⟩
    have e:pre.length=x.attrs.length:=by rw [hd];simp
    rw [e,aloop_succ,few_attr_end,bl_exit];rfl
  | cons a rest ih =>
    intro pre m left hd hm h1 h2
    obtain ⟨m,rfl⟩:∃ k,m=k+1:=⟨m - 1,by simp at hm;omega⟩
    have hget:x.attrs[pre.length]? = some a:=by rw [hd];simp
    have hmem:a ∈ x.attrs:=List.mem_of_getElem? hget
    simp only [List.length_cons,Int.natCast_add,Int.natCast_one] at hm h1
    have q:0≤((a.value.length:Int)+(a.name.length:Int)).tdiv 4096∧((a.value.length:Int)+(a.name.length:Int)).tdiv 4096≤1048576:=by
      have:=hs a hmem
      rw [Int.tdiv_eq_ediv_of_nonneg (by omega)];omega
    rw [aloop_succ,few_attr x p0 p11 p12 g pre.length a left hget hb (hs a hmem) (by omega) h2,bl_normal]
    have:=ih (pre++[a]) m (left - ((a.value.length:Int)+a.name.length).tdiv 4096) (by rw [hd];simp) (by omega) (by omega) (by omega)
    rw [List.length_append,Int.natCast_add] at this
    exact this
theorem few_attrs0 {C:Calls'} {N:Nat} (x:GOp) (p0 p11 p12:PV) (g:List AObj) (hb:x.attrs.length≤1048576) (hs:smallAttrs x.attrs) (hN:x.attrs.length<N) {left:Int} (h1 : -4611686018427387904+1048576*(x.attrs.length:Int)≤left) (h2:left≤4611686018427387904) :
  aexec C N (.loop B10x1) ⟨[(0,.p p0),(5,.p (.int .i64 left)),(7,.ptr false 7 9 1 0 0),(11,.p p11),(12,.p p12),(46,.p (.int .i64 x.attrs.length)),(47,.p (.int .i64 0))],[(7,.pcells 9 [x.pv])],g⟩ =
   some (.exit 2,⟨[(0,.p p0),(5,.p (.int .i64 (attrsLeft x.attrs left))),(11,.p p11),(12,.p p12)],[],g⟩):=by
 rw [aexec_loop]
 exact few_attrs x p0 p11 p12 g hb hs x.attrs [] N left rfl hN h1 h2
def smallOp (x:GOp):Prop:=x.attrs.length≤1048576∧smallAttrs x.attrs∧x.text.length+x.key.length+x.tag.length+x.name.length≤1048576
theorem smallOp_of {x:GOp} {n:Nat} (h:bulkL x.pv≤n) (hn:n≤1048576):smallOp x∧x.attrs.length<n:=by
 rw [bulk_op] at h
 obtain ⟨h1,h2⟩:=bulk_attrs x.attrs
 refine ⟨⟨by omega,fun a ha=>by have:=h1 a ha;omega,by omega⟩,by omega⟩
theorem attrsLeft_boundF (l:List Attr) (hs:smallAttrs l):∀ left:Int,left - 1048576*(l.length:Int)≤attrsLeft l left∧attrsLeft l left≤left:=by
  induction l with
  | nil=>intro left;simp [attrsLeft]
  | cons a l ih =>
    intro left
    have ha:=hs a (by simp)
    have q:0≤((a.value.length:Int)+(a.name.length:Int)).tdiv 4096∧((a.value.length:Int)+(a.name.length:Int)).tdiv 4096≤1048576:=by
      rw [Int.tdiv_eq_ediv_of_nonneg (by omega)];omega
    obtain ⟨z1,z2⟩:=ih (fun b hb=>hs b (by simp [hb])) (left - ((a.value.length:Int)+a.name.length).tdiv 4096)
    simp only [attrsLeft,List.length_cons,Int.natCast_add,Int.natCast_one]
    constructor <;> omega
theorem op_get {l:List GOp} {i:Nat} {x:GOp} (h:l[i]? = some x):(l.map GOp.pv).getD i []=x.pv:=by
 rw [List.getD_eq_getElem?_getD,List.getElem?_map,h];rfl
def fewCost (x:GOp):Int:=((x.text.length:Int)+x.key.length+x.tag.length+x.name.length).tdiv 4096
theorem fewCost_bound {x:GOp} (h:smallOp x):0≤fewCost x∧fewCost x≤1048576:=by
 have:=h.2.2
 unfold fewCost
 rw [Int.tdiv_eq_ediv_of_nonneg (by omega)];omega
theorem few_op {C:Calls'} {N:Nat} (l:List GOp) (g:List AObj) (i:Nat) (x:GOp) (left:Int) (h:l[i]? = some x) (hx:smallOp x) (hN:x.attrs.length<N) (hlen:l.length≤1048576) (hl : -1099511627776≤left) (hl2:left≤1099511627776) :
  aexec C N B10x0 ⟨[(0,.p (.list (l.map GOp.pv))),(5,.p (.int .i64 left)),(11,.p (.int .i64 l.length)),(12,.p (.int .i64 i))],[],g⟩ =
   if left - 1 - x.attrs.length - fewCost x<0 then some (.ret,⟨[(4,.p (.bool false))],[],g⟩) else
   some (.normal,⟨[(0,.p (.list (l.map GOp.pv))),(5,.p (.int .i64 (attrsLeft x.attrs (left - 1 - x.attrs.length - fewCost x)))),(11,.p (.int .i64 l.length)),(12,.p (.int .i64 (i+1)))],[],g⟩):=by
 have hlt:i<l.length:=(List.getElem?_eq_some_iff.1 h).1
 have h1:(i:Int)<(l.length:Int):=by omega
 have h2:=op_get h
 obtain ⟨b1,b2,b3⟩:=hx
 have q:=fewCost_bound (x:=x) ⟨b1,b2,b3⟩
 have hq:((x.text.length:Int)+x.key.length+x.tag.length+x.name.length).tdiv 4096=fewCost x:=rfl
 generalize fewCost x=d at q hq ⊢
 obtain ⟨w1,w2,w3,w4,w5,w6,w7,w8⟩:IntKind.i64.wrap ((x.text.length:Int)+x.key.length)=(x.text.length:Int)+x.key.length∧IntKind.i64.wrap ((x.text.length:Int)+x.key.length+x.tag.length)=(x.text.length:Int)+x.key.length+x.tag.length ∧
   IntKind.i64.wrap ((x.text.length:Int)+x.key.length+x.tag.length+x.name.length)=(x.text.length:Int)+x.key.length+x.tag.length+x.name.length∧IntKind.i64.wrap d=d∧IntKind.i64.wrap (left - 1)=left - 1 ∧
   IntKind.i64.wrap (left - 1 - x.attrs.length)=left - 1 - x.attrs.length∧IntKind.i64.wrap (left - 1 - x.attrs.length - d)=left - 1 - x.attrs.length - d∧IntKind.i64.wrap ((i:Int)+1)=(i:Int)+1 :=
  ⟨wrap_id (by omega) (by omega),wrap_id (by omega) (by omega),wrap_id (by omega) (by omega),wrap_id (by omega) (by omega),wrap_id (by omega) (by omega),wrap_id (by omega) (by omega),wrap_id (by omega) (by omega),wrap_id (by omega) (by omega)⟩
 have hloop:=few_attrs0 (C:=C) (N:=N) x (.list (l.map GOp.pv)) (.int .i64 l.length) (.int .i64 i) g b1 b2 hN (left:=left - 1 - x.attrs.length - d) (by omega) (by omega)
 by_cases hneg:left - 1 - x.attrs.length - d<0
 ·simp -implicitDefEqProofs (disch:=omega) only [Rx,simprocAttr,B10x0,h1,h2,GOp.pv,attrsPV,w1,hq,w2,w3,w4,w5,w6,w7,hneg]
 ·simp only [GOp.pv,attrsPV] at hloop
  simp -implicitDefEqProofs (disch:=omega) only [Rx,simprocAttr,B10x0,h1,h2,GOp.pv,attrsPV,w1,hq,w2,w3,w4,w5,w6,w7,w8,hneg,hloop]
def fewEnd (r:Option Int) (l:PV) (n:Int) (g:List AObj):Ex × St:=match r with
 | none=>(.ret,⟨[(4,.p (.bool false))],[],g⟩)
 | some left=>(.exit 0,⟨[(5,.p (.int .i64 left))],[],g⟩)
theorem few_op_end {C:Calls'} {N:Nat} (l:List GOp) (g:List AObj) (left:Int) :
  aexec C N B10x0 ⟨[(0,.p (.list (l.map GOp.pv))),(5,.p (.int .i64 left)),(11,.p (.int .i64 l.length)),(12,.p (.int .i64 l.length))],[],g⟩=some (.exit 0,⟨[(5,.p (.int .i64 left))],[],g⟩):=by
 have h1:¬ ((l.length:Int)<(l.length:Int)):=by omega
 simp -implicitDefEqProofs (disch:=omega) only [Rx,simprocAttr,B10x0,h1]
theorem few_ops {C:Calls'} {N:Nat} (l:List GOp) (g:List AObj) (hs:∀ x ∈ l,smallOp x∧x.attrs.length<N) (hlen:l.length≤1048576) (rest:List GOp):∀ (pre:List GOp) (m:Nat) (left:Int),l=pre++rest→rest.length<m→(pre≠[]→0≤left+1099511627776) → -1099511627776≤left→left≤1000000 →
    aloop C N B10x0 m ⟨[(0,.p (.list (l.map GOp.pv))),(5,.p (.int .i64 left)),(11,.p (.int .i64 l.length)),(12,.p (.int .i64 pre.length))],[],g⟩=some (fewEnd (fewOpsL rest left) (.list (l.map GOp.pv)) l.length g):=by
  induction rest with
  | nil =>
    intro pre m left hd hm _ h1 h2
    obtain ⟨m,rfl⟩:∃ k,m=k+1:=⟨m - 1,by simp at hm;omega⟩
    have e:pre.length=l.length:=by rw [hd];simp
    rw [e,aloop_succ,few_op_end,bl_exit];rfl
  | cons x rest ih =>
    intro pre m left hd hm _ h1 h2
    obtain ⟨m,rfl⟩:∃ k,m=k+1:=⟨m - 1,by simp at hm;omega⟩
    have hget:l[pre.length]? = some x:=by rw [hd];simp
    have hmem:x ∈ l:=List.mem_of_getElem? hget
    obtain ⟨hx,hN⟩:=hs x hmem
    rw [aloop_succ,few_op l g pre.length x left hget hx hN hlen (by omega) (by omega)]
    have hc:fewOpsL (x::rest) left=if left - 1 - x.attrs.length - fewCost x<0 then none else fewOpsL rest (attrsLeft x.attrs (left - 1 - x.attrs.length - fewCost x)):=rfl
    rw [hc]
    have q:=fewCost_bound hx
    by_cases hneg:left - 1 - x.attrs.length - fewCost x<0
    · rw [if_pos hneg,if_pos hneg,bl_ret];rfl
    · rw [if_neg hneg,if_neg hneg,bl_normal]
      have hb:=attrsLeft_boundF x.attrs hx.2.1 (left - 1 - x.attrs.length - fewCost x)
      have hb2:(x.attrs.length:Int)≤1000000:=by omega
      simp only [List.length_cons] at hm
      have:=ih (pre++[x]) m (attrsLeft x.attrs (left - 1 - x.attrs.length - fewCost x)) (by rw [hd];simp) (by omega) (by omega) (by omega) (by omega)
      rw [List.length_append,Int.natCast_add] at this
      exact this
theorem few_run (l:List GOp) (most:Int) (g:List AObj) {n:Nat} (hs:∀ x ∈ l,smallOp x∧x.attrs.length<n) (hlen:l.length≤1048576) (hn:l.length<n) (h1:0≤most) (h2:most≤1000000) :
    acall T (n+1) 10 [.p (.list (l.map GOp.pv)),.p (.int .i64 most)] g=some (.p (.bool (fewOps l most)),g):=by
  rw [acall_code T10,run_pure rfl rfl rfl]
  have hloop:=few_ops (C:=acall T n) (N:=n) l [] hs hlen l [] n most rfl hn (by simp) (by omega) (by omega)
  rw [← aexec_loop] at hloop
  cases hr:fewOpsL l most with
  | none =>
    rw [hr] at hloop
    simp -implicitDefEqProofs only [F10,fewEnd,List.length_nil,Int.natCast_zero] at hloop ⊢
    simp -implicitDefEqProofs (disch:=omega) only [Rx,simprocAttr,hloop,fewOps,hr]
  | some left =>
    rw [hr] at hloop
    simp -implicitDefEqProofs only [F10,fewEnd,List.length_nil,Int.natCast_zero] at hloop ⊢
    simp -implicitDefEqProofs (disch:=omega) only [Rx,simprocAttr,hloop,fewOps,hr]
end Go.TA.Tryz


end
section
/- The other guard of most laws: whether rows are few. -/
set_option maxRecDepth 100000
set_option maxHeartbeats 1000000
namespace Go.TA.Tryz
def rowCost (x:GRow):Int:=((x.text.length:Int)+x.key.length+x.tag.length).tdiv 4096
def fewRowsL:List GRow→Int→Option Int
 | [],left=>some left
 | x::l,left=>if left - 1 - x.attrs.length - rowCost x<0 then none else fewRowsL l (attrsLeft x.attrs (left - 1 - x.attrs.length - rowCost x))
def fewRows (l:List GRow) (most:Int):Bool:=match fewRowsL l most with
 | some n=>decide (n ≥ 0)
 | none=>false
theorem tdiv_bound {x:Int} (h:0≤x) (h2:x≤1048576):0≤x.tdiv 4096∧x.tdiv 4096≤1048576:=by
 rw [Int.tdiv_eq_ediv_of_nonneg h];omega
theorem attrsLeft_bound (l:List Attr) (hs:smallAttrs l):∀ left:Int,left - 1048576*(l.length:Int)≤attrsLeft l left∧attrsLeft l left≤left:=by
  induction l with
  | nil=>intro left;simp [attrsLeft]
  | cons a l ih =>
    intro left
    have ha:=hs a (by simp)
    have q:=tdiv_bound (x:=(a.value.length:Int)+(a.name.length:Int)) (by omega) (by omega)
    obtain ⟨z1,z2⟩:=ih (fun b hb=>hs b (by simp [hb])) (left - ((a.value.length:Int)+a.name.length).tdiv 4096)
    simp only [attrsLeft,List.length_cons,Int.natCast_add,Int.natCast_one]
    constructor <;> omega
theorem fewR_inner {C : Calls'} {N n : Nat} (l : List GRow) (i : Nat) (x : GRow) (h : l[i]? = some x) (hx : x.small n) (hn : n ≤ 1048577) (hN : n ≤ N) (left : Int) (hl : -1099511627776 ≤ left) (hl2 : left ≤ 1000000) :
    aexec C N (.loop B9x1) ⟨[(0,.p (.list (l.map GRow.pv))),(5,.p (.int .i64 left)),(6,.p (.int .i64 i)),(10,.p (.int .i64 l.length)),(11,.p (.int .i64 i)),(52,.p (.int .i64 x.attrs.length)),(53,.p (.int .i64 0))],[],[]⟩ =
      some (.exit 2,⟨[(0,.p (.list (l.map GRow.pv))),(5,.p (.int .i64 (attrsLeft x.attrs left))),(10,.p (.int .i64 l.length)),(11,.p (.int .i64 i))],[],[]⟩):=by
  have hlt:i<l.length:=(List.getElem?_eq_some_iff.1 h).1
  have hg:=getD_map (f:=GRow.pv) h
  have:=hx.attrs
  refine loop_rule' (σ := Nat × Int) (S:=fun s=>⟨[(0,.p (.list (l.map GRow.pv))),(5,.p (.int .i64 s.2)),(6,.p (.int .i64 i)),(10,.p (.int .i64 l.length)),(11,.p (.int .i64 i)),(52,.p (.int .i64 x.attrs.length)),(53,.p (.int .i64 s.1))],[],[]⟩)
    (I:=fun s=>s.1≤x.attrs.length ∧ -1099511627776 - 1048576*(s.1:Int)≤s.2∧s.2≤1000000) (μ := fun s=>x.attrs.length - s.1)
    (Φ := fun s=>(.exit 2,⟨[(0,.p (.list (l.map GRow.pv))),(5,.p (.int .i64 (attrsLeft (x.attrs.drop s.1) s.2))),(10,.p (.int .i64 l.length)),(11,.p (.int .i64 i))],[],[]⟩)) ?_ (0,left) ?_ ?_
  · rintro ⟨k,left⟩ ⟨h1,h2,h3⟩
    simp only at h1 h2 h3 ⊢
    by_cases hk:k<x.attrs.length
    · obtain ⟨a,ha⟩:=get_some hk
      have hga:=getD_map (f:=Attr.pv) ha
      have hs:=hx.small a (List.mem_of_getElem? ha)
      have q:=tdiv_bound (x:=(a.value.length:Int)+(a.name.length:Int)) (by omega) (by omega)
      refine .inl ⟨(k+1,left - ((a.value.length:Int)+a.name.length).tdiv 4096), ?_,⟨by omega,by simp only [Int.natCast_add,Int.natCast_one];omega,by omega⟩,by simp only;omega, ?_⟩
      · have k1:(k:Int)<(x.attrs.length:Int):=by omega
        have k2:(i:Int)<(l.length:Int):=by omega
        simp -implicitDefEqProofs (disch:=omega) only [Rx,simprocAttr,B9x1,k1,k2,hg,hga,GRow.pv,attrsPV,Attr.pv]
      · rw [List.drop_eq_getElem?_toList_append,ha];rfl
    · refine .inr ⟨?_,by simp⟩
      have:k=x.attrs.length:=by omega
      subst this
      have k1:¬ ((x.attrs.length:Int)<(x.attrs.length:Int)):=by omega
      simp -implicitDefEqProofs (disch:=omega) only [Rx,simprocAttr,B9x1,k1,List.drop_length,attrsLeft]
  · simp only [Int.natCast_zero];omega
  · simp only;omega
def fewREnd (r:Option Int):Ex × St:=match r with
 | none=>(.ret,⟨[(4,.p (.bool false))],[],[]⟩)
 | some left=>(.exit 0,⟨[(5,.p (.int .i64 left))],[],[]⟩)
theorem fewR_outer {C : Calls'} {N n : Nat} (l : List GRow) (hl : Rows.small n l) (hn : n ≤ 1048577) (hN : n ≤ N) (most : Int) (h1 : 0 ≤ most) (h2 : most ≤ 1000000) :
    aexec C N (.loop B9x0) ⟨[(0,.p (.list (l.map GRow.pv))),(5,.p (.int .i64 most)),(10,.p (.int .i64 l.length)),(11,.p (.int .i64 0))],[],[]⟩=some (fewREnd (fewRowsL l most)):=by
  have hlen:=hl.len
  refine loop_rule' (σ := Nat × Int) (S:=fun s=>⟨[(0,.p (.list (l.map GRow.pv))),(5,.p (.int .i64 s.2)),(10,.p (.int .i64 l.length)),(11,.p (.int .i64 s.1))],[],[]⟩)
    (I:=fun s=>s.1≤l.length ∧ -1099511627776≤s.2∧s.2≤1000000) (μ := fun s=>l.length - s.1)
    (Φ := fun s=>fewREnd (fewRowsL (l.drop s.1) s.2)) ?_ (0,most) ?_ ?_
  · rintro ⟨i,left⟩ ⟨h1,h2,h3⟩
    simp only at h1 h2 h3 ⊢
    by_cases hi:i<l.length
    · obtain ⟨x,hx⟩:=get_some hi
      have hgx:=getD_map (f:=GRow.pv) hx
      have hs:=hl.row x (List.mem_of_getElem? hx)
      have q:=tdiv_bound (x:=(x.text.length:Int)+x.key.length+x.tag.length) (by omega) (by have:=hs.text;omega)
      have ha:=hs.attrs
      have hd:l.drop i=x::l.drop (i+1):=by rw [List.drop_eq_getElem?_toList_append,hx];rfl
      have k2:(i:Int)<(l.length:Int):=by omega
      have hc:fewRowsL (l.drop i) left=if left - 1 - x.attrs.length - rowCost x<0 then none else fewRowsL (l.drop (i+1)) (attrsLeft x.attrs (left - 1 - x.attrs.length - rowCost x)):=by rw [hd];rfl
      have htx:=hs.text
      unfold rowCost at hc
      by_cases hneg:left - 1 - x.attrs.length - ((x.text.length:Int)+x.key.length+x.tag.length).tdiv 4096<0
      · refine .inr ?_
        rw [hc,if_pos hneg]
        refine ⟨?_,by simp [fewREnd]⟩
        simp -implicitDefEqProofs (disch:=omega) only [Rx,simprocAttr,B9x0,k2,hgx,GRow.pv,attrsPV,hneg,fewREnd]
      · have hb:=attrsLeft_bound x.attrs hs.small (left - 1 - x.attrs.length - ((x.text.length:Int)+x.key.length+x.tag.length).tdiv 4096)
        have hloop:=fewR_inner (C:=C) (N:=N) (n:=n) l i x hx hs hn hN (left - 1 - x.attrs.length - ((x.text.length:Int)+x.key.length+x.tag.length).tdiv 4096) (by omega) (by omega)
        refine .inl ⟨(i+1,attrsLeft x.attrs (left - 1 - x.attrs.length - ((x.text.length:Int)+x.key.length+x.tag.length).tdiv 4096)), ?_,⟨by omega,by simp only;omega,by simp only;omega⟩,by simp only;omega,by simp only;rw [hc,if_neg hneg]⟩
        simp -implicitDefEqProofs (disch:=omega) only [Rx,simprocAttr,B9x0,k2,hgx,GRow.pv,attrsPV,hneg,hloop]
    · refine .inr ⟨?_, ?_⟩
      · have:i=l.length:=by omega
        subst this
        have k1:¬ ((l.length:Int)<(l.length:Int)):=by omega
        simp -implicitDefEqProofs (disch:=omega) only [Rx,simprocAttr,B9x0,k1,List.drop_length,fewRowsL,fewREnd]
      · have:l.drop i=[]:=List.drop_eq_nil_of_le (by omega)
        simp [this,fewRowsL,fewREnd]
  · simp only;omega
  · simp only;omega
theorem fewR_run (l:List GRow) (most:Int) (g:List AObj) {n:Nat} (hl:Rows.small n l) (hn:n≤1048577) (h1:0≤most) (h2:most≤1000000) {m:Nat} (hm:n≤m) :
    acall T (m+1) 9 [.p (.list (l.map GRow.pv)),.p (.int .i64 most)] g=some (.p (.bool (fewRows l most)),g):=by
  rw [acall_code T9,run_pure rfl rfl rfl]
  have hloop:=fewR_outer (C:=acall T m) (N:=m) l hl hn hm most h1 h2
  cases hr:fewRowsL l most with
  | none =>
    rw [hr] at hloop
    simp -implicitDefEqProofs only [F9,fewREnd] at hloop ⊢
    simp -implicitDefEqProofs (disch:=omega) only [Rx,simprocAttr,hloop,fewRows,hr]
  | some left =>
    rw [hr] at hloop
    simp -implicitDefEqProofs only [F9,fewREnd] at hloop ⊢
    simp -implicitDefEqProofs (disch:=omega) only [Rx,simprocAttr,hloop,fewRows,hr]
end Go.TA.Tryz


end
section
/- The examples that the statements contain, run. -/
set_option maxRecDepth 100000
namespace Go.TA.Tryz
theorem same27 (n:Nat):acall T (n+60) 11 [] []=some (.p (.bool true),[]):=by kernel_rfl
end Go.TA.Tryz


end
section
/- The law PlainSteps, in the machine. -/
set_option maxRecDepth 100000
set_option maxHeartbeats 8000000
namespace Go.TA
namespace Tryz
def stepS (L:List GOp) (p i:Nat) (g:List AObj):St:=⟨[(1,.p (.list (L.map GOp.pv))),(5,MP),(7,DP p),(33,.p (.int .i64 L.length)),(34,.p (.int .i64 i))],[],g⟩
theorem steps_loop (L:List GOp) (hL:∀ x ∈ L,x.attrs.length≤1048576∧smallAttrs x.attrs) (hLl:L.length≤1048576) {R:Nat} {S:MS} (hS:S.Ok R) (hN:S.N≤1048577) {g:List AObj} {av:Nat→AV} {rest:List AObj} {avD:Nat→AV} {p q:Nat} (hB:Both S g av rest avD p q) {F:Nat} (hF:9000000+bnd R L.length+bnd R L.length+10<F) :
  ∃ S' R' g' av' rest' avD' q',aexec (acall T F) F (.loop B4x0) (stepS L p 0 g)=some (.exit 0,⟨[(5,MP),(7,DP p)],[],g'⟩)∧S'.Ok R'∧S'.N≤4194303∧R'≤bnd R L.length∧Both S' g' av' rest' avD' p q':=by
 have key:=loop_inv (C:=acall T F) (N:=F) (B:=B4x0) (σ := Nat × MS × List AObj × (Nat→AV) × List AObj × (Nat→AV) × Nat) (S:=fun s=>stepS L p s.1 s.2.2.1)
  (I:=fun s=>s.1≤L.length∧s.2.1.Ok (bnd R s.1)∧s.2.1.N≤S.N+s.1∧Both s.2.1 s.2.2.1 s.2.2.2.1 s.2.2.2.2.1 s.2.2.2.2.2.1 p s.2.2.2.2.2.2) (μ := fun s=>L.length - s.1)
  (Q:=fun z=>∃ S' R' g' av' rest' avD' q',z=(.exit 0,⟨[(5,MP),(7,DP p)],[],g'⟩)∧S'.Ok R'∧S'.N≤4194303∧R'≤bnd R L.length∧Both S' g' av' rest' avD' p q') ?_ (0,S,g,av,rest,avD,q) ⟨by simp,hS,by simp,hB⟩ (by simp only;omega)
 ·obtain ⟨z,hz,S',R',g',av',rest',avD',q',rfl,h⟩:=key
  exact ⟨S',R',g',av',rest',avD',q',hz,h⟩
 rintro ⟨i,S1,g1,av1,rest1,avD1,q1⟩ ⟨h1,h2,h3,h4⟩
 simp only at h1 h2 h3 h4 ⊢
 have hb:=bnd_mono R h1
 by_cases hi:i<L.length
 ·left
  obtain ⟨x,hx⟩:∃ x,L[i]? = some x:=⟨_,List.getElem?_eq_getElem hi⟩
  obtain ⟨hxm,hxs⟩:=hL x (List.mem_of_getElem? hx)
  have k1:(i:Int)<(L.length:Int):=by omega
  have hg:=getD_map (f:=GOp.pv) hx
  have hb2:=bnd_mono R (show i+1≤L.length by omega)
  obtain ⟨av2,rest2,hd,hM2,hfr⟩:=do_run h2 (by omega) av1 rest1 h4.mok x hxm (n:=F - bnd R i - 61) (by omega)
  rw [show F - bnd R i - 61+bnd R i+61=F by omega, ← h4.is] at hd
  obtain ⟨hok,hn1,hn2⟩:=doE_ok h2 x (by omega)
  have hdm:=h4.mach (st':=(doE S1 x).2.st) hfr
  have hll:=liveL_len S1
  obtain ⟨avD2,q2,g2,hd2,hD2,hfd⟩:=refDo_run h2 hdm (by omega) (by omega) x hxs (n:=F - 39) (by omega) (by omega) (by omega) (by omega)
  rw [show F - 39+39=F by omega] at hd2
  obtain ⟨rest3,hB3⟩:=h4.step hfr hM2 hD2 hfd
  have hb3:bnd R (i+1)=bnd R i+bnd R i+1:=rfl
  have hok':(doE S1 x).2.Ok (bnd R (i+1)):=hok
  obtain ⟨g4,hr1,hr2,hx1,hlt,hr3,hB4⟩:=both_rows hok' (by omega) hB3 (n:=F - 3 - bnd R (i+1)) (by omega)
  rw [show F - 3 - bnd R (i+1)+bnd R (i+1)+3=F by omega] at hr1 hr2 hr3
  refine ⟨(i+1,(doE S1 x).2,_,av2,_,avD2,q2), ?_,⟨by simp only;omega,hok',by simp only;omega,hB4⟩,by simp only;omega⟩
  have hrl:((rowsM (doE S1 x).2 (bnd R (i+1))).map GRow.pv).length=(rowsM (doE S1 x).2 (bnd R (i+1))).length:=by simp
  generalize machG (doE S1 x).2.N (doE S1 x).2.st av2 rest2=G2 at hd hd2
  generalize (doE S1 x).1=e at hd hd2
  generalize hX:(rowsM (doE S1 x).2 (bnd R (i+1))).map GRow.pv=X at hr2 hx1 hr3 hrl
  generalize (rowsM (doE S1 x).2 (bnd R (i+1))).length=k at hr1 hr2 hrl
  have hy1:(g4++[AObj.pcells 6 X])[rest3.length+1+1]? = some (.pcells 6 X):=by rw [List.getElem?_append_left hlt];exact hx1
  have hy2:(g4++[AObj.pcells 6 X])[g4.length]? = some (.pcells 6 X):=by simp
  simp only [stepS,GOp.pv,attrsPV] at hd hd2 ⊢
  generalize g4++[AObj.pcells 6 X]=g5 at hr2 hy1 hy2
  have hr4:=hr3 []
  simp -implicitDefEqProofs (disch:=omega) only [Rx,simprocAttr,B4x0,k1,hg,GOp.pv,attrsPV,hd,hd2,hr1,hr2,hr4,hy1,hy2,hrl,PV.sameLL_self]
 ·right
  obtain rfl:i=L.length:=by omega
  have k1:¬ (L.length:Int)<(L.length:Int):=by omega
  refine ⟨_, ?_, ?_,S1,_,g1,av1,rest1,avD1,q1,rfl,h2,by omega,Nat.le_refl _,h4⟩
  ·simp only [stepS]
   simp -implicitDefEqProofs (disch:=omega) only [Rx,simprocAttr,B4x0,k1]
  ·simp
theorem steps_run (l:List GRow) (L:List GOp) (hsm:Rows.small 1048577 l) (hL:∀ x ∈ L,smallOp x) (hLl:L.length≤1048575) :
    ∃ n,acall T n 4 [.p (.list (l.map GRow.pv)),.p (.list (L.map GOp.pv))] []=some (.p (.bool true),[]):=by
  have hlen:=hsm.len
  generalize hB:bnd l.length L.length=B
  obtain ⟨n,hn⟩:∃ n,n=4*4194304+B+B:=⟨_,rfl⟩
  refine ⟨n+l.length+46+B, ?_⟩
  have hsame:=same27 (n+l.length+B - 15)
  rw [show n+l.length+B - 15+60=n+l.length+45+B by omega] at hsame
  have hfr:=fewR_run l 60 [] hsm (Nat.le_refl _) (by omega) (by omega) (m:=n+l.length+44+B) (by omega)
  have hfo:=few_run L 40 [] (n:=n+l.length+44+B) (fun y hy=>⟨hL y hy,by have:=(hL y hy).1;omega⟩) (by omega) (by omega) (by omega) (by omega)
  have hck:=check13_run l hsm (Nat.le_refl _) (n:=n+l.length+7+B) (by omega) []
  rw [show n+l.length+44+B+1=n+l.length+45+B by omega] at hfr hfo
  rw [show n+l.length+7+B+38=n+l.length+45+B by omega] at hck
  rw [show n+l.length+46+B=n+l.length+45+B+1 by omega,acall_code T4,run_pure rfl rfl rfl]
  cases h1:fewRows l 60 with
  | false =>
    rw [h1] at hfr
    simp -implicitDefEqProofs (disch:=omega) only [Rx,simprocAttr,F4,hfr,hsame]
  | true=>
  rw [h1] at hfr
  cases h2:fewOps L 40 with
  | false =>
    rw [h2] at hfo
    simp -implicitDefEqProofs (disch:=omega) only [Rx,simprocAttr,F4,hfr,hfo,hsame]
  | true=>
  rw [h2] at hfo
  by_cases h4:check13 l=0
  rotate_left
  · have h4':(check13 l==0)=false:=by simpa using h4
    simp -implicitDefEqProofs (disch:=omega) only [Rx,simprocAttr,F4,hfr,hfo,hck,h4',hsame]
  rw [h4] at hck
  have hs:sound l:=formed_sound (check13_ok h4).1
  have hS0:=S0_ok hs hsm (Nat.le_refl _)
  obtain ⟨av,rest,hnew,hM,_⟩:=new_run l hsm (Nat.le_refl _) h4 (n:=n+1+B) (by omega)
  rw [show n+1+B+l.length+44=n+l.length+45+B by omega] at hnew
  obtain ⟨avD,g2,hnd,hDM,hBe⟩:=newR_run l (by omega) hs.1 (machG (S0 l).N (S0 l).st av rest) (n:=n+l.length+43+B) (by omega)
  rw [show n+l.length+43+B+2=n+l.length+45+B by omega] at hnd
  obtain ⟨rest2,hBo⟩:=Both.start (S:=S0 l) hM hDM hBe
  have hmg:machG (S0 l).N (S0 l).st av rest=machG (l.length+1) (st0 l) av rest:=rfl
  rw [hmg] at hnd hBo
  generalize machG (l.length+1) (st0 l) av rest=g1 at hnew hnd hBo
  obtain ⟨S',R',g',av',rest',avD',q',hloop,hok,hN',hR',hB'⟩:=steps_loop L (fun x hx=>⟨by have:=(hL x hx).1;omega,(hL x hx).2.1⟩) (by omega) hS0 (by simp only [S0];omega) hBo (F:=n+l.length+45+B) (by rw [hB];omega)
  rw [hB] at hR'
  obtain ⟨g4,hr1,hr2,hx1,hlt,hr3,hB4⟩:=both_rows hok (by omega) hB' (n:=n+l.length+42+B - R') (by omega)
  rw [show n+l.length+42+B - R'+R'+3=n+l.length+45+B by omega] at hr1 hr2 hr3
  have hr4:=hr3 []
  have hrl:((rowsM S' R').map GRow.pv).length=(rowsM S' R').length:=by simp
  generalize hX:(rowsM S' R').map GRow.pv=X at hr2 hx1 hr4 hrl
  generalize (rowsM S' R').length=k at hr1 hr2 hrl
  have hy1:(g4++[AObj.pcells 6 X])[rest'.length+1+1]? = some (.pcells 6 X):=by rw [List.getElem?_append_left hlt];exact hx1
  have hy2:(g4++[AObj.pcells 6 X])[g4.length]? = some (.pcells 6 X):=by simp
  generalize g4++[AObj.pcells 6 X]=g5 at hr2 hy1 hy2
  have ll:(L.map GOp.pv).length=L.length:=by simp
  simp only [stepS,Int.natCast_zero] at hloop
  simp -implicitDefEqProofs (disch:=omega) only [Rx,simprocAttr,F4,hfr,hfo,hck,hnew,hnd,hloop,hr1,hr2,hr4,hy1,hy2,hrl,ll,hsame]
end Tryz
end Go.TA


end
