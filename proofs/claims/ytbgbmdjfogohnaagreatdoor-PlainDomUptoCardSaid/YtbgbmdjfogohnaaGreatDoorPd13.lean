/- Part 13 of 14 of a proof; joined from PdmMDo2, PdmMDo3, PdmDoDM, PdmDuo, MBelow, MRowsP, PdmDocRead, PdmCheck13, PdmVisit, PdmVisitE, PdmBuildE, PdmFlatA, PdmFlat, PdmFlatE, PdmPNew, PdmMRun. A script is run. -/
import Derived.Test.YtbgbmdjfogohnaaGreatDoorPd1
import Derived.Test.YtbgbmdjfogohnaaGreatDoorPd12
import Derived.Test.YtbgbmdjfogohnaaGreatDoorPd7
import Derived.Test.YtbgbmdjfogohnaaGreatDoorPd11
import Derived.Test.YtbgbmdjfogohnaaGreatDoorPd6
set_option linter.unusedSimpArgs false
set_option linter.unusedVariables false
set_option linter.defProp false
set_option maxRecDepth 100000
set_option maxHeartbeats 8000000
section
/- What an operation does to a machine: the functions insert, move, Do, Run. -/
namespace Go.TA.Tryz
theorem d8r {R:Nat} {S:MS} (hS:S.Ok R) (hN:S.N≤4194304) (av:Nat→AV) (rest:List AObj) (hM:MOk S.N av S.kd rest) (x:GOp) (hx0:x.node≠0) {n:Nat} (hn:S.N+R+3<n) :
  ∃ av' rest',b0g T (n+3) 66 [MP,.p (.agg x.pv)] (b0m S.N S.st av rest)=some (.p (.int .i64 (b7m S x).1),b0m (b7m S x).2.N (b7m S x).2.st av' rest')∧MOk (b7m S x).2.N av' (b7m S x).2.kd rest'∧Fr S.N av rest (b7m S x).2.N av' rest':=by
 have len1:∀ st av,(b0x S.N st av).length=S.N:=fun _ _=>b2i
 have hlv:=fun h=>c8f S av rest h (n+1)
 unfold b7m
 by_cases hl:(b2b S x.node && (b2b S x.up && b2b S x.before))=false
 ·rw [if_pos hl]
  refine ⟨av,rest, ?_,hM,Fr.refl _ _ _⟩
  rw [b0a T66,b0e rfl rfl]
  cases a1:b2b S x.node
  ·simp only [b0m] at hlv ⊢
   simp -implicitDefEqProofs (disch:=omega) only [Rx,simprocAttr,F66,GOp.pv,b0b,hlv,a1]
  cases a2:b2b S x.up
  ·simp only [b0m] at hlv ⊢
   simp -implicitDefEqProofs (disch:=omega) only [Rx,simprocAttr,F66,GOp.pv,b0b,hlv,a1,a2]
  cases a3:b2b S x.before
  ·simp only [b0m] at hlv ⊢
   simp -implicitDefEqProofs (disch:=omega) only [Rx,simprocAttr,F66,GOp.pv,b0b,hlv,a1,a2,a3]
  rw [a1,a2,a3] at hl;cases hl
 rw [if_neg hl]
 simp only [Bool.not_eq_false,Bool.and_eq_true] at hl
 obtain ⟨a1,a2,a3⟩:=hl
 obtain ⟨c,hc,hcN,hcl⟩:=b4h a1
 obtain ⟨u,hu,huN,hul⟩:=b4h a2
 obtain ⟨b,hb,hbN,hbl⟩:=b4h a3
 have hlv1:=hlv x.node
 have hlv2:=hlv x.up
 have hlv3:=hlv x.before
 rw [a1] at hlv1
 rw [a2] at hlv2
 rw [a3] at hlv3
 have hgc:(b0x S.N S.st av).getD c []=b1t (S.st c) (av c):=b1y hcN
 have hgb:(b0x S.N S.st av).getD b []=b1t (S.st b) (av b):=b1y hbN
 have k1:(c:Int)<(S.N:Int):=by omega
 have k3:(b:Int)<(S.N:Int):=by omega
 have un:=g5k hS av rest c u huN (n:=n+1) (by omega)
 rw [hc] at hlv1 hx0 ⊢
 rw [hu] at hlv2 ⊢
 rw [hb] at hlv3 ⊢
 have uo:upOf S (c:Int)=(S.st c).up:=rfl
 have ub:upOf S (b:Int)=(S.st b).up:=rfl
 rw [uo,ub]
 simp only [Int.toNat_natCast]
 simp only [b1t] at hgc hgb
 by_cases h15:0≤(S.st c).up
 ·rw [if_pos h15]
  refine ⟨av,rest, ?_,hM,Fr.refl _ _ _⟩
  rw [b0a T66,b0e rfl rfl]
  simp only [b0m] at hlv1 hlv2 hlv3 ⊢
  simp -implicitDefEqProofs (disch:=omega) only [Rx,simprocAttr,F66,GOp.pv,b0b,hc,hu,hb,hlv1,hlv2,hlv3,len1,hgc,k1,h15]
 rw [if_neg h15]
 by_cases h17:b2e S (u:Int) (c:Int)=true
 ·rw [if_pos h17]
  rw [h17] at un
  refine ⟨av,rest, ?_,hM,Fr.refl _ _ _⟩
  rw [b0a T66,b0e rfl rfl]
  simp only [b0m] at hlv1 hlv2 hlv3 un ⊢
  simp -implicitDefEqProofs (disch:=omega) only [Rx,simprocAttr,F66,GOp.pv,b0b,hc,hu,hb,hlv1,hlv2,hlv3,len1,hgc,k1,h15,un]
 rw [if_neg h17]
 simp only [Bool.not_eq_true] at h17
 rw [h17] at un
 by_cases h18:(b:Int)≠0∧(S.st b).up≠(u:Int)
 ·rw [if_pos h18]
  refine ⟨av,rest, ?_,hM,Fr.refl _ _ _⟩
  have e1:((b:Int)==0)=false:=by simpa using h18.1
  have e2:((S.st b).up==(u:Int))=false:=by simpa using h18.2
  rw [b0a T66,b0e rfl rfl]
  simp only [b0m] at hlv1 hlv2 hlv3 un ⊢
  simp -implicitDefEqProofs (disch:=omega) only [Rx,simprocAttr,F66,GOp.pv,b0b,hc,hu,hb,hlv1,hlv2,hlv3,len1,hgc,hgb,k1,k3,h15,un,e1,e2]
 rw [if_neg h18]
 have hbk:(b:Int)=0∨(b:Int) ∈ S.kd u:=by
  by_cases e:(b:Int)=0
  ·exact .inl e
  ·right
   by_cases e2:(S.st b).up=(u:Int)
   ·exact h4q hS hbN e2
   ·exact absurd ⟨e,e2⟩ h18
 obtain ⟨av',rest',hp,hM',hfr⟩:=d4q hS hN av rest hM c u (b:Int) hcN huN hbk (n:=n) (by omega)
 refine ⟨av',rest', ?_,hM',hfr⟩
 simp only
 rw [show (b1s S c u (b:Int)).N=S.N from rfl]
 generalize (b1s S c u (b:Int)).st=st' at hp ⊢
 rw [b0a T66,b0e rfl rfl]
 by_cases e:(b:Int)=0
 ·have e1:((b:Int)==0)=true:=by simpa using e
  simp only [b0m] at hlv1 hlv2 hlv3 un hp ⊢
  simp -implicitDefEqProofs (disch:=omega) only [Rx,simprocAttr,F66,GOp.pv,b0b,hc,hu,hb,hlv1,hlv2,hlv3,len1,hgc,k1,h15,un,e1,hp]
 ·have e1:((b:Int)==0)=false:=by simpa using e
  have e2:((S.st b).up==(u:Int))=true:=by
   by_cases e2:(S.st b).up=(u:Int)
   ·simpa using e2
   ·exact absurd ⟨e,e2⟩ h18
  simp only [b0m] at hlv1 hlv2 hlv3 un hp ⊢
  simp -implicitDefEqProofs (disch:=omega) only [Rx,simprocAttr,F66,GOp.pv,b0b,hc,hu,hb,hlv1,hlv2,hlv3,len1,hgc,hgb,k1,k3,h15,un,e1,e2,hp]
theorem g7f {R : Nat} {S : MS} (hS : S.Ok R) (hN : S.N ≤ 4194304) (av : Nat → AV) (rest : List AObj) (hM : MOk S.N av S.kd rest) (x : GOp) (hx0 : x.node ≠ 0) {n : Nat} (hn : S.N + R + 3 < n) :
    ∃ av' rest',b0g T (n+5) 67 [MP,.p (.agg x.pv)] (b0m S.N S.st av rest)=some (.p (.int .i64 (c8a S x).1),b0m (c8a S x).2.N (c8a S x).2.st av' rest')∧MOk (c8a S x).2.N av' (c8a S x).2.kd rest'∧Fr S.N av rest (c8a S x).2.N av' rest':=by
  have len1:∀ st av,(b0x S.N st av).length=S.N:=fun _ _=>b2i
  have hlv:=fun h=>c8f S av rest h (n+3)
  unfold c8a
  by_cases a1:b2b S x.node=false
  · rw [if_pos (by rw [a1];rfl)]
    refine ⟨av,rest, ?_,hM,Fr.refl _ _ _⟩
    rw [b0a T67,b0e rfl rfl]
    simp only [b0m] at hlv ⊢
    simp -implicitDefEqProofs (disch:=omega) only [Rx,simprocAttr,F67,GOp.pv,b0b,hlv,a1]
  simp only [Bool.not_eq_false] at a1
  obtain ⟨c,hc,hcN,hcl⟩:=b4h a1
  have hgc:(b0x S.N S.st av).getD c []=b1t (S.st c) (av c):=b1y hcN
  have k1:(c:Int)<(S.N:Int):=by omega
  have hlv1:=hlv x.node
  have hlv3:=hlv x.before
  rw [a1] at hlv1
  simp only [b1t] at hgc
  by_cases a3:b2b S x.before=false
  · rw [if_pos (by rw [a1,a3];rfl)]
    rw [a3] at hlv3
    rw [hc] at hlv1
    refine ⟨av,rest, ?_,hM,Fr.refl _ _ _⟩
    rw [b0a T67,b0e rfl rfl]
    simp only [b0m] at hlv1 hlv3 ⊢
    simp -implicitDefEqProofs (disch:=omega) only [Rx,simprocAttr,F67,GOp.pv,b0b,hc,hlv1,hlv3,len1,hgc,k1]
  simp only [Bool.not_eq_false] at a3
  rw [if_neg (by rw [a1,a3];simp)]
  rw [a3] at hlv3
  obtain ⟨b,hb,hbN,hbl⟩:=b4h a3
  have hgb:(b0x S.N S.st av).getD b []=b1t (S.st b) (av b):=b1y hbN
  have k3:(b:Int)<(S.N:Int):=by omega
  simp only [b1t] at hgb
  rw [hc] at hlv1 hx0 ⊢
  rw [hb] at hlv3 ⊢
  have uo:upOf S (c:Int)=(S.st c).up:=rfl
  have ub:upOf S (b:Int)=(S.st b).up:=rfl
  rw [uo,ub]
  simp only [Int.toNat_natCast]
  by_cases h16:(S.st c).up<0
  · rw [if_pos h16]
    refine ⟨av,rest, ?_,hM,Fr.refl _ _ _⟩
    rw [b0a T67,b0e rfl rfl]
    simp only [b0m] at hlv1 hlv3 ⊢
    simp -implicitDefEqProofs (disch:=omega) only [Rx,simprocAttr,F67,GOp.pv,b0b,hc,hb,hlv1,hlv3,len1,hgc,k1,h16]
  rw [if_neg h16]
  obtain ⟨u,hu,huN,hul,hkid⟩:=hS.up_nat hcN (by omega)
  rw [hu] at h16 hgc ⊢
  by_cases e0:(b:Int)=(c:Int)
  · rw [if_pos (.inl e0)]
    have q1:((b:Int)==(c:Int))=true:=by simpa using e0
    refine ⟨av,rest, ?_,hM,Fr.refl _ _ _⟩
    rw [b0a T67,b0e rfl rfl]
    simp only [b0m] at hlv1 hlv3 ⊢
    simp -implicitDefEqProofs (disch:=omega) only [Rx,simprocAttr,F67,GOp.pv,b0b,hc,hb,hlv1,hlv3,len1,hgc,k1,h16,q1]
  have q1:((b:Int)==(c:Int))=false:=by simpa using e0
  by_cases h18:(b:Int)≠0∧(S.st b).up≠(u:Int)
  · rw [if_pos (.inr h18)]
    have e1:((b:Int)==0)=false:=by simpa using h18.1
    have e2:((S.st b).up==(u:Int))=false:=by simpa using h18.2
    refine ⟨av,rest, ?_,hM,Fr.refl _ _ _⟩
    rw [b0a T67,b0e rfl rfl]
    simp only [b0m] at hlv1 hlv3 ⊢
    simp -implicitDefEqProofs (disch:=omega) only [Rx,simprocAttr,F67,GOp.pv,b0b,hc,hb,hlv1,hlv3,len1,hgc,hgb,k1,k3,h16,q1,e1,e2]
  rw [if_neg (fun h=>h.elim e0 h18)]
  obtain ⟨hT,hTup⟩:=hS.take hcN hcl
  have hTN:=b4r S c
  obtain ⟨av1,rest1,ht,hM1,hfr1⟩:=d9v hS hN av rest hM c hcN (n:=n) (by omega)
  rw [← hTN] at hM1
  have hbk:(b:Int)=0∨(b:Int) ∈ (b1h S c).kd u:=by
    by_cases e:(b:Int)=0
    · exact .inl e
    · right
      by_cases e2:(S.st b).up=(u:Int)
      · have hk:=h4q hS hbN e2
        unfold b1h
        rw [if_neg (by omega),hu,Int.toNat_natCast]
        simp only
        rw [b0l,List.mem_filter]
        exact ⟨hk,by simp;omega⟩
      · exact absurd ⟨e,e2⟩ h18
  obtain ⟨av',rest',hp,hM',hfr2⟩:=d4q hT (by omega) av1 rest1 hM1 c u (b:Int) (by omega) (by omega) hbk (n:=n+2) (by omega)
  refine ⟨av',rest', ?_,by simpa [b1s] using hM',by simpa [b1s] using (show Fr S.N av rest (b1h S c).N av1 rest1 by rw [hTN];exact hfr1).trans hfr2⟩
  simp only [Int.toNat_natCast]
  rw [show (b1s (b1h S c) c u (b:Int)).N=(b1h S c).N from rfl,hTN]
  rw [hTN] at hp
  generalize (b1s (b1h S c) c u (b:Int)).st=st' at hp ⊢
  generalize (b1h S c).st=st1 at ht hp
  rw [b0a T67,b0e rfl rfl]
  by_cases e:(b:Int)=0
  · have e1:((b:Int)==0)=true:=by simpa using e
    simp only [b0m] at hlv1 hlv3 ht hp ⊢
    simp -implicitDefEqProofs (disch:=omega) only [Rx,simprocAttr,F67,GOp.pv,b0b,hc,hb,hlv1,hlv3,len1,hgc,k1,h16,q1,e1,ht,hp]
  · have e1:((b:Int)==0)=false:=by simpa using e
    have e2:((S.st b).up==(u:Int))=true:=by
      by_cases e2:(S.st b).up=(u:Int)
      · simpa using e2
      · exact absurd ⟨e,e2⟩ h18
    simp only [b0m] at hlv1 hlv3 ht hp ⊢
    simp -implicitDefEqProofs (disch:=omega) only [Rx,simprocAttr,F67,GOp.pv,b0b,hc,hb,hlv1,hlv3,len1,hgc,hgb,k1,k3,h16,q1,e1,e2,ht,hp]
end Go.TA.Tryz


end
section
/- What an operation does to a machine: the functions Do, Run. -/
namespace Go.TA.Tryz
theorem h8z {R:Nat} {S:MS} (hS:S.Ok R) (hN:S.N≤4194303) (av:Nat→AV) (rest:List AObj) (hM:MOk S.N av S.kd rest) (x:GOp) (hx:x.attrs.length≤1048576) {n:Nat} (hn:S.N+R+1048580<n) :
  ∃ av' rest',b0g T (n+R+61) 19 [MP,.p (.agg x.pv)] (b0m S.N S.st av rest)=some (.p (.int .i64 (doE S x).1),b0m (doE S x).2.N (doE S x).2.st av' rest')∧MOk (doE S x).2.N av' (doE S x).2.kd rest'∧Fr S.N av rest (doE S x).2.N av' rest':=by
 have len1:∀ st av,(b0x S.N st av).length=S.N:=fun _ _=>b2i
 have hck:=h1k x [] (n:=n+R+22) (by omega) hx
 rw [show n+R+22+38=n+R+60 by omega] at hck
 have k0:((S.N:Int)==0)=false:=by have:=hS.pos;simp;omega
 unfold doE
 by_cases he:b0y x=0
 rotate_left
 ·rw [if_neg he]
  have e1:(b0y x==0)=false:=by simpa using he
  refine ⟨av,rest, ?_,hM,Fr.refl _ _ _⟩
  rw [b0a T19,b0e rfl rfl]
  simp only [GOp.pv,b0b] at hck
  generalize b0y x=e at hck e1 ⊢
  simp only [b0m]
  simp -implicitDefEqProofs (disch:=omega) only [Rx,simprocAttr,F19,GOp.pv,b0b,hck,k0,e1]
 rw [if_pos he]
 rw [he] at hck
 unfold doM
 by_cases h1:x.kind=1
 ·rw [if_pos h1]
  have e1:(x.kind==1)=true:=by simpa using h1
  have hcl:=b4j x.attrs (by omega) [] (n+R+59)
  have hpush:=c7g (N:=S.N) (st:=S.st) (av:=av) ⟨true, -1,x.tag,x.key,x.text,x.attrs⟩ .nils
  simp only [b1t] at hpush
  refine ⟨upd av S.N .nils,rest, ?_,hM.push,Fr.push _ _ _⟩
  have len2:(b0x (S.N+1) (upd S.st S.N ⟨true, -1,x.tag,x.key,x.text,x.attrs⟩) (upd av S.N .nils)).length=S.N+1:=b2i
  rw [b0a T19,b0e rfl rfl]
  simp only [GOp.pv,b0b] at hck
  simp only [b0m,MS.create]
  generalize b0x (S.N+1) (upd S.st S.N ⟨true, -1,x.tag,x.key,x.text,x.attrs⟩) (upd av S.N .nils)=rows' at hpush len2 ⊢
  simp -implicitDefEqProofs (disch:=omega) only [Rx,simprocAttr,F19,GOp.pv,b0b,hck,k0,len1,len2,e1,hcl,hpush]
 rw [if_neg h1]
 have e1:(x.kind==1)=false:=by simpa using h1
 by_cases h0:x.node=0
 ·rw [if_pos h0]
  have e0:(x.node==0)=true:=by simpa using h0
  refine ⟨av,rest, ?_,hM,Fr.refl _ _ _⟩
  rw [b0a T19,b0e rfl rfl]
  simp only [GOp.pv,b0b] at hck
  simp only [b0m]
  simp -implicitDefEqProofs (disch:=omega) only [Rx,simprocAttr,F19,GOp.pv,b0b,hck,k0,e1,e0]
 rw [if_neg h0]
 have e0:(x.node==0)=false:=by simpa using h0
 by_cases h2:x.kind=2
 ·rw [if_pos h2]
  have e2:(x.kind==2)=true:=by simpa using h2
  obtain ⟨av',rest',hp,hM',hfr⟩:=d8r hS (by omega) av rest hM x h0 (n:=n+R+57) (by omega)
  refine ⟨av',rest', ?_,hM',hfr⟩
  rw [show n+R+57+3=n+R+60 by omega] at hp
  generalize b7m S x=q at hp ⊢
  rw [b0a T19,b0e rfl rfl]
  simp only [GOp.pv,b0b] at hck hp
  simp only [b0m] at hp ⊢
  simp -implicitDefEqProofs (disch:=omega) only [Rx,simprocAttr,F19,GOp.pv,b0b,hck,k0,e1,e0,e2,hp]
 rw [if_neg h2]
 have e2:(x.kind==2)=false:=by simpa using h2
 by_cases h3:x.kind=3
 ·rw [if_pos h3]
  have e3:(x.kind==3)=true:=by simpa using h3
  obtain ⟨av',rest',hp,hM',hfr⟩:=g7f hS (by omega) av rest hM x h0 (n:=n+R+55) (by omega)
  refine ⟨av',rest', ?_,hM',hfr⟩
  rw [show n+R+55+5=n+R+60 by omega] at hp
  generalize c8a S x=q at hp ⊢
  rw [b0a T19,b0e rfl rfl]
  simp only [GOp.pv,b0b] at hck hp
  simp only [b0m] at hp ⊢
  simp -implicitDefEqProofs (disch:=omega) only [Rx,simprocAttr,F19,GOp.pv,b0b,hck,k0,e1,e0,e2,e3,hp]
 rw [if_neg h3]
 have e3:(x.kind==3)=false:=by simpa using h3
 have hft:=fun av rest=>h6m S av rest x.node (n+R+58)
 by_cases hl:b2b S x.node=false
 ·rw [if_pos hl]
  have ef:fitE S x.node=13:=by simp [fitE,h0,hl]
  rw [ef] at hft
  refine ⟨av,rest, ?_,hM,Fr.refl _ _ _⟩
  rw [b0a T19,b0e rfl rfl]
  simp only [GOp.pv,b0b] at hck
  simp only [b0m] at hft ⊢
  simp -implicitDefEqProofs (disch:=omega) only [Rx,simprocAttr,F19,GOp.pv,b0b,hck,k0,e1,e0,e2,e3,hft]
 rw [if_neg hl]
 simp only [Bool.not_eq_false] at hl
 have ef:fitE S x.node=0:=by simp [fitE,h0,hl]
 rw [ef] at hft
 obtain ⟨c,hc,hcN,hcl⟩:=b4h hl
 have k1:(c:Int)<(S.N:Int):=by omega
 rw [hc] at hft e0
 by_cases h4:x.kind=4
 ·rw [if_pos h4]
  have e4:(x.kind==4)=true:=by simpa using h4
  obtain ⟨hT,hTup⟩:=hS.take hcN hcl
  have hTN:=b4r S c
  obtain ⟨av1,rest1,ht,hM1,hfr1⟩:=d9v hS (by omega) av rest hM c hcN (n:=n+R+56) (by omega)
  rw [← hTN] at hM1
  obtain ⟨av2,hp,hM2,hfr2⟩:=h6s hT (by omega) av1 rest1 hM1 c (by omega) (n:=n+59) (by omega)
  rw [show n+59+R+1=n+R+60 by omega] at hp
  rw [show n+R+56+4=n+R+60 by omega] at ht
  rw [hc]
  simp only [Int.toNat_natCast]
  refine ⟨av2,rest1, ?_,hM2,(show Fr S.N av rest (b1h S c).N av1 rest1 by rw [hTN];exact hfr1).trans hfr2⟩
  rw [show (endM (b1h S c) (c:Int)).N=(b1h S c).N from rfl,hTN]
  rw [hTN] at hp
  generalize (endM (b1h S c) (c:Int)).st=st2 at hp ⊢
  generalize (b1h S c).st=st1 at ht hp
  rw [b0a T19,b0e rfl rfl]
  simp only [GOp.pv,b0b,hc] at hck
  simp only [b0m] at hft ht hp ⊢
  simp -implicitDefEqProofs (disch:=omega) only [Rx,simprocAttr,F19,GOp.pv,b0b,hc,hck,k0,e1,e0,e2,e3,e4,hft,ht,hp]
 rw [if_neg h4]
 have e4:(x.kind==4)=false:=by simpa using h4
 have hp:=g4a hS av rest c hcN x (n:=n+R+55) (by omega)
 rw [show n+R+55+5=n+R+60 by omega] at hp
 obtain ⟨_,hcn⟩:=d1d hS hcN x
 have hck2:(b7p S c x).2.kd=S.kd:=by
  unfold b7p
  split
  ·split <;> rfl
  split
  ·split <;> rfl
  split <;> rfl
 rw [hc]
 simp only [Int.toNat_natCast]
 refine ⟨av,rest, ?_,by rw [hcn,hck2];exact hM,by rw [hcn];exact Fr.refl _ _ _⟩
 rw [hcn]
 generalize b7p S c x=q at hp ⊢
 rw [b0a T19,b0e rfl rfl]
 simp only [GOp.pv,b0b,hc] at hck hp
 simp only [b0m] at hft hp ⊢
 simp -implicitDefEqProofs (disch:=omega) only [Rx,simprocAttr,F19,GOp.pv,b0b,hc,hck,k0,k1,len1,e1,e0,e2,e3,e4,hft,hp]
end Go.TA.Tryz


end
section
/- What a machine does is what a document does, if the operation may be. Plain. -/
namespace Go.TA.Tryz
structure h9u (x:GOp):Prop where
 kind:1≤x.kind∧x.kind≤7
 tag:x.kind=1→b1z false x.tag=true
 name:x.kind=5∨x.kind=6→b1z true x.name=true
 key:(x.key.length:Int)≤65536
 text:(x.text.length:Int)≤65536
 attrs:b2a x.attrs=0
 hs:0≤x.node∧x.node≤4294967295∧0≤x.up∧x.up≤4294967295∧0≤x.before∧x.before≤4294967295
 none:b8i x=false
theorem d5q {x:GOp} (h:b0y x=0):h9u x:=by
 unfold b0y at h
 split at h
 ·omega
 split at h
 ·omega
 split at h
 ·omega
 split at h
 ·omega
 split at h
 ·omega
 split at h
 ·omega
 split at h
 ·omega
 split at h
 ·omega
 split at h
 ·omega
 split at h
 ·omega
 rename_i h1 h2 h3 h4 h5 h6 h7 h8 h9 h10
 simp only [Bool.not_eq_false,Bool.not_eq_true] at h3 h4 h5 h6 h7 h8
 simp only [hOk,Bool.and_eq_true,decide_eq_true_eq] at h3 h4 h5
 refine ⟨⟨by omega,by omega⟩,fun hk => ?_,fun hk => ?_,by omega,by omega,h,⟨h3.1,h3.2,h4.1,h4.2,h5.1,h5.2⟩,h6⟩
 ·simpa [b1u,hk] using h7
 ·rcases hk with hk | hk
  ·simpa [b1e,hk] using h8
  ·simpa [b1e,hk] using h8
theorem h2r {S:MS} {h:Int} (h0:h≠0):fitE S h=if b2b S h=true then 0 else 13:=by simp [fitE,h0]
theorem h7a {S:MS} {x:GOp} (h:b0y x=0) (hN:S.N≤4294967295):(doD S x).2=doM S x:=by
 have hf:=d5q h
 unfold doD doM
 by_cases h1:x.kind=1
 ·rw [if_pos h1,if_pos h1]
  have hz:b0v S.N x=0:=by
   have:=hf.key
   have:=hf.text
   simp only [b0v,hf.tag h1,Bool.true_eq_false,if_false,hf.attrs,ne_eq,not_true_eq_false]
   rw [if_neg (by omega),if_neg (by omega)]
  rw [if_pos hz]
 rw [if_neg h1,if_neg h1]
 by_cases h0:x.node=0
 ·rw [if_pos h0]
  have f0:fitE S x.node=14:=by simp [fitE,h0]
  by_cases h2:x.kind=2
  ·simp only [if_pos h2,b4b,f0];rfl
  rw [if_neg h2]
  by_cases h3:x.kind=3
  ·simp only [if_pos h3,c3l,f0];rfl
  rw [if_neg h3]
  by_cases h4:x.kind=4
  ·simp only [if_pos h4,b5d,f0];rfl
  rw [if_neg h4]
  by_cases h5:x.kind=5
  ·simp only [if_pos h5,setD,f0];rfl
  rw [if_neg h5]
  by_cases h6:x.kind=6
  ·simp only [if_pos h6,delD,f0];rfl
  rw [if_neg h6]
  have h7:x.kind=7:=by have:=hf.kind;omega
  simp only [if_pos h7,c2u,f0];rfl
 rw [if_neg h0]
 have fn:=h2r (S:=S) h0
 by_cases h2:x.kind=2
 ·rw [if_pos h2,if_pos h2]
  unfold b4b b7m
  rw [fn]
  cases hl:b2b S x.node <;> simp
 rw [if_neg h2,if_neg h2]
 by_cases h3:x.kind=3
 ·rw [if_pos h3,if_pos h3]
  unfold c3l c8a
  rw [fn]
  cases hl:b2b S x.node <;> simp
 rw [if_neg h3,if_neg h3]
 by_cases h4:x.kind=4
 ·rw [if_pos h4,if_pos h4]
  unfold b5d
  rw [fn]
  cases hl:b2b S x.node <;> simp
 rw [if_neg h4,if_neg h4]
 unfold b7p
 by_cases h5:x.kind=5
 ·have:=hf.text
  have hn:=hf.name (.inl h5)
  rw [if_pos h5,if_pos h5]
  unfold setD
  rw [fn]
  cases hl:b2b S x.node
  ·simp
  ·simp only [if_true,ne_eq,not_true_eq_false,if_false,hn,Bool.true_eq_false]
   rw [if_neg (by omega)]
 rw [if_neg h5,if_neg h5]
 by_cases h6:x.kind=6
 ·rw [if_pos h6,if_pos h6]
  unfold delD
  rw [fn]
  cases hl:b2b S x.node <;> simp
 rw [if_neg h6,if_neg h6]
 have h7:x.kind=7:=by have:=hf.kind;omega
 rw [if_pos h7,if_pos h7]
 unfold c2u
 rw [fn]
 have:=hf.text
 cases hl:b2b S x.node
 ·simp
 ·simp only [if_true,ne_eq,not_true_eq_false,if_false,Bool.true_eq_false]
  rw [if_neg (by omega)]
end Go.TA.Tryz


end
section
/- A machine and a watch beside each other in memory. -/
namespace Go.TA
structure Duo (R k:Nat) (M S:MS) (av:Nat→AV) (rest:List AObj) (it nd:Nat→Nat) (I:Nat→LK) (pd pm pw:Nat) (tp:AV):Prop where
 mok:MOk M.N av M.kd rest
 w:Wat R k S it nd I pd pm pw tp (b0m M.N M.st av rest)
 two:∀ j,OwnW S it nd pd pm pw tp j→2≤j
 apart:∀ h,h<M.N→∀ r,b2o (av h)=some r→¬ OwnW S it nd pd pm pw tp r
theorem c8d (N:Nat) (st:Nat→b3o) (av:Nat→AV) (rest:List AObj):(b0m N st av rest).length=rest.length+2:=by simp [b0m]
theorem h2e {A B:AObj} {g:List AObj} (h0:g[0]? = some A) (h1:g[1]? = some B):g=A::B::g.drop 2:=by
  match g,h0,h1 with
  | a :: b :: r, h0, h1 =>
    simp only [List.getElem?_cons_zero,List.getElem?_cons_succ,Option.some.injEq] at h0 h1
    simp [h0,h1]
theorem Wat.own_lt {R k:Nat} {S:MS} {it nd:Nat→Nat} {I:Nat→LK} {pd pm pw:Nat} {tp:AV} {g:List AObj} (h:Wat R k S it nd I pd pm pw tp g) {j:Nat} (hj:OwnW S it nd pd pm pw tp j):j<g.length:=by
 rcases hj with h1 | h1 | h1
 ·exact h.doc.lies.own_lt h1
 ·subst h1;exact (List.getElem?_eq_some_iff.1 h.wat).1
 ·exact h.tape.lt h1
theorem Wat.keep {R k:Nat} {S:MS} {it nd:Nat→Nat} {I:Nat→LK} {pd pm pw:Nat} {tp:AV} {g g':List AObj} (h:Wat R k S it nd I pd pm pw tp g) (hg:∀ j,OwnW S it nd pd pm pw tp j→g'[j]? = g[j]?):Wat R k S it nd I pd pm pw tp g' :=
 ⟨⟨h.doc.ok,h.doc.link,h.doc.lies.keep fun j hj=>hg j (.inl hj)⟩,by rw [hg _ (.inr (.inl rfl))];exact h.wat,h.tape.keep fun q hq _=>hg q (.inr (.inr hq)),h.sepW,h.sepT⟩
theorem c6r {M:MS} {av:Nat→AV} {rest:List AObj} (hm:MOk M.N av M.kd rest) {O:Nat→Prop} (two:∀ j,O j→2≤j) (apart:∀ h,h<M.N→∀ r,b2o (av h)=some r→¬ O r)
  {R k:Nat} {S:MS} {it nd:Nat→Nat} {I:Nat→LK} {pd pm pw:Nat} {tp:AV} {g':List AObj} (hW:Wat R k S it nd I pd pm pw tp g') (hF:GFr (b0m M.N M.st av rest) O g' (OwnW S it nd pd pm pw tp)) :
  ∃ rest',g'=b0m M.N M.st av rest'∧Duo R k M S av rest' it nd I pd pm pw tp∧rest.length≤rest'.length:=by
 have hlen:=c8d M.N M.st av rest
 have e0:g'[0]? = some (.cells 7 (b0x M.N M.st av)):=by
  rw [hF.keep 0 (by omega) fun h=>by have:=two 0 h;omega];rfl
 have e1:g'[1]? = some (.cells 1 [[.own true 0 M.N]]):=by
  rw [hF.keep 1 (by omega) fun h=>by have:=two 1 h;omega];rfl
 have his:g'=b0m M.N M.st av (g'.drop 2):=h2e e0 e1
 have hgl:=hF.len
 refine ⟨g'.drop 2,his,⟨⟨fun c hc => ?_,hm.disj⟩,by rw [← his];exact hW,fun j hj => ?_,fun c hc r hr hO => ?_⟩,by rw [List.length_drop];omega⟩
 ·rcases (hm.kids c hc).inv with ⟨e,e2⟩ | ⟨i,e,hi⟩ | e
  ·rw [e,e2];exact .none
  ·have hr:b2o (av c)=some (i+1+1):=by rw [e];rfl
   have hil:=(List.getElem?_eq_some_iff.1 hi).1
   rw [e]
   refine .own ?_
   rw [List.getElem?_drop,show 2+i=i+1+1 by omega,hF.keep _ (by omega) (apart c hc _ hr)]
   simpa [b0m] using hi
  ·rw [e];exact .list
 ·by_cases hl:j<(b0m M.N M.st av rest).length
  ·exact two j (hF.refs j hj hl)
  ·omega
 ·have hlt:=(hm.kids c hc).ref_lt hr
  exact apart c hc r hr (hF.refs r hO (by omega))
theorem Duo.mach {R k:Nat} {M M' S:MS} {av av':Nat→AV} {rest rest':List AObj} {it nd:Nat→Nat} {I:Nat→LK} {pd pm pw:Nat} {tp:AV} (h:Duo R k M S av rest it nd I pd pm pw tp) (hf:Fr M.N av rest M'.N av' rest') (hm:MOk M'.N av' M'.kd rest'):Duo R k M' S av' rest' it nd I pd pm pw tp:=by
 have hlen:=c8d M.N M.st av rest
 have hfl:=hf.len
 refine ⟨hm,h.w.keep fun j hj => ?_,h.two,fun c hc r hr hO => ?_⟩
 ·have h2:=h.two j hj
  have hl:=h.w.own_lt hj
  obtain ⟨i,rfl⟩:∃ i,j=i+1+1:=⟨j - 2,by omega⟩
  simp only [b0m,List.getElem?_cons_succ]
  exact hf.keep i (by omega) fun c hc e=>h.apart c hc _ e hj
 ·have h2:=h.two r hO
  have hl:=h.w.own_lt hO
  obtain ⟨i,rfl⟩:∃ i,r=i+1+1:=⟨r - 2,by omega⟩
  obtain ⟨c0,hc0,e0⟩:=hf.refs c hc i hr (by omega)
  exact h.apart c0 hc0 _ e0 hO
theorem Doc.congr {R R':Nat} {S S':MS} {it nd:Nat→Nat} {I:Nat→LK} {pd pm:Nat} {g:List AObj} (h:Doc R S it nd I pd pm g) (hN:S'.N=S.N) (hst:∀ k,k<S.N→S'.st k=S.st k) (hkd:∀ k,k<S.N→S'.kd k=S.kd k) (hok:S'.Ok R'):Doc R' S' it nd I pd pm g:=by
 have hL:b0h S'=b0h S:=by
  unfold b0h
  rw [hN]
  exact List.filter_congr fun k hk=>by rw [hst k (List.mem_range.1 hk)]
 have hlt:∀ c ∈ b0h S,c<S.N:=fun c hc=>(b0j.1 hc).1
 refine ⟨hok,⟨fun c hc => ?_,fun c hc => ?_,fun c hc => ?_⟩, ?_⟩
 ·rw [hL] at hc
  rw [h.link.up c hc]
  unfold upN
  rw [hst c (hlt c hc)]
 ·rw [hL] at hc
  have:=h.link.kids c hc
  unfold b0s at this ⊢
  rw [hkd c (hlt c hc)];exact this
 ·rw [hL] at hc
  rw [hst c (hlt c hc)]
  exact h.link.loose c hc
 ·rw [hL,hN]
  exact h.lies.st_congr (fun c hc=>by rw [hst c (hlt c hc)]) (fun _ _=>rfl)
theorem Wat.congr {R R' k:Nat} {S S':MS} {it nd:Nat→Nat} {I:Nat→LK} {pd pm pw:Nat} {tp:AV} {g:List AObj} (h:Wat R k S it nd I pd pm pw tp g) (hN:S'.N=S.N) (hst:∀ k,k<S.N→S'.st k=S.st k) (hkd:∀ k,k<S.N→S'.kd k=S.kd k) (hok:S'.Ok R'):(∀ j,OwnW S' it nd pd pm pw tp j↔OwnW S it nd pd pm pw tp j)∧Wat R' k S' it nd I pd pm pw tp g:=by
 have hL:b0h S'=b0h S:=by
  unfold b0h
  rw [hN]
  exact List.filter_congr fun k hk=>by rw [hst k (List.mem_range.1 hk)]
 have hO:∀ j,OwnD S' it nd pd pm j↔OwnD S it nd pd pm j:=fun j=>by unfold OwnD;rw [hL]
 refine ⟨fun j=>by unfold OwnW;rw [hO],h.doc.congr hN hst hkd hok,h.wat,h.tape,fun e=>h.sepW ((hO _).1 e),fun q hq=>⟨(h.sepT q hq).1,fun e=>(h.sepT q hq).2 ((hO _).1 e)⟩⟩
namespace Tryz
theorem h0g (N:Nat) (hN:(N:Int)+1≤4294967296) (g:List AObj) (n:Nat) :
  ∃ it nd pd pm pw g',b0g T (n+4) 16 [.p (.int .i64 (((N+1:Nat):Int)))] g=some (WP pw,g')∧Wat 0 0 (docS (N+1)) it nd (fun _=>⟨none,none,none,none,none⟩) pd pm pw .nils g'∧GFr g (fun _=>False) g' (OwnW (docS (N+1)) it nd pd pm pw .nils):=by
 obtain ⟨it,nd,pd,pm,g1,h1,h2,h3⟩:=g3v N hN g (n+1)
 have hlt:∀ j,b2q (b0h (docS (N+1))) it nd pd pm j→j<g1.length:=fun j hj=>h2.own_lt hj
 have hgl:=h3.len
 refine ⟨it,nd,pd,pm,g1.length,g1++[.cells 2 [[DocP pd,.nils]]], ?_,⟨⟨h6z N,g8v N,h2.more _⟩,by simp,.none,fun e=>by have:=hlt _ e;omega,fun q hq=>by cases hq⟩,⟨by simp;omega,fun j hj hn => ?_,fun j hj hjl => ?_⟩⟩
 ·rw [b0a T16,b0e rfl rfl]
  generalize ((N+1:Nat):Int)=next at h1 ⊢
  simp -implicitDefEqProofs (disch:=omega) only [Rx,simprocAttr,F16,h1]
 ·rw [List.getElem?_append_left (by omega)];exact h3.keep j hj hn
 ·rcases hj with h | h | h
  ·exact h3.refs j h hjl
  ·omega
  ·cases h
end Tryz
end Go.TA


end
section
/- The rows of all below a node. Plain. -/
namespace Go.TA
def rowM (S:MS) (k up:Int):GRow:=⟨k,up,(S.st k.toNat).tag,(S.st k.toNat).key,(S.st k.toNat).text,(S.st k.toNat).attrs⟩
def b2l (S:MS):Nat→List GRow→Int→Int→List GRow
 | 0,out,_,_=>out
 | d+1,out,h,up=>(S.kd h.toNat).foldl (fun out k=>b2l S d (out++[rowM S k up]) k ((out.length:Int)+1)) out
def h9z (S:MS) (d:Nat) (up:Int) (out:List GRow) (k:Int):List GRow:=b2l S d (out++[rowM S k up]) k ((out.length:Int)+1)
def outI (S:MS) (d:Nat) (out:List GRow) (h:Nat) (up:Int) (i:Nat):List GRow:=((S.kd h).take i).foldl (h9z S d up) out
theorem c3b (S:MS) (d:Nat) (out:List GRow) (h:Nat) (up:Int):outI S d out h up 0=out:=rfl
theorem c3c {S:MS} {d:Nat} {out:List GRow} {h:Nat} {up:Int} {i:Nat} {k:Int} (hk:(S.kd h)[i]? = some k):outI S d out h up (i+1)=b2l S d (outI S d out h up i++[rowM S k up]) k (((outI S d out h up i).length:Int)+1):=by
 unfold outI
 rw [List.take_add_one,hk,List.foldl_append]
 rfl
theorem c6m (S:MS) (d:Nat) (out:List GRow) (h:Nat) (up:Int):outI S d out h up (S.kd h).length=b2l S (d+1) out (h:Int) up:=by
 unfold outI
 rw [List.take_length,b2l,Int.toNat_natCast]
 rfl
structure PreO (S:MS) (out:List GRow) (h:Nat):Prop where
 nodup:(out.map GRow.id).Nodup
 rng:∀ x ∈ out,∃ c:Nat,x.id=(c:Int)∧c<S.N
 away:∀ x ∈ out,∀ c:Nat,x.id=(c:Int)→c≠h→¬ Below S (h:Int) (c:Int)
structure c9u (S:MS) (out:List GRow) (h:Nat) (out':List GRow):Prop where
 nodup:(out'.map GRow.id).Nodup
 rng:∀ x ∈ out',∃ c:Nat,x.id=(c:Int)∧c<S.N
 more:∃ more,out'=out++more∧∀ x ∈ more,∃ c:Nat,x.id=(c:Int)∧c<S.N∧c≠h∧Below S (h:Int) (c:Int)
theorem c9u.len {S:MS} {out out':List GRow} {h:Nat} (p:c9u S out h out'):out'.length≤S.N:=by
 have:=c0e S.N (out'.map GRow.id) p.nodup (fun k hk=>by
  obtain ⟨x,hx,rfl⟩:=List.mem_map.1 hk
  exact p.rng x hx)
 rwa [List.length_map] at this
section
variable {R:Nat} {S:MS} (hS:S.Ok R)
include hS
theorem d0t {h c:Nat} (hc:c<S.N) (hu:(S.st c).up=(h:Int)):c≠h:=by
 obtain ⟨r,_,hr⟩:=hS.rank
 have:=hr c h hc hu
 intro e;subst e;omega
theorem d8m {out : List GRow} {h i : Nat} {out1 : List GRow} {c : Nat} (up : Int) (hh : h < S.N) (hp : PreO S out h) (h1 : c9u S out h out1) (hm : ∀ more, out1 = out ++ more → ∀ x ∈ more, ∃ j, j < i ∧ ∃ k, (S.kd h)[j]? = some k ∧ Below S k x.id) (hk : (S.kd h)[i]? = some (c : Int)) (hc : c < S.N) (hu : (S.st c).up = (h : Int)) : PreO S (out1 ++ [rowM S (c : Int) up]) c := by
  have hkm:=List.mem_of_getElem? hk
  obtain ⟨more,hmore,hmo⟩:=h1.more
  have hst:=d0t hS hc hu
  have hmm:=hm more hmore
  have hkb:∀ y:Int,Below S (c:Int) y→Below S (h:Int) y:=fun y hb=>b8m hS hh hkm hb
  have hap:∀ x ∈ more,¬ Below S (c:Int) x.id:=fun x hx hb=>by
    obtain ⟨j,hj,k,hk',hb'⟩:=hmm x hx
    have:=d0s hS hh hkm (List.mem_of_getElem? hk') hb hb'
    subst this
    have hjl:=(List.getElem?_eq_some_iff.1 hk').1
    have:=(List.getElem?_inj hjl (hS.nodup h hh)).1 (hk'.trans hk.symm)
    omega
  refine ⟨?_, ?_, ?_⟩
  · rw [List.map_append,List.nodup_append]
    refine ⟨h1.nodup,by simp,fun a ha b hb => ?_⟩
    simp only [List.map_cons,List.map_nil,List.mem_singleton,rowM] at hb
    subst hb
    obtain ⟨x,hx,rfl⟩:=List.mem_map.1 ha
    intro e
    rw [hmore] at hx
    rcases List.mem_append.1 hx with hx | hx
    · exact hp.away x hx c e hst (hkb _ .here)
    · exact hap x hx (by rw [e];exact .here)
  · intro x hx
    rcases List.mem_append.1 hx with hx | hx
    · exact h1.rng x hx
    · simp at hx;subst hx;exact ⟨c,rfl,hc⟩
  · intro x hx y hy hne hb
    rcases List.mem_append.1 hx with hx | hx
    · rw [hmore] at hx
      rcases List.mem_append.1 hx with hx | hx
      · refine hp.away x hx y hy (fun e => ?_) (hkb _ hb)
        subst e
        obtain ⟨r,_,hr⟩:=hS.rank
        have:=b8s hS hr hb y rfl hh
        have:=hr c y hc hu
        omega
      · exact hap x hx (by rw [hy];exact hb)
    · simp at hx
      subst hx
      simp only [rowM] at hy
      omega
theorem g6k {out : List GRow} {d h i : Nat} {up : Int} (hh : h < S.N) (hp : PreO S out h) (hi : i < (S.kd h).length)
    (ih:c9u S out h (outI S d out h up i)∧∀ more,outI S d out h up i=out++more→∀ x ∈ more,∃ j,j<i∧∃ k,(S.kd h)[j]? = some k∧Below S k x.id)
    (hb:∀ (out:List GRow) (c:Nat) (up:Int),c<S.N→PreO S out c→c9u S out c (b2l S d out (c:Int) up)) :
    c9u S out h (outI S d out h up (i+1))∧∀ more,outI S d out h up (i+1)=out++more→∀ x ∈ more,∃ j,j<i+1∧∃ k,(S.kd h)[j]? = some k∧Below S k x.id:=by
  obtain ⟨h1,h2⟩:=ih
  obtain ⟨k,hk⟩:∃ k,(S.kd h)[i]? = some k:=⟨_,List.getElem?_eq_getElem (by omega)⟩
  have hkm:=List.mem_of_getElem? hk
  obtain ⟨c,rfl,hc,_,hu⟩:=hS.kids h hh k hkm
  have hpre:=d8m hS up hh hp h1 h2 hk hc hu
  have hpost:=hb _ c (((outI S d out h up i).length:Int)+1) hc hpre
  rw [← c3c hk] at hpost
  obtain ⟨more1,e1,m1⟩:=h1.more
  obtain ⟨more2,e2,m2⟩:=hpost.more
  have e3:outI S d out h up (i+1)=out++(more1++[rowM S (c:Int) up]++more2):=by rw [e2,e1];simp
  have hstr:=d0t hS hc hu
  refine ⟨⟨hpost.nodup,hpost.rng,_,e3,fun x hx => ?_⟩,fun more hm x hx => ?_⟩
  · rcases List.mem_append.1 hx with hx | hx
    · rcases List.mem_append.1 hx with hx | hx
      · exact m1 x hx
      · simp at hx;subst hx
        exact ⟨c,rfl,hc,hstr,b8m hS hh hkm .here⟩
    · obtain ⟨y,hy,hyN,_,hyb⟩:=m2 x hx
      refine ⟨y,hy,hyN,fun e => ?_,b8m hS hh hkm hyb⟩
      subst e
      obtain ⟨r,_,hr⟩:=hS.rank
      have:=b8s hS hr hyb y rfl hh
      have:=hr c y hc hu
      omega
  · have:more=more1++[rowM S (c:Int) up]++more2:=by
      rw [e3] at hm
      exact (List.append_cancel_left hm).symm
    subst this
    rcases List.mem_append.1 hx with hx | hx
    · rcases List.mem_append.1 hx with hx | hx
      · obtain ⟨j,hj,r⟩:=h2 more1 e1 x hx
        exact ⟨j,by omega,r⟩
      · simp at hx;subst hx
        exact ⟨i,by omega,_,hk,.here⟩
    · obtain ⟨y,hy,_,_,hyb⟩:=m2 x hx
      exact ⟨i,by omega,_,hk,by rw [hy];exact hyb⟩
theorem d4o {out:List GRow} {d h:Nat} {up:Int} (hp:PreO S out h):c9u S out h (outI S d out h up 0)∧∀ more,outI S d out h up 0=out++more→∀ x ∈ more,∃ j,j<0∧∃ k,(S.kd h)[j]? = some k∧Below S k x.id:=by
 have _:=hS
 refine ⟨⟨hp.nodup,hp.rng,[],by simp [c3b],by simp⟩,fun more hm x hx => ?_⟩
 rw [c3b] at hm
 have:more=[]:=by simpa using hm
 subst this;simp at hx
theorem c5g:∀ (d:Nat) (out:List GRow) (h:Nat) (up:Int),h<S.N→PreO S out h→c9u S out h (b2l S d out (h:Int) up)
  | 0,out,h,up,hh,hp=>⟨hp.nodup,hp.rng,[],by simp [b2l],by simp⟩
  | d + 1, out, h, up, hh, hp => by
    rw [← c6m]
    have key:∀ i,i≤(S.kd h).length→c9u S out h (outI S d out h up i)∧∀ more,outI S d out h up i=out++more→∀ x ∈ more,∃ j,j<i∧∃ k,(S.kd h)[j]? = some k∧Below S k x.id:=by
      intro i
      induction i with
      | zero=>exact fun _=>d4o hS hp
      | succ i ih=>exact fun hi=>g6k hS hh hp (by omega) (ih (by omega)) (fun out c up hc hp=>c5g d out c up hc hp)
    exact (key _ (Nat.le_refl _)).1
theorem g0h {out:List GRow} {d h:Nat} {up:Int} (hh:h<S.N) (hp:PreO S out h):∀ i,i≤(S.kd h).length→c9u S out h (outI S d out h up i)∧∀ more,outI S d out h up i=out++more→∀ x ∈ more,∃ j,j<i∧∃ k,(S.kd h)[j]? = some k∧Below S k x.id:=by
 intro i
 induction i with
 | zero=>exact fun _=>d4o hS hp
 | succ i ih=>exact fun hi=>g6k hS hh hp (by omega) (ih (by omega)) (fun out c up hc hp=>c5g hS d out c up hc hp)
end
end Go.TA


end
section
/- A machine's rows, and its loose nodes. Plain. -/
namespace Go.TA
def b2n (S:MS) (R:Nat):List GRow:=b2l S (R+1) [] 0 0
theorem d7y {S:MS}:PreO S [] 0:=⟨by simp,by simp,by simp⟩
theorem g5w {R:Nat} {S:MS} (hS:S.Ok R) (R':Nat):(b2n S R').length≤S.N:=(c5g hS (R'+1) [] 0 0 hS.pos d7y).len
def j2p (S:MS):List Int:=((b0h S).filter fun h:Nat => !(h==0) && decide ((S.st h).up<0)).map fun h:Nat=>(h:Int)
end Go.TA


end
section
/- A document: its rows. -/
namespace Go.TA
namespace Tryz
def rdG (g:List AObj) (pd:Nat) (X:List (List PV)) (n:Nat):List AObj :=
 g++[.cells 1 [[DocP pd]],.pcells 6 X,.cells 1 [[.own true (g.length+1) n]],.cells 1 [[.func 82 [BP g.length,BP (g.length+2),BP (g.length+3)]]]]
section
variable (g:List AObj) (pd:Nat) (X:List (List PV)) (n:Nat)
theorem rdG0:(rdG g pd X n)[g.length]? = some (.cells 1 [[DocP pd]]):=by simp [rdG]
theorem rdG1:(rdG g pd X n)[g.length+1]? = some (.pcells 6 X):=by simp [rdG]
theorem rdG2:(rdG g pd X n)[g.length+2]? = some (.cells 1 [[.own true (g.length+1) n]]):=by simp [rdG]
theorem rdG3:(rdG g pd X n)[g.length+3]? = some (.cells 1 [[.func 82 [BP g.length,BP (g.length+2),BP (g.length+3)]]]):=by simp [rdG]
theorem rdS1 (Y:List (List PV)):(rdG g pd X n).set (g.length+1) (.pcells 6 Y)=rdG g pd Y n:=by simp [rdG,List.set_append]
theorem rdS2 (m:Nat):(rdG g pd X n).set (g.length+2) (.cells 1 [[.own true (g.length+1) m]])=rdG g pd X m:=by simp [rdG,List.set_append]
end
section
variable {R:Nat} {S:MS} {it nd:Nat→Nat} {I:Nat→LK} {pd pm:Nat} {g:List AObj}
theorem d4l (hS : S.Ok R) (hN : S.N ≤ 8589934592) (hI : b1n S I) (hD : b1o (b0h S) S.st S.N it nd I pd pm g) (hL : (b0h S).length ≤ 4194304) (m : Nat) (hm : (b0h S).length + 1 < m) (d h : Nat) (up : Int) (out : List GRow) (hh : h ∈ b0h S) (hp : PreO S out h) (hol : out.length ≤ S.N)
    (ih:∀ c:Nat,c ∈ b0h S→(S.st c).up=(h:Int)→∀ (out:List GRow) (up:Int),out.length≤S.N→PreO S out c→b0g T m 82 [IP it c,.p (.int .i64 up),BP g.length,BP (g.length+2),BP (g.length+3)] (rdG g pd (out.map GRow.pv) out.length)=some (.tuple [],rdG g pd ((b2l S d out (c:Int) up).map GRow.pv) (b2l S d out (c:Int) up).length)) :
    b0g T (m+1) 82 [IP it h,.p (.int .i64 up),BP g.length,BP (g.length+2),BP (g.length+3)] (rdG g pd (out.map GRow.pv) out.length)=some (.tuple [],rdG g pd ((b2l S (d+1) out (h:Int) up).map GRow.pv) (b2l S (d+1) out (h:Int) up).length):=by
  have hhN:=(b0j.1 hh).1
  have hDX:∀ X n,b1o (b0h S) S.st S.N it nd I pd pm (rdG g pd X n):=fun X n=>hD.more _
  have hl:=hI.kids h hh
  have hkd:(b0s S h).length=(S.kd h).length:=by simp [b0s]
  have hkl:=h4r hS hhN
  have hinv:=g0h hS (d:=d) (up:=up) hhN hp
  have hloop:b0r (b0g T m) m (.loop h0a) ⟨[(1,.p (.int .i64 up)),(2,BP g.length),(3,BP (g.length+2)),(4,BP (g.length+3)),(7,iAV it (b0s S h)[0]?)],[],rdG g pd (out.map GRow.pv) out.length⟩=some (.exit 0,⟨[],[],rdG g pd ((b2l S (d+1) out (h:Int) up).map GRow.pv) (b2l S (d+1) out (h:Int) up).length⟩):=by
    have key:=b2v (C:=b0g T m) (N:=m) (B:=h0a) (σ := Nat) (S:=fun i=>⟨[(1,.p (.int .i64 up)),(2,BP g.length),(3,BP (g.length+2)),(4,BP (g.length+3)),(7,iAV it (b0s S h)[i]?)],[],rdG g pd ((outI S d out h up i).map GRow.pv) (outI S d out h up i).length⟩)
      (I:=fun i=>i≤(S.kd h).length) (μ := fun i=>(S.kd h).length - i) (Q:=fun z=>z=(.exit 0,⟨[],[],rdG g pd ((b2l S (d+1) out (h:Int) up).map GRow.pv) (b2l S (d+1) out (h:Int) up).length⟩)) ?_ 0 (by omega) (by omega)
    · obtain ⟨z,hz,rfl⟩:=key
      rw [c3b] at hz
      exact hz
    intro i hi
    by_cases hil:i<(S.kd h).length
    · left
      obtain ⟨k,hk⟩:∃ k,(S.kd h)[i]? = some k:=⟨_,List.getElem?_eq_getElem hil⟩
      have hkm:=List.mem_of_getElem? hk
      obtain ⟨c,rfl,hc,hcl,hcu⟩:=hS.kids h hhN k hkm
      have hcL:c ∈ b0h S:=b0j.2 ⟨hc,hcl⟩
      have hkN:(b0s S h)[i]? = some c:=by simp [b0s,hk]
      obtain ⟨hpo,hpm⟩:=hinv i hi
      have hpre:=d8m hS up hhN hp hpo hpm hk hc hcu
      have hol1:=hpo.len
      have ho1:=c3c (S:=S) (d:=d) (out:=out) (up:=up) hk
      have hol2:(outI S d out h up i++[rowM S (c:Int) up]).length≤S.N:=by
        have:=c0e S.N _ hpre.nodup (fun k hk=>by
          obtain ⟨x,hx,rfl⟩:=List.mem_map.1 hk
          exact hpre.rng x hx)
        rwa [List.length_map] at this
      have ihc:=ih c hcL hcu _ (((outI S d out h up i).length:Int)+1) hol2 hpre
      rw [← ho1] at ihc
      refine ⟨i+1, ?_,by omega,by omega⟩
      have hnx:(I c).n=(b0s S h)[i+1]? := hl.next i c hkN
      have hne:=fun X n=>h1w (hDX X n) hcL (m - 1)
      have hma:=fun X n=>h2c (hDX X n) hcL (m - 1)
      have hcl:=b4j (S.st c).attrs (hS.attrs c hc) [] (m - 1)
      rw [show m - 1+1=m by omega] at hne hma hcl
      simp only [hnx] at hne
      have gd:=fun X n=>(hDX X n).doc
      have gm:=fun X n=>(hDX X n).map
      have gn:=fun X n=>(hDX X n).nodes c hcL
      simp only [b8k] at gn
      have hky:=b8l (b0h S) nd (c:Int)
      have hlk:mlk 1 (mapD (b0h S) nd) (.int .i64 (c:Int))=some (NP nd c):=by
        rw [d2l,if_pos ⟨by simpa using hcL,by omega⟩,Int.toNat_natCast]
      have r0:=fun X n=>rdG0 g pd X n
      have r1:=fun X n=>rdG1 g pd X n
      have r2:=fun X n=>rdG2 g pd X n
      have r3:=fun X n=>rdG3 g pd X n
      have s1:=fun X n Y=>rdS1 g pd X n Y
      have s2:=fun X n k=>rdS2 g pd X n k
      have os:(outI S d out h up i).map GRow.pv++[[.int .i64 (c:Int),.int .i64 up,.str (S.st c).tag,.str (S.st c).key,.str (S.st c).text,.list ((S.st c).attrs.map Attr.pv)]]=(outI S d out h up i++[rowM S (c:Int) up]).map GRow.pv:=by
        rw [List.map_append];rfl
      rw [hkN]
      generalize outI S d out h up i=o1 at hol1 hol2 ihc os ⊢
      generalize outI S d out h up (i+1)=o2 at ihc ⊢
      have ol1:(o1.map GRow.pv).length=o1.length:=by simp
      have ol2:(o1++[rowM S (c:Int) up]).length=o1.length+1:=by simp
      rw [ol2] at ihc
      have ol3:((o1++[rowM S (c:Int) up]).map GRow.pv).length=o1.length+1:=by simp
      generalize o1++[rowM S (c:Int) up]=o3 at os ihc ol3
      generalize (b0s S h)[i+1]? = z at hne ⊢
      simp -implicitDefEqProofs (disch:=omega) only [Rx,simprocAttr,h0a,iAVs,iAVe,hma,hne,hcl,gd,gm,gn,hky,hlk,r0,r1,r2,r3,s1,s2,os,ol1,ol3,ihc,b7z,PV.sameLL_self,Option.getD_some]
    · right
      obtain rfl:i=(S.kd h).length:=by omega
      refine ⟨_, ?_, ?_,rfl⟩
      · rw [c6m, ← hkd,List.getElem?_eq_none_iff.2 (Nat.le_refl _)]
        generalize b2l S (d+1) out (h:Int) up=o1
        simp -implicitDefEqProofs (disch:=omega) only [Rx,simprocAttr,h0a,iAVs]
      · simp
  have hfi:=fun X n=>g8d (hDX X n) hh (m - 1)
  rw [show m - 1+1=m by omega,hl.first] at hfi
  rw [b0a T82,b0e rfl rfl]
  generalize b2l S (d+1) out (h:Int) up=o2 at hloop ⊢
  generalize (b0s S h)[0]? = z at hfi hloop
  simp -implicitDefEqProofs (disch:=omega) only [Rx,simprocAttr,F82,hfi,hloop,iAVe]
theorem h1e (hS:S.Ok R) (hN:S.N≤8589934592) (hI:b1n S I) (hD:b1o (b0h S) S.st S.N it nd I pd pm g) (hL:(b0h S).length≤4194304) {r:Nat→Nat} (hr1:∀ c,c<S.N→r c≤R) (hr2:∀ c p:Nat,c<S.N→(S.st c).up=(p:Int)→r p<r c) (n:Nat) (hn:(b0h S).length+1<n) :
    ∀ (d h : Nat) (up : Int) (out : List GRow), h ∈ b0h S → R ≤ r h + d → out.length ≤ S.N → PreO S out h →
      b0g T (n+d+1) 82 [IP it h,.p (.int .i64 up),BP g.length,BP (g.length+2),BP (g.length+3)] (rdG g pd (out.map GRow.pv) out.length)=some (.tuple [],rdG g pd ((b2l S (d+1) out (h:Int) up).map GRow.pv) (b2l S (d+1) out (h:Int) up).length):=by
  intro d
  induction d with
  | zero =>
    intro h up out hh hR hol hp
    exact d4l hS hN hI hD hL n hn 0 h up out hh hp hol (fun c hc hcu=>by
      have:=hr1 c (b0j.1 hc).1
      have:=hr2 c h (b0j.1 hc).1 hcu
      omega)
  | succ d ih =>
    intro h up out hh hR hol hp
    exact d4l hS hN hI hD hL (n+d+1) (by omega) (d+1) h up out hh hp hol (fun c hc hcu out up hol hp=>by
      have:=hr2 c h (b0j.1 hc).1 hcu
      exact ih c up out hc (by omega) hol hp)
theorem d9d (hD:Doc R S it nd I pd pm g) (hN:S.N≤8589934592) (hL:(b0h S).length≤4194304) {n:Nat} (hn:(b0h S).length+1<n) :
  b0g T (n+R+2) 33 [DocP pd] g=some (.own true (g.length+1) (b2n S R).length,rdG g pd ((b2n S R).map GRow.pv) (b2n S R).length):=by
 obtain ⟨hS,hI,hA⟩:=hD
 obtain ⟨r,hr1,hr2⟩:=hS.rank
 have h0:(0:Nat) ∈ b0h S:=b0j.2 ⟨hS.pos,hS.top.1⟩
 have hr:=h1e hS hN hI hA hL hr1 hr2 n hn R 0 0 [] h0 (by omega) (by simp) d7y
 simp only [Int.natCast_zero,List.map_nil,List.length_nil] at hr
 have e1:g++[AObj.cells 1 [[DocP pd]]]++[AObj.pcells 6 []]++[AObj.cells 1 [[.own true (g.length+1) 0]]]++[AObj.cells 1 [[.func 82 [BP g.length,BP (g.length+2),BP (g.length+3)]]]]=rdG g pd [] 0:=by simp [rdG]
 have hDX:=hA.more [.cells 1 [[DocP pd]],.pcells 6 [],.cells 1 [[.own true (g.length+1) 0]],.cells 1 [[.func 82 [BP g.length,BP (g.length+2),BP (g.length+3)]]]]
 have hDX:b1o (b0h S) S.st S.N it nd I pd pm (rdG g pd [] 0):=hDX
 have gd:=hDX.doc
 have gm:=hDX.map
 have gn:=hDX.nodes 0 h0
 simp only [b8k] at gn
 have hky:=b8l (b0h S) nd 0
 have hlk:mlk 1 (mapD (b0h S) nd) (.int .i64 0)=some (NP nd 0):=by
  rw [d2l,if_pos ⟨by simpa using h0,by omega⟩];rfl
 have r0:=rdG0 g pd [] 0
 have r3:=rdG3 g pd [] 0
 rw [b0a T33,b0e rfl rfl]
 unfold b2n
 generalize b2l S (R+1) [] 0 0=o at hr ⊢
 have r2:=rdG2 g pd (o.map GRow.pv) o.length
 have q1:(g++[AObj.cells 1 [[DocP pd]],AObj.pcells 6 [],AObj.cells 1 [[.own true (g.length+1) 0]],AObj.pcells 1 [[.nilf]]])[g.length+3]? = some (.pcells 1 [[.nilf]]):=by simp
 have q0:(g++[AObj.cells 1 [[DocP pd]],AObj.pcells 6 [],AObj.cells 1 [[.own true (g.length+1) 0]]])[g.length]? = some (.cells 1 [[DocP pd]]):=by simp
 have q2:(g++[AObj.cells 1 [[DocP pd]],AObj.pcells 6 [],AObj.cells 1 [[.own true (g.length+1) 0]],AObj.pcells 1 [[.nilf]]]).set (g.length+3) (.cells 1 [[.func 82 [BP g.length,BP (g.length+2),BP (g.length+3)]]])=rdG g pd [] 0:=by simp [rdG,List.set_append]
 simp -implicitDefEqProofs (disch:=omega) only [Rx,simprocAttr,F33,q0,q1,q2,hr,gd,gm,gn,hky,hlk,r0,r2,r3,Option.getD_some,List.append_assoc,List.length_append]
end
end Tryz
end Go.TA


end
section
/- What is wrong with rows: the document's answer. -/
namespace Go.TA.Tryz
def c6x (x y:GRow):Bool:=(y.up==x.up) && (y.key==x.key)
def dupB (l:List GRow) (i:Nat) (x:GRow):Bool := !(x.key==[]) && (l.take i).any (c6x x)
def b3i (l:List GRow) (i:Nat) (x:GRow):Int:=if i=4096 then 12 else if 64<(b3n l (i+1)).length then 11 else if b1p x=0 then (if dupB l i x=true then 10 else 0) else b1p x
def b3a (l:List GRow):Nat→List GRow→Int
 | _,[]=>0
 | i,x::r=>if b3i l i x=0 then b3a l (i+1) r else b3i l i x
def b4f (l:List GRow):Int:=if b4c l=true then b3a l 0 l else 2
def c1r (l:List GRow) (i:Nat) (r:Bool):Ex × St:=if r=true then (.ret,⟨[(2,.p (.int .i64 10))],[],[]⟩) else (.exit 2,⟨[(0,.p (.list (l.map GRow.pv))),(10,.p (.int .i64 l.length)),(11,.p (.int .i64 i))],[],[]⟩)
theorem h3a {n N : Nat} (l : List GRow) (i : Nat) (x : GRow) (hx : l[i]? = some x) (hl : l.length ≤ 1048576) (hN : l.length < N) :
    b0r (b0g T n) N (.loop d7d) ⟨[(0,.p (.list (l.map GRow.pv))),(3,.p (.int .i64 i)),(10,.p (.int .i64 l.length)),(11,.p (.int .i64 i)),(46,.p (.int .i64 i)),(47,.p (.int .i64 ((0:Nat):Int)))],[],[]⟩=some (c1r l i (dupB l i x)):=by
  have hlt:i<l.length:=(List.getElem?_eq_some_iff.1 hx).1
  have hg:=b1l (f:=GRow.pv) hx
  have:=b1w (C:=b0g T n) (N:=N) (B:=d7d) (σ := Nat) (S:=fun k=>⟨[(0,.p (.list (l.map GRow.pv))),(3,.p (.int .i64 i)),(10,.p (.int .i64 l.length)),(11,.p (.int .i64 i)),(46,.p (.int .i64 i)),(47,.p (.int .i64 k))],[],[]⟩) (I:=fun k=>k≤i) (μ := fun k=>i - k)
    (Φ := fun k=>c1r l i (!(x.key==[]) && ((l.take i).drop k).any (c6x x))) ?_ 0 (by omega) (by omega)
  · simpa [dupB] using this
  intro k hk
  by_cases h:k<i
  · have k1 : (k : Int) < (i : Int) := by omega
    have k2:(i:Int)<(l.length:Int):=by omega
    have k3:(k:Int)<(l.length:Int):=by omega
    obtain ⟨y,hy⟩:=b0t (show k<l.length by omega)
    have hgy:=b1l (f:=GRow.pv) hy
    have hd:(l.take i).drop k=y::(l.take i).drop (k+1):=by
      rw [List.drop_eq_getElem?_toList_append,List.getElem?_take,if_pos h,hy];rfl
    have next:(!(x.key==[]) && c6x x y)=false→c1r l i (!(x.key==[]) && ((l.take i).drop k).any (c6x x))=c1r l i (!(x.key==[]) && ((l.take i).drop (k+1)).any (c6x x)):=fun h=>by
      rw [hd,List.any_cons,Bool.and_or_distrib_left,h,Bool.false_or]
    cases hk0:(x.key==[]) with
    | true =>
      refine .inl ⟨k+1, ?_,by omega,by omega,by rw [hk0] at next;exact next rfl⟩
      simp -implicitDefEqProofs (disch:=omega) only [Rx,simprocAttr,d7d,k1,k2,hg,GRow.pv,hk0]
    | false =>
      cases hu:(y.up==x.up) with
      | false =>
        refine .inl ⟨k+1, ?_,by omega,by omega,by rw [hk0] at next;exact next (by simp [c6x,hu])⟩
        simp -implicitDefEqProofs (disch:=omega) only [Rx,simprocAttr,d7d,k1,k2,k3,hg,hgy,GRow.pv,hk0,hu]
      | true =>
        cases hke:(y.key==x.key) with
        | false =>
          refine .inl ⟨k+1, ?_,by omega,by omega,by rw [hk0] at next;exact next (by simp [c6x,hke])⟩
          simp -implicitDefEqProofs (disch:=omega) only [Rx,simprocAttr,d7d,k1,k2,k3,hg,hgy,GRow.pv,hk0,hu,hke]
        | true =>
          have e:c1r l i (!false && ((l.take i).drop k).any (c6x x))=(.ret,⟨[(2,.p (.int .i64 10))],[],[]⟩):=by
            rw [hd,List.any_cons];simp [c6x,hu,hke,c1r]
          refine .inr ?_
          rw [e]
          refine ⟨?_,by simp⟩
          simp -implicitDefEqProofs (disch:=omega) only [Rx,simprocAttr,d7d,k1,k2,k3,hg,hgy,GRow.pv,hk0,hu,hke]
  · have k1:¬ (k:Int)<(i:Int):=by omega
    have e:(l.take i).drop k=[]:=List.drop_eq_nil_of_le (by rw [List.length_take];omega)
    refine .inr ?_
    rw [e,List.any_nil,Bool.and_false]
    have e2:c1r l i false=(.exit 2,⟨[(0,.p (.list (l.map GRow.pv))),(10,.p (.int .i64 l.length)),(11,.p (.int .i64 i))],[],[]⟩):=by simp [c1r]
    rw [e2]
    refine ⟨?_,by simp⟩
    simp -implicitDefEqProofs (disch:=omega) only [Rx,simprocAttr,d7d,k1]
def c5v (r:Int):Ex × St:=if r=0 then (.exit 0,⟨[],[],[]⟩) else (.ret,⟨[(2,.p (.int .i64 r))],[],[]⟩)
theorem h2w {n N m:Nat} (l:List GRow) (hl:Rows.mid m l) (hm:m≤1048577) (hs:b1k l l.length) (hN:m≤N) (hn:1048577≤n) :
    b0r (b0g T (n+37)) N (.loop d3u) ⟨[(0,.p (.list (l.map GRow.pv))),(10,.p (.int .i64 l.length)),(11,.p (.int .i64 ((0:Nat):Int)))],[],[]⟩=some (c5v (b3a l 0 l)):=by
  have hlen:=hl.len
  have:=b1w (C:=b0g T (n+37)) (N:=N) (B:=d3u) (σ := Nat) (S:=fun i=>⟨[(0,.p (.list (l.map GRow.pv))),(10,.p (.int .i64 l.length)),(11,.p (.int .i64 i))],[],[]⟩) (I:=fun i=>i≤l.length∧i≤4096) (μ := fun i=>l.length - i)
    (Φ := fun i=>c5v (b3a l i (l.drop i))) ?_ 0 ⟨by omega,by omega⟩ (by omega)
  · simpa using this
  rintro i ⟨hi,hi4⟩
  by_cases h:i<l.length
  · have k1:(i:Int)<(l.length:Int):=by omega
    obtain ⟨x,hx⟩:=b0t h
    have hg:=b1l (f:=GRow.pv) hx
    have hsm:=hl.row x (List.mem_of_getElem? hx)
    have hd:l.drop i=x::l.drop (i+1):=by rw [List.drop_eq_getElem?_toList_append,hx];rfl
    rw [hd]
    have bad:∀ e:Int,b3i l i x=e→e≠0→c5v (b3a l i (x::l.drop (i+1)))=(.ret,⟨[(2,.p (.int .i64 e))],[],[]⟩):=fun e h1 h2=>by
      simp only [b3a,h1,if_neg h2,c5v]
    by_cases h4:i=4096
    · refine .inr ?_
      rw [bad 12 (by simp [b3i,h4]) (by decide)]
      refine ⟨?_,by simp⟩
      have k2:((i:Int)==4096)=true:=by simp;omega
      simp -implicitDefEqProofs (disch:=omega) only [Rx,simprocAttr,d3u,k1,k2]
    have k2:((i:Int)==4096)=false:=by simp;omega
    have hdep:=g8w (n:=n+36) l (i+1) (hs.mono (by omega)) (by omega) (by omega) [] (by omega)
    simp only [Int.natCast_add,Int.natCast_one] at hdep
    by_cases h64:64<(b3n l (i+1)).length
    · refine .inr ?_
      rw [bad 11 (by simp [b3i,h4,h64]) (by decide)]
      refine ⟨?_,by simp⟩
      have k3:(64:Int)<((b3n l (i+1)).length:Int):=by omega
      simp -implicitDefEqProofs (disch:=omega) only [Rx,simprocAttr,d3u,k1,k2,hdep,k3]
    have k3:¬ (64:Int)<((b3n l (i+1)).length:Int):=by omega
    have hal:=g9r (n:=n) x [] hsm.small [] (by have:=hsm.attrs;omega) (by omega)
    simp only [b0w] at hal
    by_cases ha:b1p x=0
    rotate_left
    · refine .inr ?_
      rw [bad (b1p x) (by simp [b3i,h4,h64,ha]) ha]
      refine ⟨?_,by simp⟩
      have ha':(b1p x==0)=false:=by simpa using ha
      simp -implicitDefEqProofs (disch:=omega) only [Rx,simprocAttr,d3u,k1,k2,hdep,k3,hg,GRow.pv,b0b,hal,ha']
    have hdl:=h3a (n:=n+37) (N:=N) l i x hx (by omega) (by omega)
    simp only [Int.natCast_zero] at hdl
    rw [ha] at hal
    cases hdup:dupB l i x with
    | true =>
      refine .inr ?_
      rw [bad 10 (by simp [b3i,h4,h64,ha,hdup]) (by decide)]
      refine ⟨?_,by simp⟩
      rw [hdup] at hdl
      simp only [c1r,if_true] at hdl
      simp -implicitDefEqProofs (disch:=omega) only [Rx,simprocAttr,d3u,k1,k2,hdep,k3,hg,GRow.pv,b0b,hal,hdl]
    | false =>
      have e:b3i l i x=0:=by simp [b3i,h4,h64,ha,hdup]
      refine .inl ⟨i+1, ?_,⟨by omega,by omega⟩,by omega,by simp only [b3a,e,if_true]⟩
      rw [hdup] at hdl
      simp only [c1r,Bool.false_eq_true,if_false] at hdl
      simp -implicitDefEqProofs (disch:=omega) only [Rx,simprocAttr,d3u,k1,k2,hdep,k3,hg,GRow.pv,b0b,hal,hdl]
  · have k1:¬ (i:Int)<(l.length:Int):=by omega
    have e:l.drop i=[]:=List.drop_eq_nil_of_le (by omega)
    refine .inr ⟨?_,by rw [e];simp [b3a,c5v]⟩
    rw [e]
    simp -implicitDefEqProofs (disch:=omega) only [Rx,simprocAttr,d3u,k1,b3a,c5v]
theorem d9g (l:List GRow) {m n:Nat} (hl:Rows.mid m l) (hm:m≤1048577) (hn:1048577≤n) (g:List AObj):b0g T (n+38) 13 [.p (.list (l.map GRow.pv))] g=some (.p (.int .i64 (b4f l)),g):=by
  rw [b0a T13,run_pure rfl rfl rfl]
  have hlen:=hl.len
  have hf:=g3c (n:=n+35) l (by omega) [] (by omega)
  cases hb:b4c l with
  | false =>
    rw [hb] at hf
    have e:b4f l=2:=by simp [b4f,hb]
    rw [e]
    simp -implicitDefEqProofs (disch:=omega) only [Rx,simprocAttr,F13,hf]
  | true =>
    rw [hb] at hf
    have hloop:=h2w (n:=n) (N:=n+37) (m:=m) l hl hm (b9h hb) (by omega) hn
    simp only [Int.natCast_zero] at hloop
    have e:b4f l=b3a l 0 l:=by simp [b4f,hb]
    rw [e]
    by_cases h0:b3a l 0 l=0
    · rw [h0] at hloop ⊢
      simp only [c5v,if_true] at hloop
      simp -implicitDefEqProofs (disch:=omega) only [Rx,simprocAttr,F13,hf,hloop]
    · simp only [c5v,if_neg h0] at hloop
      simp -implicitDefEqProofs (disch:=omega) only [Rx,simprocAttr,F13,hf,hloop]
theorem d9f (l:List GRow) {m n:Nat} (hl:Rows.small m l) (hm:m≤1048577) (hn:1048577≤n) (g:List AObj):b0g T (n+38) 13 [.p (.list (l.map GRow.pv))] g=some (.p (.int .i64 (b4f l)),g):=d9g l hl.mid hm hn g
end Go.TA.Tryz


end
section
/- The program's look at the tree of rows that are right. -/
namespace Go.TA.Tryz
def g9t (l:List GRow):Prop:=∀ (i:Nat) x,l[i]? = some x→b3i l i x=0
theorem g3j {l:List GRow}:∀ {i:Nat},b3a l i (l.drop i)=0→∀ (j:Nat) x,i≤j→l[j]? = some x→b3i l j x=0:=by
  intro i h j x hij hj
  obtain ⟨d,rfl⟩:∃ d,j=i+d:=⟨j - i,by omega⟩
  induction d generalizing i with
  | zero =>
    have e:l.drop i=x::l.drop (i+1):=by rw [List.drop_eq_getElem?_toList_append];simp at hj;rw [hj];rfl
    rw [e] at h
    simp only [b3a] at h
    by_cases h0:b3i l i x=0
    · simpa using h0
    · rw [if_neg h0] at h;exact absurd h h0
  | succ d ih =>
    have hlt:i<l.length:=by
      have:=(List.getElem?_eq_some_iff.1 hj).1
      omega
    obtain ⟨y,hy⟩:=b0t hlt
    have e:l.drop i=y::l.drop (i+1):=by rw [List.drop_eq_getElem?_toList_append,hy];rfl
    rw [e] at h
    simp only [b3a] at h
    have h0:b3i l i y=0:=by
      by_cases h0:b3i l i y=0
      · exact h0
      · rw [if_neg h0] at h;exact absurd h h0
    rw [if_pos h0] at h
    have:=ih h (by omega) (by rw [← hj];congr 1;omega)
    rw [show i+(d+1)=i+1+d by omega]
    exact this
theorem d1c {l:List GRow} (h:b4f l=0):b4c l=true∧g9t l:=by
 unfold b4f at h
 split at h
 ·rename_i hf
  exact ⟨hf,fun i x hx=>g3j (i:=0) (by simpa using h) i x (by omega) hx⟩
 ·omega
theorem g5z {l : List GRow} {i : Nat} {x : GRow} (h : b3i l i x = 0) : i ≠ 4096 ∧ (b3n l (i + 1)).length ≤ 64 ∧ b1p x = 0 ∧ dupB l i x = false := by
  unfold b3i at h
  split at h
  · omega
  · rename_i h1
    split at h
    · omega
    · rename_i h2
      split at h
      · rename_i h3
        split at h
        · omega
        · rename_i h4
          exact ⟨h1,by omega,h3,by simpa using h4⟩
      · rename_i h3
        exact absurd h h3
def KOk (l:List GRow) (u:Int) (b:Nat) (es:List (PV × AV)):Prop:=∀ e ∈ es,∃ k:Bs,e.1 = .str k∧k≠[]∧∃ (j:Nat) (y:GRow),j<b∧l[j]? = some y∧y.up=u∧y.key=k
theorem KOk.mono {l:List GRow} {u:Int} {b b':Nat} {es:List (PV × AV)} (h:KOk l u b es) (hb:b≤b'):KOk l u b' es:=fun e he=>by
 obtain ⟨k,h1,h2,j,y,h3,h4⟩:=h e he
 exact ⟨k,h1,h2,j,y,by omega,h4⟩
theorem KOk.strs {l:List GRow} {u:Int} {b:Nat} {es:List (PV × AV)} (h:KOk l u b es) (k:Bs):(es.all fun e=>(b0q 2 e.1 (.str k)).isSome)=true:=by
 rw [List.all_eq_true]
 intro e he
 obtain ⟨k',h1,_⟩:=h e he
 rw [h1];rfl
theorem KOk.none {l:List GRow} {x:GRow} {b:Nat} {es:List (PV × AV)} (h:KOk l x.up b es) (hd:dupB l b x=false):mlk 2 es (.str x.key)=none:=by
  have key:∀ e ∈ es,b0q 2 e.1 (.str x.key)≠some true:=by
    intro e he hc
    obtain ⟨k,h1,h2,j,y,h3,h4,h5,h6⟩:=h e he
    rw [h1] at hc
    have hk:k=x.key:=by simpa [b0q] using hc
    have:dupB l b x=true:=by
      simp only [dupB,Bool.and_eq_true,Bool.not_eq_true',List.any_eq_true]
      refine ⟨by rw [← hk];simpa using h2,y, ?_,by simp [c6x,h5,h6,hk]⟩
      rw [List.mem_iff_getElem?]
      exact ⟨j,by rw [List.getElem?_take,if_pos h3];exact h4⟩
    rw [this] at hd
    cases hd
  induction es with
  | nil=>rfl
  | cons e es ih =>
    obtain ⟨a,v⟩:=e
    simp only [mlk]
    rw [if_neg (key (a,v) (by simp))]
    exact ih (fun e he=>h e (by simp [he])) (fun e he=>key e (by simp [he]))
theorem d4z {es:List (PV × AV)} {k:PV} {v:AV} (h:mlk 2 es k=none):mput 2 es k v=es++[(k,v)]:=by
  induction es with
  | nil=>rfl
  | cons e es ih =>
    obtain ⟨a,w⟩:=e
    simp only [mlk,mput] at h ⊢
    by_cases hc:b0q 2 a k=some true
    · rw [if_pos hc] at h;cases h
    · rw [if_neg hc] at h
      rw [if_neg hc,ih h];rfl
theorem KOk.more {l:List GRow} {x:GRow} {b:Nat} {es:List (PV × AV)} (h:KOk l x.up b es) (hx:l[b]? = some x) (hk:x.key≠[]) (v:AV):KOk l x.up (b+1) (es++[(.str x.key,v)]):=by
 intro e he
 rcases List.mem_append.1 he with he | he
 ·exact (h.mono (by omega)) e he
 ·simp only [List.mem_singleton] at he
  subst he
  exact ⟨x.key,rfl,hk,b,x,by omega,hx,rfl,rfl⟩
def LKV (m:Nat) (deep:Int):AObj:=.pcells 3 [[.int .i64 m,.int .i64 deep,.int .i64 0]]
def VK:AObj:=.cells 1 [[.func 215 [.ptr true 0 3 1 0 0,.ptr true 1 1 1 0 0]]]
def pL:AV:=.ptr true 0 3 1 0 0
def pV:AV:=.ptr true 1 1 1 0 0
def Seen (l:List GRow) (u:Int) (b:Nat) (j:Nat) (ms:List AObj) (r:AV × List AObj):Prop :=
 ∃ deep ms' es,r=(.p (.bool true),LKV b deep::VK::ms')∧ms.length≤ms'.length∧ms'[j]? = some (.map es)∧KOk l u b es∧∀ j',j'<ms.length→j'≠j→ms'[j']? = ms[j']?
def visS (d:Int) (ks:List (List PV)) (jb i m:Nat) (deep:Int) (ms:List AObj):St:=⟨[(1,.p (.int .i64 d)),(4,.ptr true 1 1 1 0 0),(11,.map true (jb+1+1)),(61,.p (.list ks)),(62,.p (.int .i64 ks.length)),(63,.p (.int .i64 i))],[],LKV m deep::VK::ms⟩
end Go.TA.Tryz


end
section
/- The program's look at the tree of any rows that stand as a tree's do: what is wrong first. -/
namespace Go.TA.Tryz
theorem c4b {l:List GRow} (hs:b1k l l.length):∀ (d x:Nat),x≤d→x≤l.length→(b3n l x).length≤x
  | 0, x, h, _ => by
    obtain rfl:x=0:=by omega
    simp [b4k]
  | d + 1, x, h, hx => by
    cases x with
    | zero=>simp [b4k]
    | succ x =>
      have hlt:x<l.length:=by omega
      have hu:=b5q hs hlt hlt
      rw [b3k hs (Nat.le_refl _) hlt,List.length_cons]
      have:=c4b hs d (upAt l (x+1)) (by omega) (by omega)
      omega
def errR (l:List GRow) (a b:Nat):Int:=b3a l a ((l.take b).drop a)
theorem d5w (l:List GRow) (a:Nat):errR l a a=0:=by
 have:(l.take a).drop a=[]:=List.drop_eq_nil_of_le (by rw [List.length_take];omega)
 rw [errR,this];rfl
theorem b8p {l:List GRow} {a b:Nat} {x:GRow} (hx:l[a]? = some x) (hab:a<b):errR l a b=if b3i l a x=0 then errR l (a+1) b else b3i l a x:=by
 have h1:(l.take b)[a]? = some x:=by rw [List.getElem?_take,if_pos hab];exact hx
 have:(l.take b).drop a=x::(l.take b).drop (a+1):=by rw [List.drop_eq_getElem?_toList_append,h1];rfl
 rw [errR,this];rfl
theorem b8o {l:List GRow}:∀ (d:Nat) {a m b:Nat},m=a+d→m≤b→b≤l.length→errR l a b=if errR l a m=0 then errR l m b else errR l a m
  | 0, a, m, b, hm, hb, hl => by
    obtain rfl:m=a:=by omega
    rw [d5w,if_pos rfl]
  | d + 1, a, m, b, hm, hb, hl => by
    obtain ⟨x,hx⟩:=b0t (show a<l.length by omega)
    rw [b8p hx (show a<b by omega),b8p hx (show a<m by omega)]
    by_cases h:b3i l a x=0
    · rw [if_pos h,if_pos h]
      exact b8o d (by omega) hb hl
    · rw [if_neg h,if_neg h,if_neg h]
theorem g1b {l:List GRow}:errR l 0 l.length=b3a l 0 l:=by rw [errR,List.take_length,List.drop_zero]
mutual
theorem BT.inner {l:List GRow} {a b:Nat} {p:List PV}:BT l a b p→∀ (j:Nat) y,a<j→j<b→l[j]? = some y→(a:Int)+1≤y.up
 | .mk hx h=>BTs.inner h (List.getElem?_eq_some_iff.1 hx).1
theorem BTs.inner {l : List GRow} {a b : Nat} {ks : List (List PV)} : BTs l a b ks → a < l.length → ∀ (j : Nat) y, a < j → j < b → l[j]? = some y → (a : Int) + 1 ≤ y.up
  | .nil,ha=>fun j y h1 h2=>by omega
  | .snoc (m := m) h hy hu h2, ha => fun j y h1 h3 hj => by
    have hm:=(BTs.lt h ha).1
    by_cases e:j<m
    · exact BTs.inner h ha j y h1 e hj
    · by_cases e2:j=m
      · subst e2
        rw [hy] at hj
        cases hj
        omega
      · have:=BT.inner h2 j y (by omega) h3 hj
        omega
end
structure KAll (l:List GRow) (u:Int) (b:Nat) (es:List (PV × AV)):Prop where
 ok:KOk l u b es
 vals:∀ e ∈ es,e.2 = .p (.agg [])
 all:∀ (j:Nat) (y:GRow),j<b→l[j]? = some y→y.up=u→y.key≠[]→∃ v,(PV.str y.key,v) ∈ es
theorem KAll.get {l:List GRow} {u:Int} {b:Nat} {es:List (PV × AV)} (h:KAll l u b es) (k:PV):(mlk 2 es k).getD (.p (.agg [])) = .p (.agg []):=by
  have hv:=h.vals
  clear h
  induction es with
  | nil=>rfl
  | cons e es ih =>
    obtain ⟨a,v⟩:=e
    simp only [mlk]
    split
    · simpa using hv (a,v) (by simp)
    · exact ih (fun e he=>hv e (by simp [he]))
theorem h6d {es : List (PV × AV)} {k : Bs} {v : AV} (hs : ∀ e ∈ es, ∃ s, e.1 = PV.str s) (h : (PV.str k, v) ∈ es) : (mlk 2 es (.str k)).isSome = true := by
  induction es with
  | nil=>simp at h
  | cons e es ih =>
    obtain ⟨a,w⟩:=e
    simp only [mlk]
    split
    · rfl
    · rename_i hne
      rcases List.mem_cons.1 h with h1 | h1
      · cases h1
        exact absurd (by simp [b0q]) hne
      · exact ih (fun e he=>hs e (by simp [he])) h1
theorem KAll.dup {l:List GRow} {x:GRow} {b:Nat} {es:List (PV × AV)} (h:KAll l x.up b es) (hd:dupB l b x=true):(mlk 2 es (.str x.key)).isSome=true:=by
 simp only [dupB,Bool.and_eq_true,Bool.not_eq_true',List.any_eq_true] at hd
 obtain ⟨hk,y,hy,ht⟩:=hd
 simp only [c6x,Bool.and_eq_true,beq_iff_eq] at ht
 obtain ⟨j,hj⟩:=List.mem_iff_getElem?.1 hy
 rw [List.getElem?_take] at hj
 split at hj
 ·rename_i hjb
  obtain ⟨v,hv⟩:=h.all j y hjb hj ht.1 (by rw [ht.2];simpa using hk)
  rw [ht.2] at hv
  exact h6d (fun e he=>by obtain ⟨k,h1,_⟩:=h.ok e he;exact ⟨k,h1⟩) hv
 ·cases hj
theorem KAll.same {l:List GRow} {u:Int} {b b':Nat} {es:List (PV × AV)} (h:KAll l u b es) (hb:b≤b') (hn:∀ (j:Nat) (y:GRow),b≤j→j<b'→l[j]? = some y→y.up≠u):KAll l u b' es where
 ok:=h.ok.mono hb
 vals:=h.vals
 all j y hj hy hu hk:=by
  by_cases e:j<b
  ·exact h.all j y e hy hu hk
  ·exact absurd hu (hn j y (by omega) hj hy)
theorem KAll.met {l : List GRow} {x : GRow} {b : Nat} {es : List (PV × AV)} (h : KAll l x.up b es) (hx : l[b]? = some x) : KAll l x.up (b + 1) (if x.key = [] then es else es ++ [(.str x.key, .p (.agg []))]) := by
  split
  · rename_i hk
    refine ⟨h.ok.mono (by omega),h.vals,fun j y hj hy hu hk2 => ?_⟩
    by_cases e:j<b
    · exact h.all j y e hy hu hk2
    · obtain rfl:j=b:=by omega
      rw [hx] at hy
      cases hy
      exact absurd hk hk2
  · rename_i hk
    refine ⟨h.ok.more hx hk _,fun e he => ?_,fun j y hj hy hu hk2 => ?_⟩
    · rcases List.mem_append.1 he with h1 | h1
      · exact h.vals e h1
      · simp only [List.mem_singleton] at h1
        subst h1;rfl
    · by_cases e:j<b
      · obtain ⟨v,hv⟩:=h.all j y e hy hu hk2
        exact ⟨v,List.mem_append.2 (.inl hv)⟩
      · obtain rfl:j=b:=by omega
        rw [hx] at hy
        cases hy
        exact ⟨.p (.agg []),List.mem_append.2 (.inr (by simp))⟩
def LKE (m deep e:Int):AObj:=.pcells 3 [[.int .i64 m,.int .i64 deep,.int .i64 e]]
def h4b (l:List GRow) (u:Int) (a b:Nat) (j:Nat) (ms:List AObj) (r:AV × List AObj):Prop :=
 (errR l a b=0∧∃ deep ms' es,r=(.p (.bool true),LKV b deep::VK::ms')∧ms.length≤ms'.length∧ms'[j]? = some (.map es)∧KAll l u b es∧∀ j',j'<ms.length→j'≠j→ms'[j']? = ms[j']?)
 ∨ (errR l a b≠0∧∃ m deep ms',r=(.p (.bool false),LKE m deep (errR l a b)::VK::ms'))
theorem g4y {n N:Nat} (l:List GRow) (a b:Nat) (d:Int) (ks:List (List PV)) (hbt:BTs l a b ks) (hl:l.length≤1048576) (hs:b1k l l.length) (ha:a<l.length) (hd : -1000000≤d∧d≤1000000) (hN:ks.length<N) (ms0:List AObj) (deep0:Int)
    (ih:∀ m m' k es j deep ms,BT l m m' k→(∃ y,l[m]? = some y∧y.up=(a:Int)+1)→a<m→m'≤b→ms[j]? = some (.map es)→KAll l ((a:Int)+1) m es →
      ∃ r,b0g T n 215 [.p (.agg k),.p (.int .i64 (d+1)),.map true (j+1+1),pL,pV] (LKV m deep::VK::ms)=some r∧h4b l ((a:Int)+1) m m' j ms r) :
    ∃ r, b0r (b0g T n) N (.loop d6w) (visS d ks ms0.length 0 (a + 1) deep0 (ms0 ++ [.map []])) = some r ∧ ((errR l (a + 1) b = 0 ∧ ∃ deep ms', r = (.exit 1, ⟨[], [], LKV b deep :: VK :: ms'⟩) ∧ ms0.length ≤ ms'.length ∧ ∀ j', j' < ms0.length → ms'[j']? = ms0[j']?)
      ∨ (errR l (a+1) b≠0∧∃ m deep ms',r=(.ret,⟨[(8,.p (.bool false))],[],LKE m deep (errR l (a+1) b)::VK::ms'⟩))):=by
  have hbl:=hbt.lt ha
  refine b2v (σ := Nat × Nat × Int × List AObj) (S:=fun s=>visS d ks ms0.length s.1 s.2.1 s.2.2.1 s.2.2.2)
    (I:=fun s=>s.1≤ks.length∧BTs l a s.2.1 (ks.take s.1)∧ms0.length<s.2.2.2.length∧(∀ j',j'<ms0.length→s.2.2.2[j']? = ms0[j']?)∧errR l (a+1) s.2.1=0∧∃ es,s.2.2.2[ms0.length]? = some (.map es)∧KAll l ((a:Int)+1) s.2.1 es) (μ := fun s=>ks.length - s.1)
    (Q:=fun r=>(errR l (a+1) b=0∧∃ deep ms',r=(.exit 1,⟨[],[],LKV b deep::VK::ms'⟩)∧ms0.length≤ms'.length∧∀ j',j'<ms0.length→ms'[j']? = ms0[j']?)
      ∨ (errR l (a+1) b≠0∧∃ m deep ms',r=(.ret,⟨[(8,.p (.bool false))],[],LKE m deep (errR l (a+1) b)::VK::ms'⟩))) ?_ (0,a+1,deep0,ms0++[.map []]) ⟨by omega,by simpa using BTs.nil,by simp,fun j' hj=>by simp [List.getElem?_append_left hj],d5w l (a+1),[],by simp,⟨fun e he=>by simp at he,fun e he=>by simp at he,fun j y hj hy hu _=>by
      have:=hs j y (List.getElem?_eq_some_iff.1 hy).1 hy
      have hj:j<a+1:=hj
      omega⟩⟩ (by simp only;omega)
  rintro ⟨i,m,deep,ms⟩ ⟨h1,h2,h3,h4,h7,es,h5,h6⟩
  simp only at h1 h2 h3 h4 h5 h6 h7 ⊢
  by_cases hi:i<ks.length
  · obtain ⟨k,hk⟩:=b0t hi
    obtain ⟨q,q',y,p1,p2,p3,p4,p5,hle⟩:=hbt.at i k hk
    have hq:q=m:=p1.uniq h2 rfl
    subst hq
    have hlt:=(BTs.lt h2 ha)
    have hlt4:=p4.lt
    obtain ⟨r,hr,hse⟩:=ih q q' k es ms0.length deep ms p4 ⟨y,p2,p3⟩ (by omega) hle h5 h6
    have hg:ks.getD i []=k:=by rw [List.getD_eq_getElem?_getD,hk];rfl
    have hkl:=p4.len
    obtain ⟨c1,c2,c3,c4,c5,rfl⟩:∃ c1 c2 c3 c4 c5,k=[c1,c2,c3,c4,c5]:=by
      match k,hkl with
      | [c1,c2,c3,c4,c5],_=>exact ⟨c1,c2,c3,c4,c5,rfl⟩
    have k1:(i:Int)<(ks.length:Int):=by omega
    have k9:(i:Int)≤1048576:=by omega
    have hsp:=b8o (l:=l) (q' - (a+1)) (a:=a+1) (m:=q') (b:=b) (by omega) hle (by omega)
    have hsq:=b8o (l:=l) (q - (a+1)) (a:=a+1) (m:=q) (b:=q') (by omega) (by omega) (by omega)
    rw [h7,if_pos rfl] at hsq
    rcases hse with ⟨he0,deep',ms',es',rfl,s1,s2,s3,s4⟩ | ⟨he0,m',deep',ms',rfl⟩
    · left
      refine ⟨(i+1,q',deep',ms'), ?_,⟨by omega,p5,by simp only;omega,fun j' hj=>by simp only;rw [s4 j' (by omega) (by omega)];exact h4 j' hj,by simp only;rw [hsq];exact he0,es',s2,s3⟩,by simp only;omega⟩
      simp only [LKV,VK,pL,pV] at hr
      simp only [visS,LKV,VK]
      simp -implicitDefEqProofs (disch:=omega) only [Rx,simprocAttr,d6w,k1,hg,hr]
    · right
      have hne:errR l (a+1) q'≠0:=by rw [hsq];exact he0
      have hb:errR l (a+1) b=errR l q q':=by rw [hsp,if_neg hne,hsq]
      refine ⟨(.ret,⟨[(8,.p (.bool false))],[],LKE m' deep' (errR l q q')::VK::ms'⟩), ?_,by simp,.inr ⟨by rw [hb];exact he0,m',deep',ms',by rw [hb]⟩⟩
      generalize errR l q q'=e at hr
      simp only [LKV,LKE,VK,pL,pV] at hr ⊢
      simp only [visS,LKV,VK]
      simp -implicitDefEqProofs (disch:=omega) only [Rx,simprocAttr,d6w,k1,hg,hr]
  · right
    obtain rfl:i=ks.length:=by omega
    rw [List.take_length] at h2
    have hm:m=b:=h2.uniq hbt rfl
    subst hm
    have k1:¬ (ks.length:Int)<(ks.length:Int):=by omega
    refine ⟨(.exit 1,⟨[],[],LKV m deep::VK::ms⟩), ?_,by simp,.inl ⟨h7,deep,ms,rfl,by omega,h4⟩⟩
    simp only [visS,LKV,VK]
    simp -implicitDefEqProofs (disch:=omega) only [Rx,simprocAttr,d6w,k1]
theorem h0h (l : List GRow) (hl : l.length ≤ 1048576) (hs : b1k l l.length) (hal : ∀ x ∈ l, x.attrs.length ≤ 1048577) : ∀ (D n a b : Nat) (p : List PV) (x : GRow) (es : List (PV × AV)) (j : Nat) (deep : Int) (ms : List AObj), b - a ≤ D → 1048577 < n → BT l a b p → l[a]? = some x → ms[j]? = some (.map es) → KAll l x.up a es →
    ∃ r,b0g T (n+D+39) 215 [.p (.agg p),.p (.int .i64 (b3n l (a+1)).length),.map true (j+1+1),pL,pV] (LKV a deep::VK::ms)=some r∧h4b l x.up a b j ms r:=by
  intro D
  induction D with
  | zero =>
    intro n a b p x es j deep ms hD hn hbt
    have:=hbt.lt
    omega
  | succ D ih =>
    intro n a b p x es j deep ms hD hn hbt hx hj hes
    have hlt:=hbt.lt
    have hinner:=hbt.inner
    cases hbt with
    | mk hx' hks=>
    rename_i x' ks
    rw [hx] at hx'
    cases hx'
    have ha:a<l.length:=by omega
    have hec:=b8p hx (show a<b by omega)
    have hgd:=hes.get (.str x.key)
    have hst:=hes.ok.strs x.key
    have hw:=g4u (n:=n+D+1) x ks [] (by have:=hal x (List.mem_of_getElem? hx);omega)
    rw [show n+D+1+38=n+D+39 by omega] at hw
    simp only [b0w] at hw
    have hjl:j<ms.length:=(List.getElem?_eq_some_iff.1 hj).1
    have hcl:(b3n l (a+1)).length≤1048576:=by
      have:=c4b hs (a+1) (a+1) (Nat.le_refl _) (show a+1≤l.length by omega)
      omega
    rw [show n+(D+1)+39=n+D+39+1 by omega,b0a T215,b0e rfl rfl]
    generalize hcn:(b3n l (a+1)).length=cn at hcl
    by_cases hre:b3i l a x=0
    rotate_left
    · rw [if_neg hre] at hec
      refine ⟨(.p (.bool false),LKE a (if (cn:Int) > deep then (cn:Int) else deep) (errR l a b)::VK::ms), ?_,.inr ⟨by rw [hec];exact hre,_,_,_,rfl⟩⟩
      rw [hec]
      unfold b3i at hre ⊢
      rw [hcn] at hre ⊢
      generalize hlk:mlk 2 es (.str x.key)=lk2 at hgd
      by_cases h1:a=4096
      · rw [if_pos h1]
        have k1:((a:Int)==4096)=true:=by simp;omega
        simp only [b0w,LKV,LKE,VK,pL,pV]
        simp -implicitDefEqProofs (disch:=omega) only [Rx,simprocAttr,F215,k1,hlk,hgd,hst,hj]
      rw [if_neg h1] at hre ⊢
      have k1:((a:Int)==4096)=false:=by simp;omega
      by_cases h2:64<cn
      · rw [if_pos h2]
        have k2:(64:Int)<(cn:Int):=by omega
        simp only [b0w,LKV,LKE,VK,pL,pV]
        simp -implicitDefEqProofs (disch:=omega) only [Rx,simprocAttr,F215,k1,k2,hlk,hgd,hst,hj]
      rw [if_neg h2] at hre ⊢
      have k2:¬ (64:Int)<(cn:Int):=by omega
      by_cases h3:b1p x=0
      rotate_left
      · rw [if_neg h3]
        have k3:(b1p x==0)=false:=by simpa using h3
        generalize b1p x=e at hw k3
        simp only [b0w,LKV,LKE,VK,pL,pV]
        simp -implicitDefEqProofs (disch:=omega) only [Rx,simprocAttr,F215,k1,k2,k3,hw,hlk,hgd,hst,hj]
      rw [if_pos h3] at hre ⊢
      rw [h3] at hw
      have h4:dupB l a x=true:=by
        by_cases h4:dupB l a x=true
        · exact h4
        · rw [if_neg h4] at hre;exact absurd rfl hre
      rw [if_pos h4]
      have hsm:=hes.dup h4
      rw [hlk] at hsm
      simp only [b0w,LKV,LKE,VK,pL,pV]
      simp -implicitDefEqProofs (disch:=omega) only [Rx,simprocAttr,F215,k1,k2,hw,hlk,hgd,hsm,hst,hj]
    rw [if_pos hre] at hec
    obtain ⟨h1,h2,h3,h4⟩:=g5z hre
    rw [hcn] at h2
    rw [h3] at hw
    have hlk:=hes.ok.none h4
    have k1:((a:Int)==4096)=false:=by simp;omega
    have k2:¬ (64:Int)<(cn:Int):=by omega
    have hes1:=hes.met hx
    have hcx:∀ m y,l[m]? = some y→y.up=(a:Int)+1→a<m→(b3n l (m+1)).length=cn+1:=by
      intro m y hy hu ham
      have hm:m<l.length:=(List.getElem?_eq_some_iff.1 hy).1
      rw [b3k hs (Nat.le_refl _) hm]
      have:upAt l (m+1)=a+1:=by simp [upAt,hy,hu]
      rw [this,List.length_cons,hcn]
    have hks':=hks.lt ha
    have hup:=hs a x ha hx
    generalize he1:(if x.key=[] then es else es++[(PV.str x.key,AV.p (.agg []))])=es1 at hes1
    obtain ⟨r,hr,hres⟩:=g4y (n:=n+D+39) (N:=n+D+39) l a b cn ks hks hl hs ha (by omega) (by omega) (ms.set j (.map es1)) (if (cn:Int) > deep then (cn:Int) else deep) (fun m m' k es' j' deep' ms' hb1 hy ham hmb hj' hes'=>by
      obtain ⟨y,hy,hu⟩:=hy
      have:=hb1.lt
      have hc:=hcx m y hy hu ham
      have:=ih n m m' k y es' j' deep' ms' (by omega) hn hb1 hy hj' (by rw [hu];exact hes')
      rw [hc,hu] at this
      push_cast at this
      exact this)
    have fin:∀ r',b0g T (n+D+39+1) 215 [.p (.agg (b0w x ks)),.p (.int .i64 cn),.map true (j+1+1),pL,pV] (LKV a deep::VK::ms)=some r'→h4b l x.up a b j ms r'→∃ r,br (b0g T (n+D+39)) F215 (b0r (b0g T (n+D+39)) (n+D+39) F215.body (b3w [.p (.agg (b0w x ks)),.p (.int .i64 cn),.map true (j+1+1),pL,pV] (LKV a deep::VK::ms)))=some r∧h4b l x.up a b j ms r:=fun r' h1 h2=>by
      rw [b0a T215,b0e rfl rfl] at h1
      exact ⟨r',h1,h2⟩
    have hset:x.key=[]→ms.set j (.map es1)=ms:=fun hk=>by
      rw [if_pos hk] at he1
      subst he1
      apply List.ext_getElem?
      intro q
      rw [List.getElem?_set]
      split
      · rename_i e;subst e;exact hj.symm
      · rfl
    simp only [visS,LKV,VK,Int.natCast_add,Int.natCast_one,Int.natCast_zero] at hr
    rcases hres with ⟨he0,deep',ms',rfl,hml,hsame⟩ | ⟨he0,m',deep',ms',rfl⟩
    · refine fin (.p (.bool true),LKV b deep'::VK::ms') ?_ (.inl ⟨by rw [hec];exact he0,deep',ms',es1,rfl,by simpa using hml, ?_, ?_,fun j' hj' hne => ?_⟩)
      rotate_left
      · rw [hsame j (by simpa using hjl),List.getElem?_set,if_pos rfl,if_pos hjl]
      · refine hes1.same (by omega) fun q y hq1 hq2 hy hu => ?_
        have:=hinner q y (by omega) hq2 hy
        omega
      · rw [hsame j' (by simpa using hj'),List.getElem?_set,if_neg (fun e=>hne e.symm)]
      rw [b0a T215,b0e rfl rfl]
      simp only [b0w,LKV,VK,pL,pV] at hr ⊢
      by_cases hk:x.key=[]
      · rw [hset hk] at hr
        rw [hk] at hw hlk hst
        simp -implicitDefEqProofs (disch:=omega) only [Rx,simprocAttr,F215,hk,k1,k2,hw,hlk,hst,hj,hr,Option.getD_none,Option.isSome_none]
      · have hk':(x.key==[])=false:=by simpa using hk
        rw [if_neg hk] at he1
        subst he1
        have hmp:=d4z (v:=.p (.agg [])) hlk
        simp -implicitDefEqProofs (disch:=omega) only [Rx,simprocAttr,F215,hk',k1,k2,hw,hlk,hst,hmp,hj,hr,Option.getD_none,Option.isSome_none,Option.isSome_some]
    · refine fin (.p (.bool false),LKE m' deep' (errR l (a+1) b)::VK::ms') ?_ (.inr ⟨by rw [hec];exact he0,m',deep',ms',by rw [hec]⟩)
      rw [b0a T215,b0e rfl rfl]
      generalize errR l (a+1) b=e at hr
      simp only [b0w,LKV,LKE,VK,pL,pV] at hr ⊢
      by_cases hk:x.key=[]
      · rw [hset hk] at hr
        rw [hk] at hw hlk hst
        simp -implicitDefEqProofs (disch:=omega) only [Rx,simprocAttr,F215,hk,k1,k2,hw,hlk,hst,hj,hr,Option.getD_none,Option.isSome_none]
      · have hk':(x.key==[])=false:=by simpa using hk
        rw [if_neg hk] at he1
        subst he1
        have hmp:=d4z (v:=.p (.agg [])) hlk
        simp -implicitDefEqProofs (disch:=omega) only [Rx,simprocAttr,F215,hk',k1,k2,hw,hlk,hst,hmp,hj,hr,Option.getD_none,Option.isSome_none,Option.isSome_some]
end Go.TA.Tryz


end
section
/- The tree of rows, as the program builds it, and where it ends. -/
namespace Go.TA.Tryz
def g9j (l:List GRow) (a:Nat) (x:GRow) (r:Ex × St):Prop:=∃ nx ks,BTs l a nx ks∧nx=b5x l (a+1)∧r=(.exit 0,⟨[(4,.ptr false 4 5 1 0 0),(7,.ptr false 7 5 1 0 0),(8,.p (.int .i64 nx))],c4e x ks,d8k ks⟩)
theorem d9j {n N : Nat} (l : List GRow) (hl : l.length ≤ 1048576) (hs : c4o l) (a : Nat) (x : GRow) (hx : l[a]? = some x) (hN : l.length - a < N)
    (ih:∀ m,a<m→m<l.length→∃ b p,BT l m b p∧b=b5x l (m+1)∧∀ g,b0g T n 161 [.p (.list (l.map GRow.pv)),.p (.int .i64 m)] g=some (.tuple [.p (.agg p),.p (.int .i64 b)],g)) :
    ∃ r,b0r (b0g T n) N (.loop d1l) (c5z l a x (a+1) [])=some r∧g9j l a x r:=by
  have ha:a<l.length:=(List.getElem?_eq_some_iff.1 hx).1
  refine b2v (σ := Nat × List (List PV)) (S:=fun s=>c5z l a x s.1 s.2) (I:=fun s=>BTs l a s.1 s.2∧s.1≤b5x l (a+1)∧(s.1=a+1∨∃ m,a+1≤m∧m<s.1∧s.1=b5x l (m+1)∧upAt l (m+1)=a+1)) (μ := fun s=>l.length - s.1) (Q:=g9j l a x) ?_ (a+1,[]) ⟨.nil,(b9j (by omega)).1,.inl rfl⟩ (by simp only;omega)
  rintro ⟨nx,ks⟩ ⟨hI,hle,hcl⟩
  simp only at hI hle hcl ⊢
  have hel:=(b9j (l:=l) (h:=a+1) (by omega)).2
  have hlt:=hI.lt ha
  by_cases h:nx<l.length
  · obtain ⟨y,hy⟩:=b0t h
    have hg:=b1l (f:=GRow.pv) hy
    have k1:(nx:Int)<(l.length:Int):=by omega
    cases hu:(y.up==(a:Int)+1) with
    | true =>
      obtain ⟨b,p,hbt,hbe,hrun⟩:=ih nx (by omega) h
      have hr:=hrun []
      have hp:=hbt.len
      have hb:=hbt.lt
      have hu':y.up=(a:Int)+1:=by simpa using hu
      left
      refine ⟨(b,ks++[p]), ?_,⟨.snoc hI hy hu' hbt, ?_,.inr ⟨nx,by omega,by simp only;omega,hbe,by simp [upAt,hy,hu']⟩⟩,by simp only;omega⟩
      rotate_left
      · simp only
        rw [hbe]
        refine h2x (by omega) ?_ (by omega)
        rcases Nat.lt_or_ge nx (b5x l (a+1)) with h5 | h5
        · exact h5
        · have h6:nx=b5x l (a+1):=by omega
          have:=c6q (l:=l) (h:=a+1) (x:=y) (by omega) (by rw [← h6];exact hy)
          omega
      obtain ⟨c1,c2,c3,c4,c5,rfl⟩:∃ c1 c2 c3 c4 c5,p=[c1,c2,c3,c4,c5]:=by
        match p,hp with
        | [c1,c2,c3,c4,c5],_=>exact ⟨c1,c2,c3,c4,c5,rfl⟩
      cases ks with
      | nil =>
        simp only [c5z,c4e,d8l,d8k,List.nil_append]
        simp -implicitDefEqProofs (disch:=omega) only [Rx,simprocAttr,d1l,k1,hg,GRow.pv,hu,hr]
      | cons k0 ks0 =>
        have hkl:(k0::ks0).length+1≤1048576:=by omega
        simp only [c5z,c4e,d8l,d8k,List.cons_append,List.length_cons,List.length_append,List.length_nil] at hkl ⊢
        simp -implicitDefEqProofs (disch:=omega) only [Rx,simprocAttr,d1l,k1,hg,GRow.pv,hu,hr,List.length_append]
    | false =>
      right
      have hu':¬ y.up=(a:Int)+1:=by simpa using hu
      refine ⟨_, ?_, ?_,nx,ks,hI, ?_,rfl⟩
      rotate_right
      · rcases Nat.lt_or_ge nx (b5x l (a+1)) with h5 | h5
        · obtain ⟨z,hz,hzu⟩:=h2m hs (h:=a+1) (cur:=nx) (by omega) h5 hcl (by omega)
          rw [hy] at hz
          cases hz
          exact absurd (by omega) hu'
        · omega
      · simp only [c5z,c4e]
        simp -implicitDefEqProofs (disch:=omega) only [Rx,simprocAttr,d1l,k1,hg,GRow.pv,hu,g7q]
      · simp
  · right
    have k1:¬ (nx:Int)<(l.length:Int):=by omega
    refine ⟨_, ?_, ?_,nx,ks,hI, ?_,rfl⟩
    · simp only [c5z,c4e]
      simp -implicitDefEqProofs (disch:=omega) only [Rx,simprocAttr,d1l,k1,g7q]
    · simp
    · omega
theorem g4c (l:List GRow) (hl:l.length≤1048576) (hs:c4o l) (hal:∀ x ∈ l,x.attrs.length≤1048577):∀ (d a n:Nat),a<l.length→l.length - a≤d→∃ b p,BT l a b p∧b=b5x l (a+1)∧∀ g,b0g T (n+d+3) 161 [.p (.list (l.map GRow.pv)),.p (.int .i64 a)] g=some (.tuple [.p (.agg p),.p (.int .i64 b)],g):=by
  intro d
  induction d with
  | zero=>intro a n ha hd;omega
  | succ d ih =>
    intro a n ha hd
    obtain ⟨x,hx⟩:=b0t ha
    have hg:=b1l (f:=GRow.pv) hx
    have k1:(a:Int)<(l.length:Int):=by omega
    obtain ⟨r,hr,nx,ks,hbt,hlast,rfl⟩:=d9j (n:=n+d+3) (N:=n+d+3) l hl hs a x hx (by omega) (fun m h1 h2=>by
      obtain ⟨b,p,q1,q2,q3⟩:=ih m n h2 (by omega)
      exact ⟨b,p,q1,q2,q3⟩)
    refine ⟨nx,b0w x ks,.mk hx hbt,hlast,fun g => ?_⟩
    rw [show n+(d+1)+3=n+d+3+1 by omega,b0a T161,run_pure rfl rfl rfl]
    have hcl:=fun g=>b4j x.attrs (hal x (List.mem_of_getElem? hx)) g (n+d+2)
    cases ks with
    | nil =>
      simp only [c5z,c4e,d8l,d8k,Int.natCast_add,Int.natCast_one] at hr
      simp only [b0w]
      simp -implicitDefEqProofs (disch:=omega) only [Rx,simprocAttr,F161,k1,hg,GRow.pv,b0b,hcl,hr,b8t]
    | cons k0 ks0 =>
      simp only [c5z,c4e,d8l,d8k,Int.natCast_add,Int.natCast_one] at hr
      simp only [b0w]
      simp -implicitDefEqProofs (disch:=omega) only [Rx,simprocAttr,F161,k1,hg,GRow.pv,b0b,hcl,hr,b8t]
end Go.TA.Tryz


end
section
/- Rows that are right for the document's answer are right for the program. -/
namespace Go.TA.Tryz
theorem g9d {l:List GRow} {x:GRow} (hs:b1k l l.length) (hx:l[0]? = some x):b3n l 1=[1]:=by
 have hlt:0<l.length:=(List.getElem?_eq_some_iff.1 hx).1
 rw [b3k hs (Nat.le_refl _) hlt]
 have:=b5q hs hlt hlt
 have:upAt l 1=0:=by simpa using this
 rw [this];rfl
end Go.TA.Tryz


end
section
/- Rows that are right for the document's answer are right for the program. -/
namespace Go.TA.Tryz
end Go.TA.Tryz


end
section
/- What the program finds wrong with rows is what the document's answer finds wrong. -/
namespace Go.TA.Tryz
theorem g5j {l:List GRow} {m x:Nat} (hx:x<m):upAt (l.take m) (x+1)=upAt l (x+1):=by
 simp only [upAt,Nat.add_sub_cancel]
 rw [List.getElem?_take,if_pos hx]
theorem g1q {l:List GRow} (hs:b1k l l.length) {m:Nat}:∀ (f x:Nat),x≤m→anc (l.take m) f x=anc l f x
  | 0,_,_=>rfl
  | _+1,0,_=>rfl
  | f + 1, x + 1, hx => by
    simp only [anc,g5j (l:=l) (show x<m by omega)]
    congr 1
    refine g1q hs f _ ?_
    by_cases h:x<l.length
    · have:=b5q hs h h
      omega
    · have:upAt l (x+1)=0:=by simp [upAt,List.getElem?_eq_none (show l.length≤x by omega)]
      omega
theorem d1e {l:List GRow} (hs:b1k l l.length) {m x:Nat} (hx:x≤m):b3n (l.take m) x=b3n l x:=g1q hs x x hx
theorem d3b {l:List GRow} {m j:Nat} {x:GRow} (h:(l.take m)[j]? = some x):j<m∧l[j]? = some x:=by
 rw [List.getElem?_take] at h
 split at h
 ·rename_i hj;exact ⟨hj,h⟩
 ·cases h
theorem g1z {l:List GRow} (hs:c4o l) (m:Nat):c4o (l.take m):=by
 refine ⟨fun j x hj hx=>hs.1 j x ?_ (d3b hx).2,fun j x hx => ?_⟩
 ·exact (List.getElem?_eq_some_iff.1 (d3b hx).2).1
 ·obtain ⟨hj,hx⟩:=d3b hx
  rcases hs.2 j x hx with h | ⟨h1,y,hy,hyu⟩
  ·exact .inl h
  ·exact .inr ⟨h1,y,by rw [d1e hs.1 (by omega)];exact hy,hyu⟩
theorem d7p {l:List GRow} (hs:b1k l l.length) {m i:Nat} (hi:i<m) (x:GRow):b3i (l.take m) i x=b3i l i x:=by
 unfold b3i dupB
 rw [d1e hs (show i+1≤m by omega),List.take_take,show min i m=i by omega]
theorem d5v {l:List GRow} (hs:b1k l l.length) {m:Nat}:∀ (d a b:Nat),b - a≤d→b≤m→b≤l.length→errR (l.take m) a b=errR l a b
  | 0, a, b, hd, hb, hl => by
    have h1:∀ k:List GRow,(k.take b).drop a=[]:=fun k=>List.drop_eq_nil_of_le (by rw [List.length_take];omega)
    simp only [errR,h1];rfl
  | d + 1, a, b, hd, hb, hl => by
    by_cases h:a<b
    · obtain ⟨x,hx⟩:=b0t (show a<l.length by omega)
      have hx':(l.take m)[a]? = some x:=by rw [List.getElem?_take,if_pos (by omega)];exact hx
      rw [b8p hx h,b8p hx' h,d7p hs (by omega),d5v hs d (a+1) b (by omega) hb hl]
    · have h1:∀ k:List GRow,(k.take b).drop a=[]:=fun k=>List.drop_eq_nil_of_le (by rw [List.length_take];omega)
      simp only [errR,h1];rfl
theorem h6t {l:List GRow} (hs:c4o l) (h0:0<l.length):b5x l 1=l.length:=by
 have he:=b9j (l:=l) (h:=1) (by omega)
 rcases Nat.lt_or_ge (b5x l 1) l.length with hlt | hge
 ·obtain ⟨x,hx⟩:=b0t hlt
  have a1:=c6q (h:=1) (by omega) hx
  rcases hs.2 _ x hx with ⟨h1,_⟩ | ⟨_,y,hy,hyu⟩
  ·omega
  ·have:=c8w hy
   omega
 ·omega
theorem g3z (l:List GRow) (hl:l.length≤1048576) (hs:b1k l l.length) (hal:∀ x ∈ l,x.attrs.length≤1048577) {b:Nat} {p:List PV} (hbt:BT l 0 b p) {n:Nat} (hn:1048577<n) (g:List AObj) :
  ∃ m deep,b0g T (n+l.length+40) 195 [.p (.agg p)] g=some (.p (.agg [.int .i64 m,.int .i64 deep,.int .i64 (errR l 0 b)]),g):=by
 have hlt:=hbt.lt
 have hbt':=hbt
 cases hbt with
 | mk hx hks=>
 rename_i x ks
 obtain ⟨r,hr,hse⟩:=h0h l hl hs hal l.length n 0 b (b0w x ks) x [] 0 0 [.map []] (by omega) hn hbt' hx rfl ⟨fun e he=>by simp at he,fun e he=>by simp at he,fun j y hj=>by omega⟩
 have hc:=g9d hs hx
 rcases hse with ⟨he,deep,ms',es,rfl,_,_,_,_⟩ | ⟨he,m,deep,ms',rfl⟩
 ·refine ⟨b,deep, ?_⟩
  rw [he,b0a T195,run_pure rfl rfl rfl]
  simp only [Nat.zero_add,hc,List.length_singleton,Int.natCast_one,Int.natCast_zero,LKV,VK,pL,pV,b0w] at hr
  simp only [b0w]
  simp -implicitDefEqProofs (disch:=omega) only [Rx,simprocAttr,F195,hr]
 ·refine ⟨m,deep, ?_⟩
  rw [b0a T195,run_pure rfl rfl rfl]
  generalize errR l 0 b=e at hr
  simp only [Nat.zero_add,hc,List.length_singleton,Int.natCast_one,Int.natCast_zero,LKV,LKE,VK,pL,pV,b0w] at hr
  simp only [b0w]
  simp -implicitDefEqProofs (disch:=omega) only [Rx,simprocAttr,F195,hr]
theorem d7f (l:List GRow) (hl:l.length≤1048576) (hs:b1k l l.length) (hal:∀ x ∈ l,x.attrs.length≤1048577) {b:Nat} {p:List PV} (hbt:BT l 0 b p) {n:Nat} (hn:1048577<n) (g:List AObj) :
  ∃ m,b0g T (n+l.length+41) 162 [.p (.agg p)] g=some (.tuple [.p (.int .i64 m),.p (.int .i64 (errR l 0 b))],g):=by
 obtain ⟨m,deep,hr⟩:=g3z l hl hs hal hbt hn []
 cases hbt with
 | mk hx hks=>
 rename_i x ks
 simp only [b0w] at hr
 by_cases he:errR l 0 b=0
 ·refine ⟨0, ?_⟩
  rw [he] at hr ⊢
  rw [b0a T162,run_pure rfl rfl rfl]
  simp only [b0w]
  simp -implicitDefEqProofs (disch:=omega) only [Rx,simprocAttr,F162,hr]
 ·refine ⟨m, ?_⟩
  have e1:(errR l 0 b==0)=false:=by simpa using he
  generalize errR l 0 b=e at hr e1
  rw [b0a T162,run_pure rfl rfl rfl]
  simp only [b0w]
  simp -implicitDefEqProofs (disch:=omega) only [Rx,simprocAttr,F162,hr,e1]
def b6p (l:List GRow) (i:Nat):Prop:=64<(b3n l (i+1)).length
theorem g9a (l : List GRow) (hs : b1k l l.length) (hl : l.length ≤ 1048576) (g : List AObj) {n : Nat} (hn : l.length < n) :
    ∃ d:Bool,b0g T (n+1) 159 [.p (.list (l.map GRow.pv))] g=some (.p (.bool d),g)∧(d=true↔(∃ i,i<l.length∧b6p l i)∨4096<l.length):=by
  have key:=b2v (C:=b0g T n) (N:=n) (B:=d7c) (σ := Nat) (S:=fun i=>⟨[(0,.p (.list (l.map GRow.pv))),(3,.own false 9 (l.length+1)),(10,.p (.list (l.map GRow.pv))),(11,.p (.int .i64 l.length)),(12,.p (.int .i64 i))],[(9,.pcells 1 (b4e l i))],[]⟩) (I:=fun i=>i≤l.length∧∀ j,j<i→¬ b6p l j) (μ := fun i=>l.length - i)
    (Q:=fun r=>(r=(.ret,⟨[(2,.p (.bool true))],[],[]⟩)∧∃ i,i<l.length∧b6p l i)∨(r=(.exit 0,⟨[(0,.p (.list (l.map GRow.pv)))],[],[]⟩)∧∀ j,j<l.length→¬ b6p l j)) ?_ 0 ⟨by omega,fun j hj=>by omega⟩ (by omega)
  · obtain ⟨r,hr,hq⟩:=key
    have k2:((l.length:Int)+1).toNat=l.length+1:=by omega
    have hz:=c8s l
    simp only [Int.natCast_zero] at hr
    rcases hq with ⟨rfl,hd⟩ | ⟨rfl,hd⟩
    · refine ⟨true, ?_,by simp [hd]⟩
      rw [b0a T159,run_pure rfl rfl rfl]
      simp -implicitDefEqProofs (disch:=omega) only [Rx,simprocAttr,F159,k2,hz,hr]
    · by_cases h4:4096<l.length
      · refine ⟨true, ?_,by simp [h4]⟩
        have k1:(4096:Int)<(l.length:Int):=by omega
        rw [b0a T159,run_pure rfl rfl rfl]
        simp -implicitDefEqProofs (disch:=omega) only [Rx,simprocAttr,F159,k1,k2,hz,hr]
      · refine ⟨false, ?_, ?_⟩
        · have k1:¬ (4096:Int)<(l.length:Int):=by omega
          rw [b0a T159,run_pure rfl rfl rfl]
          simp -implicitDefEqProofs (disch:=omega) only [Rx,simprocAttr,F159,k1,k2,hz,hr]
        · simp only [Bool.false_eq_true,false_iff,not_or]
          exact ⟨fun ⟨i,h1,h2⟩=>hd i h1 h2,h4⟩
  rintro i ⟨hi,hnd⟩
  by_cases h:i<l.length
  · have k1:(i:Int)<(l.length:Int):=by omega
    obtain ⟨x,hx,hu⟩:=c9z hs (Nat.le_refl _) h
    have hg:=b1l (f:=GRow.pv) hx
    have hle:=b5q hs h h
    have hc:=b3k hs (Nat.le_refl _) h
    have hcl:=c4b hs (upAt l (i+1)) (upAt l (i+1)) (Nat.le_refl _) (by omega)
    have dl:=c1k l i
    have g1:(b4e l i).getD (upAt l (i+1)) []=[.int .i64 ((b3n l (upAt l (i+1))).length:Int)]:=by rw [b7d l (by omega),if_pos (by omega)]
    have s1:(b4e l i).set (i+1) [.int .i64 (((b3n l (upAt l (i+1))).length:Int)+1)]=b4e l (i+1):=by
      rw [← d0y l h,hc,List.length_cons];push_cast;rfl
    have g2:(b4e l (i+1)).getD (i+1) []=[.int .i64 (((b3n l (upAt l (i+1))).length:Int)+1)]:=by rw [b7d l (by omega),if_pos (by omega),hc,List.length_cons];push_cast;rfl
    have g3:(b4e l i).getD (i+1) []=[.int .i64 0]:=by rw [b7d l (by omega),if_neg (by omega)]
    have k5:((i:Int)+1).toNat=i+1:=by omega
    have dl2:=c1k l (i+1)
    by_cases hdp:b6p l i
    · right
      have k2:(64:Int)<((b3n l (upAt l (i+1))).length:Int)+1:=by
        unfold b6p at hdp
        rw [hc,List.length_cons] at hdp
        omega
      refine ⟨_, ?_, ?_,.inl ⟨rfl,i,h,hdp⟩⟩
      · simp -implicitDefEqProofs (disch:=omega) only [Rx,simprocAttr,d7c,k1,hg,GRow.pv,hu,dl,dl2,g1,g2,g3,s1,k2,k5]
      · simp
    · left
      have k2:¬ (64:Int)<((b3n l (upAt l (i+1))).length:Int)+1:=by
        unfold b6p at hdp
        rw [hc,List.length_cons] at hdp
        omega
      refine ⟨i+1, ?_,⟨by omega,fun j hj => ?_⟩,by omega⟩
      · simp -implicitDefEqProofs (disch:=omega) only [Rx,simprocAttr,d7c,k1,hg,GRow.pv,hu,dl,dl2,g1,g2,g3,s1,k2,k5]
      · by_cases e:j=i
        · subst e;exact hdp
        · exact hnd j (by omega)
  · right
    obtain rfl:i=l.length:=by omega
    have k1:¬ (l.length:Int)<(l.length:Int):=by omega
    refine ⟨_, ?_, ?_,.inr ⟨rfl,hnd⟩⟩
    · simp -implicitDefEqProofs (disch:=omega) only [Rx,simprocAttr,d7c,k1]
    · simp
theorem h3m (l : List GRow) (hs : b1k l l.length) (hl : l.length ≤ 1048576) (hd : (∃ i, i < l.length ∧ b6p l i) ∨ 4096 < l.length) (g : List AObj) {n : Nat} (hn : l.length < n) :
    ∃ k,k<l.length∧(b6p l k∨k=4096)∧b0g T (n+1) 160 [.p (.list (l.map GRow.pv))] g=some (.p (.list ((l.take (k+1)).map GRow.pv)),g):=by
  have key:=b2v (C:=b0g T n) (N:=n) (B:=d7b) (σ := Nat) (S:=fun i=>⟨[(0,.p (.list (l.map GRow.pv))),(3,.own false 9 (l.length+1)),(10,.p (.list (l.map GRow.pv))),(11,.p (.int .i64 l.length)),(12,.p (.int .i64 i))],[(9,.pcells 1 (b4e l i))],[]⟩) (I:=fun i=>i≤l.length∧∀ j,j<i→¬ b6p l j∧j≠4096) (μ := fun i=>l.length - i)
    (Q:=fun r=>∃ k,k<l.length∧(b6p l k∨k=4096)∧r=(.ret,⟨[(2,.p (.list ((l.take (k+1)).map GRow.pv)))],[],[]⟩)) ?_ 0 ⟨by omega,fun j hj=>by omega⟩ (by omega)
  · obtain ⟨r,hr,k,h1,h2,rfl⟩:=key
    have k2:((l.length:Int)+1).toNat=l.length+1:=by omega
    have hz:=c8s l
    simp only [Int.natCast_zero] at hr
    refine ⟨k,h1,h2, ?_⟩
    rw [b0a T160,run_pure rfl rfl rfl]
    simp -implicitDefEqProofs (disch:=omega) only [Rx,simprocAttr,F160,k2,hz,hr]
  rintro i ⟨hi,hnd⟩
  by_cases h:i<l.length
  · have k1:(i:Int)<(l.length:Int):=by omega
    obtain ⟨x,hx,hu⟩:=c9z hs (Nat.le_refl _) h
    have hg:=b1l (f:=GRow.pv) hx
    have hle:=b5q hs h h
    have hc:=b3k hs (Nat.le_refl _) h
    have hcl:=c4b hs (upAt l (i+1)) (upAt l (i+1)) (Nat.le_refl _) (by omega)
    have dl:=c1k l i
    have g1:(b4e l i).getD (upAt l (i+1)) []=[.int .i64 ((b3n l (upAt l (i+1))).length:Int)]:=by rw [b7d l (by omega),if_pos (by omega)]
    have s1:(b4e l i).set (i+1) [.int .i64 (((b3n l (upAt l (i+1))).length:Int)+1)]=b4e l (i+1):=by
      rw [← d0y l h,hc,List.length_cons];push_cast;rfl
    have g2:(b4e l (i+1)).getD (i+1) []=[.int .i64 (((b3n l (upAt l (i+1))).length:Int)+1)]:=by rw [b7d l (by omega),if_pos (by omega),hc,List.length_cons];push_cast;rfl
    have g3:(b4e l i).getD (i+1) []=[.int .i64 0]:=by rw [b7d l (by omega),if_neg (by omega)]
    have k5:((i:Int)+1).toNat=i+1:=by omega
    have dl2:=c1k l (i+1)
    have ll:(l.map GRow.pv).length=l.length:=by simp
    have k6:(i:Int)+1≤(l.length:Int):=by omega
    have htk:((l.map GRow.pv).take (i+1)).drop 0=(l.take (i+1)).map GRow.pv:=by rw [List.drop_zero,List.map_take]
    have htk2:(l.map GRow.pv).take (i+1)=(l.take (i+1)).map GRow.pv:=by rw [List.map_take]
    have k0:(0:Int).toNat=0:=rfl
    by_cases hdp:b6p l i
    · right
      have k2:(64:Int)<((b3n l (upAt l (i+1))).length:Int)+1:=by
        unfold b6p at hdp
        rw [hc,List.length_cons] at hdp
        omega
      refine ⟨_, ?_, ?_,i,h,.inl hdp,rfl⟩
      · simp -implicitDefEqProofs (disch:=omega) only [Rx,simprocAttr,d7b,k1,hg,GRow.pv,hu,dl,dl2,g1,g2,g3,s1,k2,k5,k6,k0,ll,htk2,bound]
      · simp
    · have k2:¬ (64:Int)<((b3n l (upAt l (i+1))).length:Int)+1:=by
        unfold b6p at hdp
        rw [hc,List.length_cons] at hdp
        omega
      by_cases h4:i=4096
      · right
        have e4:((i:Int)==4096)=true:=by simp;omega
        refine ⟨_, ?_, ?_,i,h,.inr h4,rfl⟩
        · simp -implicitDefEqProofs (disch:=omega) only [Rx,simprocAttr,d7b,k1,hg,GRow.pv,hu,dl,dl2,g1,g2,g3,s1,k2,k5,k6,k0,e4,ll,htk2,bound]
        · simp
      · left
        have e4:((i:Int)==4096)=false:=by simp;omega
        refine ⟨i+1, ?_,⟨by omega,fun j hj => ?_⟩,by omega⟩
        · simp -implicitDefEqProofs (disch:=omega) only [Rx,simprocAttr,d7b,k1,hg,GRow.pv,hu,dl,dl2,g1,g2,g3,s1,k2,k5,e4]
        · by_cases e:j=i
          · subst e;exact ⟨hdp,h4⟩
          · exact hnd j (by omega)
  · exfalso
    rcases hd with ⟨j,hj,hdj⟩ | hd
    · exact (hnd j (by omega)).1 hdj
    · exact (hnd 4096 (by omega)).2 rfl
theorem d9w {l:List GRow} {k:Nat} {x:GRow} (hk:b6p l k∨k=4096):b3i l k x≠0:=by
 unfold b3i b6p at *
 split
 ·omega
 ·rename_i h
  rcases hk with hk | hk
  ·rw [if_pos hk];omega
  ·exact absurd hk h
theorem five {p:List PV} (h:p.length=5):∃ c1 c2 c3 c4 c5,p=[c1,c2,c3,c4,c5]:=by
 match p,h with
 | [c1,c2,c3,c4,c5],_=>exact ⟨c1,c2,c3,c4,c5,rfl⟩
theorem g5l (l : List GRow) (hl : l.length ≤ 1048576) (hne : l ≠ []) (hf : b4c l = true) (hal : ∀ x ∈ l, x.attrs.length ≤ 1048577) {n : Nat} (hn : 1048577 < n) (g : List AObj) :
    ∃ p,(∃ c1 c2 c3 c4 c5,p=[c1,c2,c3,c4,c5])∧b0g T (n+l.length+42) 105 [.p (.list (l.map GRow.pv))] g=some (.tuple [.p (.agg p),.p (.int .i64 (b3a l 0 l))],g):=by
  have hso:=c5u hf
  have hs:=hso.1
  have hlen:0<l.length:=List.length_pos_iff.2 hne
  have hfr:=d5p l hl [] (n:=n+l.length+40) (by omega)
  rw [hf] at hfr
  obtain ⟨d,hdr,hdi⟩:=g9a l hs hl [] (n:=n+l.length+40) (by omega)
  have k0:((l.length:Int)==0)=false:=by simp;omega
  have tree:∀ l':List GRow,c4o l'→l'.length≤l.length→0<l'.length→(∀ x ∈ l',x.attrs.length≤1048577)→∃ c1 c2 c3 c4 c5 m,b0g T (n+l.length+41) 161 [.p (.list (l'.map GRow.pv)),.p (.int .i64 0)] []=some (.tuple [.p (.agg [c1,c2,c3,c4,c5]),.p (.int .i64 l'.length)],[])∧b0g T (n+l.length+41) 162 [.p (.agg [c1,c2,c3,c4,c5])] []=some (.tuple [.p (.int .i64 m),.p (.int .i64 (errR l' 0 l'.length))],[]):=by
    intro l' hs' hl' h0' hal'
    obtain ⟨b,p,hbt,hbe,hb⟩:=g4c l' (by omega) hs' hal' l'.length 0 (n+l.length+38 - l'.length) h0' (by omega)
    have hb:=hb []
    rw [show n+l.length+38 - l'.length+l'.length+3=n+l.length+41 by omega] at hb
    obtain ⟨m,hv⟩:=d7f l' (by omega) hs'.1 hal' hbt (n:=n+l.length - l'.length) (by omega) []
    rw [show n+l.length - l'.length+l'.length+41=n+l.length+41 by omega] at hv
    have hpl:=hbt.len
    have hbl:b=l'.length:=by rw [hbe];exact h6t hs' h0'
    rw [hbl] at hb hv
    have hp5:=five hpl
    clear hbt hpl hbe hbl
    obtain ⟨c1,c2,c3,c4,c5,hp5⟩:=hp5
    rw [hp5] at hb hv
    clear hp5
    have key:=And.intro hb hv
    exact Exists.intro c1 (Exists.intro c2 (Exists.intro c3 (Exists.intro c4 (Exists.intro c5 (Exists.intro m key)))))
  have fin:∀ l':List GRow,(d=true→b0g T (n+l.length+41) 160 [.p (.list (l.map GRow.pv))] []=some (.p (.list (l'.map GRow.pv)),[]))→(d=false→l'=l)→c4o l'→l'.length≤l.length→0<l'.length→(∀ x ∈ l',x.attrs.length≤1048577)→errR l' 0 l'.length=b3a l 0 l →
      ∃ p,(∃ c1 c2 c3 c4 c5,p=[c1,c2,c3,c4,c5])∧b0g T (n+l.length+42) 105 [.p (.list (l.map GRow.pv))] g=some (.tuple [.p (.agg p),.p (.int .i64 (b3a l 0 l))],g):=by
    intro l' hcut hd0 hs' hl' h0' hal' hee
    obtain ⟨c1,c2,c3,c4,c5,m,hb,hv⟩:=tree l' hs' hl' h0' hal'
    rw [hee] at hv
    have ll:(l.map GRow.pv).length=l.length:=by simp
    by_cases he:b3a l 0 l=0
    · rw [he] at hv ⊢
      refine ⟨[c1,c2,c3,c4,c5],⟨_,_,_,_,_,rfl⟩, ?_⟩
      rw [b0a T105,run_pure rfl rfl rfl]
      cases d with
      | true =>
        have hc:=hcut rfl
        simp -implicitDefEqProofs (disch:=omega) only [Rx,simprocAttr,F105,k0,ll,hfr,hdr,hc,hb,hv]
      | false =>
        rw [hd0 rfl] at hb
        simp -implicitDefEqProofs (disch:=omega) only [Rx,simprocAttr,F105,k0,ll,hfr,hdr,hb,hv]
    · have e1:(b3a l 0 l==0)=false:=by simpa using he
      refine ⟨[.str [],.str [],.str [],.list [],.list []],⟨_,_,_,_,_,rfl⟩, ?_⟩
      generalize b3a l 0 l=e at hv e1 ⊢
      rw [b0a T105,run_pure rfl rfl rfl]
      cases d with
      | true =>
        have hc:=hcut rfl
        simp -implicitDefEqProofs (disch:=omega) only [Rx,simprocAttr,F105,k0,ll,hfr,hdr,hc,hb,hv,e1]
      | false =>
        rw [hd0 rfl] at hb
        simp -implicitDefEqProofs (disch:=omega) only [Rx,simprocAttr,F105,k0,ll,hfr,hdr,hb,hv,e1]
  by_cases hdt:d=true
  · obtain ⟨k,hk1,hk2,hcut⟩:=h3m l hs hl (hdi.1 hdt) [] (n:=n+l.length+40) (by omega)
    have htl:(l.take (k+1)).length=k+1:=by rw [List.length_take];omega
    obtain ⟨x,hx⟩:=b0t hk1
    have h1:=b8o (l:=l) k (a:=0) (m:=k) (b:=k+1) (by omega) (by omega) (by omega)
    have h2:=b8p hx (show k<k+1 by omega)
    rw [if_neg (d9w hk2)] at h2
    have hne2:errR l 0 (k+1)≠0:=by
      rw [h1]
      split
      · rw [h2];exact d9w hk2
      · assumption
    have h3:=b8o (l:=l) (k+1) (a:=0) (m:=k+1) (b:=l.length) (by omega) (by omega) (Nat.le_refl _)
    rw [if_neg hne2] at h3
    refine fin (l.take (k+1)) (fun _ => ?_) (fun h=>absurd hdt (by rw [h];simp)) (g1z hso _) (by omega) (by omega) (fun x hx=>hal x (List.mem_of_mem_take hx)) ?_
    · exact hcut
    · rw [htl,d5v hs (k+1) 0 (k+1) (by omega) (Nat.le_refl _) (by omega), ← h3,g1b]
  · have hd0:d=false:=by simpa using hdt
    exact fin l (fun h=>absurd h hdt) (fun _=>rfl) hso (Nat.le_refl _) hlen hal g1b
theorem c9n (l:List GRow) {m:Nat} (hl:Rows.mid m l) (hm:m≤1048577) {n:Nat} (hn:1048577<n) (g:List AObj):b0g T (n+l.length+43) 55 [.p (.list (l.map GRow.pv))] g=some (.p (.int .i64 (b4f l)),g):=by
 have hlen:=hl.len
 by_cases hne:l=[]
 ·subst hne
  have e:b4f []=0:=rfl
  rw [e,b0a T55,run_pure rfl rfl rfl]
  simp -implicitDefEqProofs (disch:=omega) only [Rx,simprocAttr,F55,Int.natCast_zero]
 have hlen0:0<l.length:=List.length_pos_iff.2 hne
 have k0:((l.length:Int)==0)=false:=by simp;omega
 by_cases hf:b4c l=true
 ·obtain ⟨p,hp,hr⟩:=g5l l (by omega) hne hf (fun x hx=>by have:=(hl.row x hx).attrs;omega) hn []
  have e:b4f l=b3a l 0 l:=by rw [b4f,if_pos hf]
  obtain ⟨c1,c2,c3,c4,c5,rfl⟩:=hp
  rw [e,b0a T55,run_pure rfl rfl rfl]
  simp -implicitDefEqProofs (disch:=omega) only [Rx,simprocAttr,F55,k0,hr]
 ·have e:b4f l=2:=by rw [b4f,if_neg hf]
  have hfr:=d5p l (by omega) [] (n:=n+l.length+40) (by omega)
  simp only [Bool.not_eq_true] at hf
  rw [hf] at hfr
  have hr:b0g T (n+l.length+42) 105 [.p (.list (l.map GRow.pv))] []=some (.tuple [.p (.agg [.str [],.str [],.str [],.list [],.list []]),.p (.int .i64 2)],[]):=by
   have ll:(l.map GRow.pv).length=l.length:=by simp
   rw [b0a T105,run_pure rfl rfl rfl]
   simp -implicitDefEqProofs (disch:=omega) only [Rx,simprocAttr,F105,k0,ll,hfr]
  rw [e,b0a T55,run_pure rfl rfl rfl]
  simp -implicitDefEqProofs (disch:=omega) only [Rx,simprocAttr,F55,k0,hr]
end Go.TA.Tryz


end
section
/- The machine of rows that are right. -/
namespace Go.TA.Tryz
def newS (l:List GRow) (i:Nat) (av:Nat→AV) (rest:List AObj):St:=⟨[(5,.ptr true 1 1 1 0 0),(17,.p (.list (l.map GRow.pv))),(18,.p (.int .i64 l.length)),(19,.p (.int .i64 i))],[],b0m (i+1) (st0 l) av rest⟩
theorem h1z {n N : Nat} (l : List GRow) (hl : l.length ≤ 1048576) (hal : ∀ x ∈ l, x.attrs.length ≤ 1048577) (hs : b1k l l.length) (hN : l.length < N) :
    ∃ r,b0r (b0g T (n+1)) N (.loop h0d) (newS l 0 (fun _ => .nils) [])=some r∧∃ av rest,r=(.exit 0,⟨[(5,.ptr true 1 1 1 0 0)],[],b0m (l.length+1) (st0 l) av rest⟩)∧MOk (l.length+1) av (kd0 l l.length) rest∧∀ h,h<l.length+1→∀ ks,av h ≠ .p ks:=by
  refine b2v (σ := Nat × (Nat→AV) × List AObj) (S:=fun s=>newS l s.1 s.2.1 s.2.2) (I:=fun s=>s.1≤l.length∧MOk (s.1+1) s.2.1 (kd0 l s.1) s.2.2∧∀ h,h<s.1+1→∀ ks,s.2.1 h ≠ .p ks) (μ := fun s=>l.length - s.1)
    (Q:=fun r=>∃ av rest,r=(.exit 0,⟨[(5,.ptr true 1 1 1 0 0)],[],b0m (l.length+1) (st0 l) av rest⟩)∧MOk (l.length+1) av (kd0 l l.length) rest∧∀ h,h<l.length+1→∀ ks,av h ≠ .p ks) ?_ (0,(fun _ => .nils),[]) ⟨by omega,⟨fun h _ => .none,fun _ _ _ _ _ => .inl rfl⟩,fun h _ ks=>by simp⟩ (by simp only;omega)
  rintro ⟨i,av,rest⟩ ⟨h1,h2,h3⟩
  simp only at h1 h2 h3 ⊢
  by_cases hi:i<l.length
  · left
    obtain ⟨x,hx,hu⟩:=c9z hs (Nat.le_refl _) hi
    have hle:=b5q hs hi hi
    have hg:=b1l (f:=GRow.pv) hx
    have k1:(i:Int)<(l.length:Int):=by omega
    have hcl:=b4j x.attrs (hal x (List.mem_of_getElem? hx)) [] n
    generalize hU:upAt l (i+1)=u at hu hle
    have hst:st0 l (i+1)=b8j x:=by simp [st0,hx]
    have hpush:b0x (i+1) (st0 l) av++[[.p (.bool true),.p (.int .i64 u),.nils,.p (.str x.tag),.p (.str x.key),.p (.str x.text),.p (.list (x.attrs.map Attr.pv))]]=b0x (i+1+1) (st0 l) (upd av (i+1) .nils):=by
      have:=c7g (N:=i+1) (st:=st0 l) (av:=av) (b8j x) .nils
      simp only [b1t,b8j,hu] at this
      rw [this]
      refine b3p fun k hk=>⟨?_,rfl⟩
      by_cases e:k=i+1
      · subst e;rw [b0l,hst,b8j,hu]
      · rw [b0i e]
    have hM:=h2.push
    have len1:(b0x (i+1) (st0 l) av).length=i+1:=b2i
    have len2:(b0x (i+1+1) (st0 l) (upd av (i+1) .nils)).length=i+1+1:=b2i
    have hgu:(b0x (i+1+1) (st0 l) (upd av (i+1) .nils)).getD u []=b1t (st0 l u) (upd av (i+1) .nils u):=b1y (by omega)
    have hkd:∀ h,h<i+1+1→upd (upd (kd0 l i) (i+1) []) u (upd (kd0 l i) (i+1) [] u++[(i:Int)+1]) h=kd0 l (i+1) h:=by
      intro h hh
      have hnew:upd (kd0 l i) (i+1) [] h=kd0 l i h:=by
        by_cases e:h=i+1
        · subst e;rw [b0l,g7r (hs.mono (by omega)) (by omega)]
        · rw [b0i e]
      rw [g0w hx,hu]
      by_cases e:h=u
      · subst e
        rw [b0l,hnew,if_pos rfl]
      · rw [b0i e,hnew,if_neg (by omega)]
    have hset:∀ a,(b0x (i+1+1) (st0 l) (upd av (i+1) .nils)).set u [.p (.bool (st0 l u).live),.p (.int .i64 (st0 l u).up),a,.p (.str (st0 l u).tag),.p (.str (st0 l u).key),.p (.str (st0 l u).text),.p (.list ((st0 l u).attrs.map Attr.pv))]=b0x (i+1+1) (st0 l) (upd (upd av (i+1) .nils) u a):=by
      intro a
      have:=b5s (N:=i+1+1) (st:=st0 l) (av:=upd av (i+1) .nils) (h:=u) (by omega) (st0 l u) a
      simp only [b1t] at this
      rw [this]
      refine b3p fun k hk=>⟨?_,rfl⟩
      by_cases e:k=u
      · subst e;rw [b0l]
      · rw [b0i e]
    have hK:=hM.kids u (by omega)
    generalize hav:upd av (i+1) .nils u=a at hK hgu
    generalize hks:upd (kd0 l i) (i+1) [] u=ks at hK hkd
    simp only [b1t] at hgu
    have hle2:(u:Int)<(i:Int)+1+1:=by omega
    have hkl:ks.length≤1048576:=by
      rw [← hks]
      by_cases e:u=i+1
      · rw [e,b0l];simp
      · rw [b0i e]
        simp only [kd0,List.length_map]
        have:=List.length_filter_le (fun k=>((l[k]?).map (fun x=>x.up==(u:Int))).getD false) (List.range i)
        simp only [List.length_range] at this
        omega
    rcases hK.inv with ⟨rfl,rfl⟩ | ⟨r,rfl,hr⟩ | rfl
    · refine ⟨(i+1,upd (upd av (i+1) .nils) u (.own true (rest.length+1+1) 1),rest++[.pcells 1 [[.int .i64 ((i:Int)+1)]]]), ?_,⟨by omega, ?_, ?_⟩,by simp only;omega⟩
      · have hsl:∀ o o':AObj,(rest++[o]).set rest.length o'=rest++[o']:=fun o o'=>by simp [List.set_append]
        simp only [newS,b0m]
        simp -implicitDefEqProofs (disch:=omega) only [Rx,simprocAttr,h0d,k1,hg,GRow.pv,b0b,hcl,hpush,len1,len2,hgu,hset,hu,hle2,hsl]
      · have:=hM.fresh (u:=u) (by omega) [(i:Int)+1]
        simp only [List.length_singleton,b0p,List.map_cons,List.map_nil] at this
        refine ⟨fun h hh => ?_,this.disj⟩
        have q:=this.kids h hh
        rw [← hkd h hh]
        simpa [hks] using q
      · intro h hh ks
        by_cases e:h=u
        · subst e;simp [upd]
        · simp only
          rw [b0i e]
          by_cases e':h=i+1
          · subst e';simp [upd]
          · rw [b0i e'];exact h3 h (by omega) ks
    · have hrl:r<rest.length:=(List.getElem?_eq_some_iff.1 hr).1
      refine ⟨(i+1,upd (upd av (i+1) .nils) u (.own true (r+1+1) (ks.length+1)),rest.set r (.pcells 1 (b0p ks++[[.int .i64 ((i:Int)+1)]]))), ?_,⟨by omega, ?_, ?_⟩,by simp only;omega⟩
      · simp only [newS,b0m]
        have il:=b3c ks
        simp -implicitDefEqProofs (disch:=omega) only [Rx,simprocAttr,h0d,k1,hg,GRow.pv,b0b,hcl,hpush,len1,len2,hgu,hset,hu,hle2,hr,il,List.length_append]
      · have:=hM.turn (u:=u) (r:=r) (by omega) (by rw [hav,hks]) hrl (ks++[(i:Int)+1])
        simp only [List.length_append,List.length_singleton, ← d8p] at this
        refine ⟨fun h hh => ?_,this.disj⟩
        have q:=this.kids h hh
        rw [← hkd h hh]
        exact q
      · intro h hh ks
        by_cases e:h=u
        · subst e;simp [upd]
        · simp only
          rw [b0i e]
          by_cases e':h=i+1
          · subst e';simp [upd]
          · rw [b0i e'];exact h3 h (by omega) ks
    · exfalso
      by_cases e:u=i+1
      · rw [e,b0l] at hav;cases hav
      · rw [b0i e] at hav;exact h3 u (by omega) _ hav
  · right
    obtain rfl:i=l.length:=by omega
    have k1:¬ (l.length:Int)<(l.length:Int):=by omega
    refine ⟨_, ?_, ?_,av,rest,rfl,h2,h3⟩
    · simp only [newS]
      simp -implicitDefEqProofs (disch:=omega) only [Rx,simprocAttr,h0d,k1]
    · simp
theorem h6b (l:List GRow) {m:Nat} (hl:Rows.mid m l) (hm:m≤1048577) (h:b4f l=0) {n:Nat} (hn:1048577<n) :
  ∃ av rest,b0g T (n+l.length+44) 15 [.p (.list (l.map GRow.pv))] []=some (.tuple [.ptr true 1 1 1 0 0,.p (.int .i64 0)],b0m (l.length+1) (st0 l) av rest)∧MOk (l.length+1) av (kd0 l l.length) rest∧∀ h,h<l.length+1→∀ ks,av h ≠ .p ks:=by
 have hlen:=hl.len
 have hfc:=c9n l hl hm hn []
 rw [h] at hfc
 have hs:b1k l l.length:=b9h (d1c h).1
 obtain ⟨r,hr,av,rest,rfl,hok,hpp⟩:=h1z (n:=n+l.length+42) (N:=n+l.length+43) l (by omega) (fun x hx=>by have:=(hl.row x hx).attrs;omega) hs (by omega)
 refine ⟨av,rest, ?_,hok,hpp⟩
 rw [b0a T15,b0e rfl rfl]
 have h0:b0x 1 (st0 l) (fun _=>AV.nils)=[b1t b6i .nils]:=rfl
 simp only [newS,b0m,Nat.zero_add,Int.natCast_zero,h0,b1t,b6i,List.map_nil] at hr ⊢
 simp -implicitDefEqProofs (disch:=omega) only [Rx,simprocAttr,F15,hfc,hr]
end Go.TA.Tryz


end
section
/- A script is run. -/
namespace Go.TA.Tryz
structure Mem (S:MS) (g:List AObj) (av:Nat→AV) (rest:List AObj):Prop where
 is:g=b0m S.N S.st av rest
 ok:MOk S.N av S.kd rest
end Go.TA.Tryz


end
