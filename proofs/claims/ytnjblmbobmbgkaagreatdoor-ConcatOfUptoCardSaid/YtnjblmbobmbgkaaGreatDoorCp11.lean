/- Part 11 of 15 of a proof; joined from CofFormed, CofNames02, CofCmp, CofAttrs09, CofAttrsP, CofAlone, CofTree, CofOpsUsed, CofOpsNone3, CofOpsNone5, CofOpsNone7, CofOpsNone, CofOpsSame, CofOps25, CofDoE, MS0, CofFew, CofFewR, CofSmallM, CofCountG. How many operations of a kind a list holds, by the program and by the document's answer. -/
import Derived.Test.YtnjblmbobmbgkaaGreatDoorCp1
import Derived.Test.YtnjblmbobmbgkaaGreatDoorCp10
import Derived.Test.YtnjblmbobmbgkaaGreatDoorCp6
import Derived.Test.YtnjblmbobmbgkaaGreatDoorCp7
set_option linter.unusedSimpArgs false
set_option linter.unusedVariables false
section
/- Rows that stand as a tree's do, and are not too deep: the program. -/
set_option maxRecDepth 100000
set_option maxHeartbeats 8000000
namespace Go.TA.Tryz
def stopAt (l:List GRow) (h:Nat) (u:Int):Int:=if aboveB l h u=true then u else 0
def formS (l:List GRow) (i:Nat) (x:GRow) (h:Int):St:=⟨[(0,.p (.list (l.map GRow.pv))),(3,.p (.int .i64 i)),(4,.ptr false 4 6 1 0 0),(5,.p (.int .i64 h)),(6,.p (.list (l.map GRow.pv))),(7,.p (.int .i64 l.length)),(8,.p (.int .i64 i))],[(4,.pcells 6 [x.pv])],[]⟩
theorem formP_inner {n N : Nat} (l : List GRow) (i : Nat) (x : GRow) (hs : standTo l i) (hi : i ≤ l.length) (hl : l.length ≤ 1048576) (hN : i < N) :
    aexec (acall T n) N (.loop B94x1) (formS l i x i)=some (.exit 2,formS l i x (stopAt l i x.up)):=by
  refine loop_rule' (C:=acall T n) (N:=N) (B:=B94x1) (σ := Nat) (S:=fun h=>formS l i x h) (I:=fun h=>h≤i) (μ := fun h=>h)
    (Φ := fun h=>(.exit 2,formS l i x (stopAt l h x.up))) ?_ i (Nat.le_refl _) hN
  intro h hh
  cases h with
  | zero =>
    refine .inr ⟨?_,by simp⟩
    have e:stopAt l 0 x.up=0:=by simp [stopAt,aboveB,chain_zero]
    rw [e]
    simp -implicitDefEqProofs (disch:=omega) only [Rx,simprocAttr,B94x1,formS,GRow.pv,Int.natCast_zero]
  | succ h =>
    obtain ⟨r,hr,hu⟩:=up_val hs hi (show h<i by omega)
    have hg:=getD_map (f:=GRow.pv) hr
    have k2:(h:Int)<(l.length:Int):=by omega
    have k0:((h:Int)+1==0)=false:=by simp;omega
    have hc:=chain_succ hs hi (show h<i by omega)
    cases he:((h:Int)+1==x.up) with
    | true =>
      have he':(h:Int)+1=x.up:=by simpa using he
      have e:stopAt l (h+1) x.up=(h:Int)+1:=by
        have:aboveB l (h+1) x.up=true:=by
          simp only [aboveB,hc,List.any_cons,Bool.or_eq_true,beq_iff_eq]
          left;push_cast;exact he'
        simp [stopAt,this,he']
      refine .inr ⟨?_,by simp⟩
      rw [e]
      simp -implicitDefEqProofs (disch:=omega) only [Rx,simprocAttr,B94x1,formS,GRow.pv,k0,he]
    | false =>
      have e:stopAt l (h+1) x.up=stopAt l (upAt l (h+1)) x.up:=by
        have:aboveB l (h+1) x.up=aboveB l (upAt l (h+1)) x.up:=by
          simp only [aboveB,hc,List.any_cons]
          have:(((h+1:Nat):Int)==x.up)=false:=by simpa using he
          rw [this,Bool.false_or]
        simp only [stopAt,this]
      have hle:=upAt_le hs (show h<i by omega) (by omega)
      refine .inl ⟨upAt l (h+1), ?_,by omega,by omega,by rw [e]⟩
      simp -implicitDefEqProofs (disch:=omega) only [Rx,simprocAttr,B94x1,formS,GRow.pv,k0,k2,he,hg,hu]
theorem formP_loop {n N : Nat} (l : List GRow) (hl : l.length ≤ 1048576) (hN : l.length < N) :
    aexec (acall T n) N (.loop B94x0) ⟨[(0,.p (.list (l.map GRow.pv))),(6,.p (.list (l.map GRow.pv))),(7,.p (.int .i64 l.length)),(8,.p (.int .i64 ((0:Nat):Int)))],[],[]⟩=some (formOut 2 (formedB l)):=by
  have:=loop_rule' (C:=acall T n) (N:=N) (B:=B94x0) (σ := Nat) (S:=fun i=>⟨[(0,.p (.list (l.map GRow.pv))),(6,.p (.list (l.map GRow.pv))),(7,.p (.int .i64 l.length)),(8,.p (.int .i64 i))],[],[]⟩) (I:=fun i=>i≤l.length∧standTo l i) (μ := fun i=>l.length - i)
    (Φ := fun i=>formOut 2 (formedFrom l i (l.drop i))) ?_ 0 ⟨by omega,standTo_zero l⟩ (by omega)
  · simpa [formedB] using this
  rintro i ⟨hi,hs⟩
  by_cases h:i<l.length
  · have k1:(i:Int)<(l.length:Int):=by omega
    obtain ⟨x,hx⟩:=get_some h
    have hg:=getD_map (f:=GRow.pv) hx
    have hd:l.drop i=x::l.drop (i+1):=by rw [List.drop_eq_getElem?_toList_append,hx];rfl
    rw [hd]
    have bad:rowOkB l i x=false→formOut 2 (formedFrom l i (x::l.drop (i+1)))=(.ret,⟨[(2,.p (.bool false))],[],[]⟩):=fun h=>by simp [formedFrom,h,formOut]
    have good:rowOkB l i x=true→formOut 2 (formedFrom l i (x::l.drop (i+1)))=formOut 2 (formedFrom l (i+1) (l.drop (i+1))):=fun h=>by simp [formedFrom,h]
    have hin:=formP_inner (n:=n) (N:=N) l i x hs hi hl (by omega)
    simp only [formS,GRow.pv] at hin
    cases hab:aboveB l i x.up with
    | true =>
      have hpos:=above_up hab
      have hi0:i≠0:=fun e=>by subst e;simp [aboveB,chain_zero] at hab
      have hr:rowOkB l i x=true:=by simp [rowOkB,hi0,hab];omega
      refine .inl ⟨i+1, ?_,⟨by omega,row_stands hs (by omega) hx hr⟩,by omega,good hr⟩
      simp only [stopAt,hab,if_true] at hin
      have k3:(x.up==0)=false:=by simp;omega
      have k4:((i:Int)==0)=false:=by simp;omega
      simp -implicitDefEqProofs (disch:=omega) only [Rx,simprocAttr,B94x0,k1,hg,GRow.pv,hin,k3,k4]
    | false =>
      simp only [stopAt,hab,Bool.false_eq_true,if_false] at hin
      by_cases hu:x.up=0
      · have k3:(0==x.up)=true:=by simp [hu]
        by_cases hi0:i=0
        · have hr:rowOkB l i x=true:=by simp [rowOkB,hi0,hu]
          refine .inl ⟨i+1, ?_,⟨by omega,row_stands hs (by omega) hx hr⟩,by omega,good hr⟩
          have k4:((i:Int)==0)=true:=by simp [hi0]
          simp -implicitDefEqProofs (disch:=omega) only [Rx,simprocAttr,B94x0,k1,hg,GRow.pv,hin,k3,k4]
        · have hr:rowOkB l i x=false:=by simp [rowOkB,hi0,hab]
          refine .inr ?_
          rw [bad hr]
          refine ⟨?_,by simp⟩
          have k4:((i:Int)==0)=false:=by simp;omega
          have k6:((true:Bool)==false)=false:=rfl
          simp -implicitDefEqProofs (disch:=omega) only [Rx,simprocAttr,B94x0,k1,hg,GRow.pv,hin,k3,k4,k6]
      · have k3:(0==x.up)=false:=by simp;omega
        have hr:rowOkB l i x=false:=by
          simp only [rowOkB,hab,Bool.and_false]
          split
          · simpa using hu
          · rfl
        refine .inr ?_
        rw [bad hr]
        refine ⟨?_,by simp⟩
        simp -implicitDefEqProofs (disch:=omega) only [Rx,simprocAttr,B94x0,k1,hg,GRow.pv,hin,k3]
  · have k1:¬ (i:Int)<(l.length:Int):=by omega
    have e:l.drop i=[]:=List.drop_eq_nil_of_le (by omega)
    refine .inr ⟨?_,by rw [e];simp [formedFrom,formOut]⟩
    rw [e]
    simp -implicitDefEqProofs (disch:=omega) only [Rx,simprocAttr,B94x0,k1,formedFrom,formOut]
theorem formP_run (l:List GRow) (hl:l.length≤1048576) (g:List AObj) {n:Nat} (hn:l.length<n):acall T (n+1) 94 [.p (.list (l.map GRow.pv))] g=some (.p (.bool (formedB l)),g):=by
  rw [acall_code T94,run_pure rfl rfl rfl]
  have hloop:=formP_loop (n:=n) (N:=n) l hl hn
  simp only [Int.natCast_zero] at hloop
  cases hb:formedB l with
  | true =>
    rw [hb] at hloop
    simp only [formOut,if_true] at hloop
    simp -implicitDefEqProofs (disch:=omega) only [Rx,simprocAttr,F94,hloop]
  | false =>
    rw [hb] at hloop
    simp only [formOut,Bool.false_eq_true,if_false] at hloop
    simp -implicitDefEqProofs (disch:=omega) only [Rx,simprocAttr,F94,hloop]
def depths (l:List GRow) (i:Nat):List (List PV):=(List.range (l.length+1)).map fun h=>[.int .i64 (if h≤i then ((chain l h).length:Int) else 0)]
theorem depths_len (l:List GRow) (i:Nat):(depths l i).length=l.length+1:=by simp [depths]
theorem depths_get (l:List GRow) {i h:Nat} (hh:h≤l.length):(depths l i).getD h []=[.int .i64 (if h≤i then ((chain l h).length:Int) else 0)]:=by
 rw [List.getD_eq_getElem?_getD,depths,List.getElem?_map,List.getElem?_range (by omega)]
 rfl
theorem depths_set (l:List GRow) {i:Nat} (hi:i<l.length):(depths l i).set (i+1) [.int .i64 ((chain l (i+1)).length:Int)]=depths l (i+1):=by
 apply List.ext_getElem
 ·simp [depths]
 ·intro k h1 h2
  rw [List.getElem_set]
  simp only [depths,List.getElem_map,List.getElem_range]
  by_cases e:i+1=k
  ·subst e;simp
  ·rw [if_neg e]
   have:(k≤i)↔(k≤i+1):=by omega
   simp only [this]
theorem depths_zero (l:List GRow):List.replicate (l.length+1) [PV.int .i64 0]=depths l 0:=by
 apply List.ext_getElem
 ·simp [depths]
 ·intro k h1 h2
  simp only [List.getElem_replicate,depths,List.getElem_map,List.getElem_range]
  by_cases e:k≤0
  ·obtain rfl:k=0:=by omega
   simp [chain_zero]
  ·simp [e]
def shallow (l:List GRow):Prop:=∀ i,i<l.length→(chain l (i+1)).length≤64
end Go.TA.Tryz


end
section
/- Tags and names: what the document's answer says of them. -/
set_option maxRecDepth 100000
set_option maxHeartbeats 1000000
namespace Go.TA.Tryz
theorem inner_run (c : UInt8) (more : Bool) (g : List AObj) (n : Nat) : acall T (n + 1) 99 [.p (.int .u8 c.toNat), .p (.bool more)] g = some (.p (.bool (innerB more c)), g) := by
  rw [acall_code T99,run_pure rfl rfl rfl]
  by_cases h5:(c.toNat:Int)=45
  · simp -implicitDefEqProofs (disch:=omega) only [Rx,simprocAttr,F99,innerB,smallB,digitB,h5]
  have e5:((c.toNat:Int)==45)=false:=by simpa using h5
  by_cases h1:(97:Int)≤c.toNat
  · by_cases h2:(c.toNat:Int)≤122
    · simp -implicitDefEqProofs (disch:=omega) only [Rx,simprocAttr,F99,innerB,smallB,digitB,h1,h2]
    · have h3:(48:Int)≤c.toNat:=by omega
      have h4:¬ (c.toNat:Int)≤57:=by omega
      have e6:((c.toNat:Int)==58)=false:=by simp;omega
      have e7:((c.toNat:Int)==46)=false:=by simp;omega
      cases more
      · simp -implicitDefEqProofs (disch:=omega) only [Rx,simprocAttr,F99,innerB,smallB,digitB,h1,h2,h3,h4,e5,e6,e7]
      · simp -implicitDefEqProofs (disch:=omega) only [Rx,simprocAttr,F99,innerB,smallB,digitB,h1,h2,h3,h4,e5,e6,e7]
  · by_cases h3:(48:Int)≤c.toNat
    · by_cases h4:(c.toNat:Int)≤57
      · simp -implicitDefEqProofs (disch:=omega) only [Rx,simprocAttr,F99,innerB,smallB,digitB,h1,h3,h4]
      · have e7:((c.toNat:Int)==46)=false:=by simp;omega
        cases more
        · simp -implicitDefEqProofs (disch:=omega) only [Rx,simprocAttr,F99,innerB,smallB,digitB,h1,h3,h4,e5,e7]
        · by_cases h6:(c.toNat:Int)=58
          · simp -implicitDefEqProofs (disch:=omega) only [Rx,simprocAttr,F99,innerB,smallB,digitB,h6]
          · have e6:((c.toNat:Int)==58)=false:=by simpa using h6
            simp -implicitDefEqProofs (disch:=omega) only [Rx,simprocAttr,F99,innerB,smallB,digitB,h1,h3,h4,e5,e6,e7]
    · have e6:((c.toNat:Int)==58)=false:=by simp;omega
      cases more
      · simp -implicitDefEqProofs (disch:=omega) only [Rx,simprocAttr,F99,innerB,smallB,digitB,h1,h3,e5,e6]
      · by_cases h7:(c.toNat:Int)=46
        · simp -implicitDefEqProofs (disch:=omega) only [Rx,simprocAttr,F99,innerB,smallB,digitB,h7]
        · have e7:((c.toNat:Int)==46)=false:=by simpa using h7
          simp -implicitDefEqProofs (disch:=omega) only [Rx,simprocAttr,F99,innerB,smallB,digitB,h1,h3,e5,e6,e7]
theorem named02_loop {n N:Nat} (s:Bs) (more:Bool) (hs:s.length≤32) (hN:32<N) (i:Nat) (hi:i≤s.length) :
    aexec (acall T (n+1)) N (.loop B63x0) ⟨[(0,.p (.str s)),(1,.p (.bool more)),(5,.p (.int .i64 i))],[],[]⟩=some (outB ((s.drop i).all (innerB more))):=by
  refine loop_rule' (σ := Nat) (S:=fun i=>⟨[(0,.p (.str s)),(1,.p (.bool more)),(5,.p (.int .i64 i))],[],[]⟩) (I:=fun i=>i≤s.length) (μ := fun i=>s.length - i)
    (Φ := fun i=>outB ((s.drop i).all (innerB more))) ?_ i hi (by omega)
  intro i hi
  by_cases h:i<s.length
  · obtain ⟨c,hc⟩:=get_some h
    have hg:=getD_get hc
    have k1:(i:Int)<(s.length:Int):=by omega
    rw [drop_cons hc]
    cases hb:innerB more c with
    | true =>
      refine .inl ⟨i+1, ?_,by omega,by omega,by simp [hb]⟩
      simp -implicitDefEqProofs (disch:=omega) only [Rx,simprocAttr,B63x0,k1,hg,inner_run,hb]
    | false =>
      refine .inr ⟨?_,by simp [hb,outB]⟩
      have eF:outB ((c::s.drop (i+1)).all (innerB more))=(.ret,⟨[(4,.p (.bool false))],[],[]⟩):=by simp [outB,hb]
      rw [eF]
      simp -implicitDefEqProofs (disch:=omega) only [Rx,simprocAttr,B63x0,k1,hg,inner_run,hb]
  · refine .inr ⟨?_,by rw [List.drop_eq_nil_of_le (by omega)];simp [outB]⟩
    have k1:¬ (i:Int)<(s.length:Int):=by omega
    rw [List.drop_eq_nil_of_le (by omega)]
    simp -implicitDefEqProofs (disch:=omega) only [Rx,simprocAttr,B63x0,k1,outB]
theorem named02_run (s : Bs) (more : Bool) (g : List AObj) (n : Nat) : acall T (n + 35) 63 [.p (.str s), .p (.bool more)] g = some (.p (.bool (namedB more s)), g) := by
  rw [acall_code T63,run_pure rfl rfl rfl]
  cases s with
  | nil=>simp -implicitDefEqProofs (disch:=omega) only [Rx,simprocAttr,F63,namedB,Int.natCast_zero]
  | cons c r =>
    have k0:¬ ((r.length:Int)+1<1):=by omega
    by_cases h32:(c::r).length≤32
    · have k1:¬ (32<(r.length:Int)+1):=by simp at h32;omega
      have hl:=named02_loop (n:=n+33) (N:=n+34) (c::r) more h32 (by omega) 1 (by simp)
      simp only [Int.natCast_one] at hl
      by_cases h1:(97:Int)≤c.toNat
      · by_cases h2:(c.toNat:Int)≤122
        · have h1':¬ ((c.toNat:Int)<97):=by omega
          have h2':¬ (122<(c.toNat:Int)):=by omega
          have e:namedB more (c::r)=r.all (innerB more):=by simp [namedB,smallB,h1,h2];simp at h32;omega
          rw [e]
          cases hb:r.all (innerB more) with
          | true =>
            have hl':outB (((c::r).drop 1).all (innerB more))=(.exit 0,⟨[],[],[]⟩):=by simp [outB,hb]
            rw [hl'] at hl
            simp -implicitDefEqProofs (disch:=omega) only [Rx,simprocAttr,F63,k0,k1,h1',h2',hl]
          | false =>
            have hl':outB (((c::r).drop 1).all (innerB more))=(.ret,⟨[(4,.p (.bool false))],[],[]⟩):=by simp [outB,hb]
            rw [hl'] at hl
            simp -implicitDefEqProofs (disch:=omega) only [Rx,simprocAttr,F63,k0,k1,h1',h2',hl]
        · have h1':¬ ((c.toNat:Int)<97):=by omega
          have h2':122<(c.toNat:Int):=by omega
          have e:namedB more (c::r)=false:=by simp [namedB,smallB,h2]
          rw [e]
          simp -implicitDefEqProofs (disch:=omega) only [Rx,simprocAttr,F63,k0,k1,h1',h2']
      · have h1':(c.toNat:Int)<97:=by omega
        have e:namedB more (c::r)=false:=by simp [namedB,smallB,h1]
        rw [e]
        simp -implicitDefEqProofs (disch:=omega) only [Rx,simprocAttr,F63,k0,k1,h1']
    · have k1:32<(r.length:Int)+1:=by simp at h32;omega
      have e:namedB more (c::r)=false:=by simp [namedB];simp at h32;omega
      rw [e]
      simp -implicitDefEqProofs (disch:=omega) only [Rx,simprocAttr,F63,k0,k1]
end Go.TA.Tryz


end
section
/- Which text is ahead. -/
set_option maxRecDepth 100000
set_option maxHeartbeats 1000000
namespace Go.TA.Tryz
def cmpB:Bs→Bs→Int
 | [],[]=>0
 | [],_::_ => -1
 | _::_,[]=>1
 | a::x,b::y=>if (a.toNat:Int)<b.toNat then -1 else if (b.toNat:Int)<a.toNat then 1 else cmpB x y
theorem cmpB_less : ∀ {x y : Bs}, x ≠ y → (0 < cmpB x y ↔ (strLess x y || x == y) = false)
  | [],[],h=>absurd rfl h
  | [],b::y,h=>by simp [cmpB,strLess]
  | a::x,[],h=>by simp [cmpB,strLess]
  | a :: x, b :: y, h => by
    have e1:(a<b)=((a.toNat:Int)<b.toNat):=by rw [UInt8.lt_iff_toNat_lt];simp
    simp only [cmpB,strLess]
    by_cases h1:(a.toNat:Int)<b.toNat
    · simp [h1,e1]
    · by_cases h2:(b.toNat:Int)<a.toNat
      · have hne:a≠b:=fun e=>by subst e;omega
        have hne':¬ (a::x=b::y):=fun e=>hne (by injection e)
        simp [h1,h2,e1,hne]
      · have he:a=b:=UInt8.toNat_inj.1 (by omega)
        subst he
        have hxy:x≠y:=fun e=>h (by rw [e])
        have:=cmpB_less hxy
        simp only [h1,if_false,this,e1]
        simp [h1]
def cmpOut (a b:Bs) (r:Int):Ex × St:=if r = -1 then (.ret,⟨[(4,.p (.int .i64 (-1)))],[],[]⟩) else if r=1 then (.ret,⟨[(4,.p (.int .i64 1))],[],[]⟩) else (.exit 0,⟨[(0,.p (.str a)),(1,.p (.str b))],[],[]⟩)
def part:Bs→Bs→Int
 | a::x,b::y=>if (a.toNat:Int)<b.toNat then -1 else if (b.toNat:Int)<a.toNat then 1 else part x y
 | _,_=>0
theorem cmp_part:∀ (x y:Bs),cmpB x y=if part x y=0 then (if x.length<y.length then -1 else if y.length<x.length then 1 else 0) else part x y
  | [],[]=>by simp [cmpB,part]
  | [],_::_=>by simp [cmpB,part]
  | _::_,[]=>by simp [cmpB,part]
  | a :: x, b :: y => by
    simp only [cmpB,part,cmp_part x y,List.length_cons]
    split
    · simp
    · split
      · simp
      · simp
theorem cmp_loop {n N : Nat} (a b : Bs) (hN : b.length < N) (hb : b.length ≤ 1048577) :
    aexec (acall T n) N (.loop B100x0) ⟨[(0,.p (.str a)),(1,.p (.str b)),(5,.p (.int .i64 ((0:Nat):Int)))],[],[]⟩=some (cmpOut a b (part a b)):=by
  refine loop_rule' (C:=acall T n) (N:=N) (B:=B100x0) (σ := Nat) (S:=fun i=>⟨[(0,.p (.str a)),(1,.p (.str b)),(5,.p (.int .i64 i))],[],[]⟩) (I:=fun i=>i≤a.length∧i≤b.length) (μ := fun i=>b.length - i)
    (Φ := fun i=>cmpOut a b (part (a.drop i) (b.drop i))) ?_ 0 ⟨by omega,by omega⟩ (by omega)
  rintro i ⟨hia,hib⟩
  by_cases h:i<a.length
  · have k1:(i:Int)<(a.length:Int):=by omega
    obtain ⟨x,hx⟩:=get_some h
    have gx:=getD_get hx
    by_cases h':i<b.length
    · have k2:(i:Int)<(b.length:Int):=by omega
      obtain ⟨y,hy⟩:=get_some h'
      have gy:=getD_get hy
      rw [drop_cons hx,drop_cons hy]
      by_cases c1:(x.toNat:Int)<y.toNat
      · refine .inr ⟨?_,by simp [part,c1,cmpOut]⟩
        have e:part (x::a.drop (i+1)) (y::b.drop (i+1)) = -1:=by simp [part,c1]
        rw [e]
        simp -implicitDefEqProofs (disch:=omega) only [Rx,simprocAttr,B100x0,k1,k2,gx,gy,c1,cmpOut]
      · by_cases c2:(y.toNat:Int)<x.toNat
        · refine .inr ⟨?_,by simp [part,c1,c2,cmpOut]⟩
          have e:part (x::a.drop (i+1)) (y::b.drop (i+1))=1:=by simp [part,c1,c2]
          rw [e]
          simp -implicitDefEqProofs (disch:=omega) only [Rx,simprocAttr,B100x0,k1,k2,gx,gy,c1,c2,cmpOut]
        · refine .inl ⟨i+1, ?_,⟨by omega,by omega⟩,by omega,by simp [part,c1,c2]⟩
          simp -implicitDefEqProofs (disch:=omega) only [Rx,simprocAttr,B100x0,k1,k2,gx,gy,c1,c2]
    · have k2:¬ (i:Int)<(b.length:Int):=by omega
      have e:part (a.drop i) (b.drop i)=0:=by rw [drop_cons hx,List.drop_eq_nil_of_le (by omega:b.length≤i)];rfl
      refine .inr ⟨?_,by rw [e];simp [cmpOut]⟩
      rw [e]
      simp -implicitDefEqProofs (disch:=omega) only [Rx,simprocAttr,B100x0,k1,k2,cmpOut]
  · have k1:¬ (i:Int)<(a.length:Int):=by omega
    have e:part (a.drop i) (b.drop i)=0:=by rw [List.drop_eq_nil_of_le (by omega:a.length≤i)];rfl
    refine .inr ⟨?_,by rw [e];simp [cmpOut]⟩
    rw [e]
    simp -implicitDefEqProofs (disch:=omega) only [Rx,simprocAttr,B100x0,k1,cmpOut]
theorem part_cases:∀ (x y:Bs),part x y = -1∨part x y=1∨part x y=0
  | [],[]=>by simp [part]
  | [],_::_=>by simp [part]
  | _::_,[]=>by simp [part]
  | a :: x, b :: y => by
    simp only [part]
    split
    · simp
    · split
      · simp
      · exact part_cases x y
theorem cmp_run (a b : Bs) (g : List AObj) {n : Nat} (ha : b.length < n) (hb : b.length ≤ 1048577) : acall T (n + 1) 100 [.p (.str a), .p (.str b)] g = some (.p (.int .i64 (cmpB a b)), g) := by
  rw [acall_code T100,run_pure rfl rfl rfl,cmp_part]
  have hl:=cmp_loop (n:=n) (N:=n) a b ha hb
  simp only [Int.natCast_zero] at hl
  rcases part_cases a b with h | h | h
  · rw [h] at hl ⊢
    simp only [cmpOut] at hl
    simp -implicitDefEqProofs (disch:=omega) only [Rx,simprocAttr,F100,hl]
  · rw [h] at hl ⊢
    simp only [cmpOut] at hl
    simp -implicitDefEqProofs (disch:=omega) only [Rx,simprocAttr,F100,hl]
  · rw [h] at hl ⊢
    simp only [cmpOut] at hl
    by_cases c1:a.length<b.length
    · have k1:(a.length:Int)<(b.length:Int):=by omega
      simp -implicitDefEqProofs (disch:=omega) only [Rx,simprocAttr,F100,hl,k1,c1]
    · have k1:¬ (a.length:Int)<(b.length:Int):=by omega
      by_cases c2:b.length<a.length
      · have k2:(b.length:Int)<(a.length:Int):=by omega
        simp -implicitDefEqProofs (disch:=omega) only [Rx,simprocAttr,F100,hl,k1,c1,k2,c2]
      · have k2:¬ (b.length:Int)<(a.length:Int):=by omega
        simp -implicitDefEqProofs (disch:=omega) only [Rx,simprocAttr,F100,hl,k1,c1,k2,c2]
end Go.TA.Tryz


end
section
/- What is wrong with attributes: the document's answer. -/
set_option maxRecDepth 100000
set_option maxHeartbeats 8000000
namespace Go.TA.Tryz
def attrErr (p : List Attr) (i : Nat) (a : Attr) : Int :=
  if i=64 then 12 else if namedB true a.name=false then 8 else if 65536<(a.value.length:Int) then 3 else match p with
    | []=>0
    | b::_=>if b.name=a.name then 10 else if 0<cmpB b.name a.name then 9 else 0
def attrsChk:List Attr→Nat→List Attr→Int × Int
 | _,_,[]=>(0,0)
 | p,i,a::l=>if attrErr p i a=0 then attrsChk [a] (i+1) l else (i,attrErr p i a)
def attrsErr (l:List Attr):Int:=(attrsChk [] 0 l).2
def prevOf (l:List Attr):Nat→List Attr
 | 0=>[]
 | i+1=>(l[i]?).toList
def chkOut (r:Int × Int):Ex × St:=if r.2=0 then (.exit 0,⟨[],[],[]⟩) else (.ret,⟨[(2,.p (.int .i64 r.1)),(3,.p (.int .i64 r.2))],[],[]⟩)
theorem chk_step {l:List Attr} {i:Nat} {a:Attr} (h:l[i]? = some a):attrsChk (prevOf l i) i (l.drop i)=if attrErr (prevOf l i) i a=0 then attrsChk (prevOf l (i+1)) (i+1) (l.drop (i+1)) else ((i:Int),attrErr (prevOf l i) i a):=by
 have e:prevOf l (i+1)=[a]:=by simp [prevOf,h]
 rw [drop_cons h,e]
 simp only [attrsChk]
theorem a09_loop {n N : Nat} (l : List Attr) (hs : smallAttrs l) (hN : l.length < N) (hn : 1048576 < n) :
    aexec (acall T (n+35)) N (.loop B64x0) ⟨[(0,.p (.list (l.map Attr.pv))),(6,.p (.int .i64 l.length)),(7,.p (.int .i64 ((0:Nat):Int)))],[],[]⟩=some (chkOut (attrsChk [] 0 l)):=by
  refine loop_rule' (C:=acall T (n+35)) (N:=N) (B:=B64x0) (σ := Nat) (S:=fun i=>⟨[(0,.p (.list (l.map Attr.pv))),(6,.p (.int .i64 l.length)),(7,.p (.int .i64 i))],[],[]⟩) (I:=fun i=>i≤l.length∧i≤64) (μ := fun i=>l.length - i)
    (Φ := fun i=>chkOut (attrsChk (prevOf l i) i (l.drop i))) ?_ 0 ⟨by omega,by omega⟩ (by omega)
  rintro i ⟨hi,hi64⟩
  by_cases h:i<l.length
  · have k1:(i:Int)<(l.length:Int):=by omega
    obtain ⟨a,ha⟩:=get_some h
    have ga:=getD_map (f:=Attr.pv) ha
    have hsa:=hs a (List.mem_of_getElem? ha)
    rw [chk_step ha]
    have bad:∀ e:Int,attrErr (prevOf l i) i a=e→e≠0→aexec (acall T (n+35)) N B64x0 ⟨[(0,.p (.list (l.map Attr.pv))),(6,.p (.int .i64 l.length)),(7,.p (.int .i64 i))],[],[]⟩=some (.ret,⟨[(2,.p (.int .i64 i)),(3,.p (.int .i64 e))],[],[]⟩) →
        (∃ s',aexec (acall T (n+35)) N B64x0 ⟨[(0,.p (.list (l.map Attr.pv))),(6,.p (.int .i64 l.length)),(7,.p (.int .i64 i))],[],[]⟩=some (.normal,(fun (i:Nat)=>(⟨[(0,.p (.list (l.map Attr.pv))),(6,.p (.int .i64 l.length)),(7,.p (.int .i64 i))],[],[]⟩:St)) s')∧(s'≤l.length∧s'≤64)∧l.length - s'<l.length - i∧chkOut (if attrErr (prevOf l i) i a=0 then attrsChk (prevOf l (i+1)) (i+1) (l.drop (i+1)) else ((i:Int),attrErr (prevOf l i) i a))=chkOut (attrsChk (prevOf l s') s' (l.drop s'))) ∨
        (aexec (acall T (n+35)) N B64x0 ⟨[(0,.p (.list (l.map Attr.pv))),(6,.p (.int .i64 l.length)),(7,.p (.int .i64 i))],[],[]⟩=some (chkOut (if attrErr (prevOf l i) i a=0 then attrsChk (prevOf l (i+1)) (i+1) (l.drop (i+1)) else ((i:Int),attrErr (prevOf l i) i a)))∧(chkOut (if attrErr (prevOf l i) i a=0 then attrsChk (prevOf l (i+1)) (i+1) (l.drop (i+1)) else ((i:Int),attrErr (prevOf l i) i a))).1 ≠ .normal):=fun e he h0 hr=>by
      refine .inr ?_
      rw [he,if_neg h0]
      simp only [chkOut,h0,if_false]
      exact ⟨hr,by simp⟩
    by_cases h64:i=64
    · refine bad 12 (by simp [attrErr,h64]) (by decide) ?_
      have k2:((i:Int)==64)=true:=by simp;omega
      simp -implicitDefEqProofs (disch:=omega) only [Rx,simprocAttr,B64x0,k1,k2]
    have k2:((i:Int)==64)=false:=by simp;omega
    cases hnm:namedB true a.name with
    | false =>
      refine bad 8 (by simp [attrErr,h64,hnm]) (by decide) ?_
      simp -implicitDefEqProofs (disch:=omega) only [Rx,simprocAttr,B64x0,k1,k2,ga,Attr.pv,named02_run,hnm]
    | true=>
    by_cases hlong:65536<(a.value.length:Int)
    · refine bad 3 (by simp [attrErr,h64,hnm,hlong]) (by decide) ?_
      simp -implicitDefEqProofs (disch:=omega) only [Rx,simprocAttr,B64x0,k1,k2,ga,Attr.pv,named02_run,hnm,hlong]
    cases i with
    | zero =>
      have e:attrErr (prevOf l 0) 0 a=0:=by simp [attrErr,hnm,hlong,prevOf]
      rw [e,if_pos rfl]
      refine .inl ⟨1, ?_,⟨by omega,by omega⟩,by omega,rfl⟩
      simp only [Int.natCast_zero,Int.natCast_one] at k1 k2 ⊢
      have k3:(0:Int)<(l.length:Int):=k1
      have ga0:(l.map Attr.pv).getD 0 []=Attr.pv a:=ga
      have e0:Int.toNat 0=0:=rfl
      simp -implicitDefEqProofs (disch:=omega) only [Rx,simprocAttr,B64x0,k3,ga0,e0,Attr.pv,named02_run,hnm,hlong]
    | succ j =>
      obtain ⟨b,hb⟩:=get_some (show j<l.length by omega)
      have gb:=getD_map (f:=Attr.pv) hb
      have hsb:=hs b (List.mem_of_getElem? hb)
      have ep:prevOf l (j+1)=[b]:=by simp [prevOf,hb]
      have k3:(0:Int)<(j:Int)+1:=by omega
      have k4:(j:Int)<(l.length:Int):=by omega
      simp only [Int.natCast_add,Int.natCast_one] at k1 k2
      have k5:((j:Int)+1).toNat=j+1:=by omega
      have hc:=fun g=>cmp_run (n:=n+34) b.name a.name g (by omega) (by omega)
      by_cases heq:b.name=a.name
      · refine bad 10 (by simp [attrErr,h64,hnm,hlong,ep,heq]) (by decide) ?_
        have heq':(b.name==a.name)=true:=by simpa using heq
        simp -implicitDefEqProofs (disch:=omega) only [Rx,simprocAttr,B64x0,k1,k2,k3,k4,k5,ga,gb,Attr.pv,named02_run,hnm,hlong,heq']
      · have heq':(b.name==a.name)=false:=by simpa using heq
        by_cases hgt:0<cmpB b.name a.name
        · refine bad 9 (by simp [attrErr,h64,hnm,hlong,ep,heq,hgt]) (by decide) ?_
          simp -implicitDefEqProofs (disch:=omega) only [Rx,simprocAttr,B64x0,k1,k2,k3,k4,k5,ga,gb,Attr.pv,named02_run,hnm,hlong,heq',hc,hgt]
        · have e:attrErr (prevOf l (j+1)) (j+1) a=0:=by simp [attrErr,h64,hnm,hlong,ep,heq,hgt]
          rw [e,if_pos rfl]
          refine .inl ⟨j+1+1, ?_,⟨by omega,by omega⟩,by omega,rfl⟩
          simp -implicitDefEqProofs (disch:=omega) only [Rx,simprocAttr,B64x0,k1,k2,k3,k4,k5,ga,gb,Attr.pv,named02_run,hnm,hlong,heq',hc,hgt]
  · have k1:¬ (i:Int)<(l.length:Int):=by omega
    have e:l.drop i=[]:=List.drop_eq_nil_of_le (by omega)
    refine .inr ⟨?_,by rw [e];simp [attrsChk,chkOut]⟩
    rw [e]
    simp -implicitDefEqProofs (disch:=omega) only [Rx,simprocAttr,B64x0,k1,attrsChk,chkOut]
theorem a09_run (l : List Attr) (hs : smallAttrs l) (g : List AObj) {n : Nat} (hl : l.length < n + 35) (hn : 1048576 < n) : acall T (n + 36) 64 [.p (.list (l.map Attr.pv))] g = some (.tuple [.p (.int .i64 (attrsChk [] 0 l).1), .p (.int .i64 (attrsErr l))], g) := by
  rw [acall_code T64,run_pure rfl rfl rfl]
  have hloop:=a09_loop (n:=n) (N:=n+35) l hs hl hn
  simp only [Int.natCast_zero] at hloop
  unfold attrsErr
  have h1:(attrsChk [] 0 l).2=0→(attrsChk [] 0 l).1=0:=by
    have key:∀ (p:List Attr) (i:Nat) (l:List Attr),(attrsChk p i l).2=0→(attrsChk p i l).1=0:=by
      intro p i l
      induction l generalizing p i with
      | nil=>simp [attrsChk]
      | cons a l ih =>
        simp only [attrsChk]
        split
        · exact ih _ _
        · rename_i h;intro h';exact absurd h' h
    exact key [] 0 l
  generalize attrsChk [] 0 l=r at hloop h1
  obtain ⟨x,e⟩:=r
  simp only [chkOut] at hloop h1 ⊢
  by_cases h:e=0
  · rw [if_pos h] at hloop
    rw [h1 h,h]
    simp -implicitDefEqProofs (disch:=omega) only [Rx,simprocAttr,F64,hloop]
  · rw [if_neg h] at hloop
    simp -implicitDefEqProofs (disch:=omega) only [Rx,simprocAttr,F64,hloop]
end Go.TA.Tryz


end
section
/- What is wrong with attributes: the program. -/
set_option maxRecDepth 100000
set_option maxHeartbeats 8000000
namespace Go.TA.Tryz
theorem ap_loop {n N : Nat} (l : List Attr) (hN : l.length < N) :
    aexec (acall T (n+36)) N (.loop B71x0) ⟨[(0,.p (.list (l.map Attr.pv))),(7,.p (.list (l.map Attr.pv))),(8,.p (.int .i64 l.length)),(9,.p (.int .i64 ((0:Nat):Int)))],[],[]⟩=some (chkOut (attrsChk [] 0 l)):=by
  refine loop_rule' (C:=acall T (n+36)) (N:=N) (B:=B71x0) (σ := Nat) (S:=fun i=>⟨[(0,.p (.list (l.map Attr.pv))),(7,.p (.list (l.map Attr.pv))),(8,.p (.int .i64 l.length)),(9,.p (.int .i64 i))],[],[]⟩) (I:=fun i=>i≤l.length∧i≤64) (μ := fun i=>l.length - i)
    (Φ := fun i=>chkOut (attrsChk (prevOf l i) i (l.drop i))) ?_ 0 ⟨by omega,by omega⟩ (by omega)
  rintro i ⟨hi,hi64⟩
  by_cases h:i<l.length
  · have k1 : (i : Int) < (l.length : Int) := by omega
    obtain ⟨a,ha⟩:=get_some h
    have ga:=getD_map (f:=Attr.pv) ha
    rw [chk_step ha]
    have bad:∀ e:Int,attrErr (prevOf l i) i a=e→e≠0→aexec (acall T (n+36)) N B71x0 ⟨[(0,.p (.list (l.map Attr.pv))),(7,.p (.list (l.map Attr.pv))),(8,.p (.int .i64 l.length)),(9,.p (.int .i64 i))],[],[]⟩=some (.ret,⟨[(2,.p (.int .i64 i)),(3,.p (.int .i64 e))],[],[]⟩) →
        (∃ s',aexec (acall T (n+36)) N B71x0 ⟨[(0,.p (.list (l.map Attr.pv))),(7,.p (.list (l.map Attr.pv))),(8,.p (.int .i64 l.length)),(9,.p (.int .i64 i))],[],[]⟩=some (.normal,(fun (i:Nat)=>(⟨[(0,.p (.list (l.map Attr.pv))),(7,.p (.list (l.map Attr.pv))),(8,.p (.int .i64 l.length)),(9,.p (.int .i64 i))],[],[]⟩:St)) s')∧(s'≤l.length∧s'≤64)∧l.length - s'<l.length - i∧chkOut (if attrErr (prevOf l i) i a=0 then attrsChk (prevOf l (i+1)) (i+1) (l.drop (i+1)) else ((i:Int),attrErr (prevOf l i) i a))=chkOut (attrsChk (prevOf l s') s' (l.drop s'))) ∨
        (aexec (acall T (n+36)) N B71x0 ⟨[(0,.p (.list (l.map Attr.pv))),(7,.p (.list (l.map Attr.pv))),(8,.p (.int .i64 l.length)),(9,.p (.int .i64 i))],[],[]⟩=some (chkOut (if attrErr (prevOf l i) i a=0 then attrsChk (prevOf l (i+1)) (i+1) (l.drop (i+1)) else ((i:Int),attrErr (prevOf l i) i a)))∧(chkOut (if attrErr (prevOf l i) i a=0 then attrsChk (prevOf l (i+1)) (i+1) (l.drop (i+1)) else ((i:Int),attrErr (prevOf l i) i a))).1 ≠ .normal):=fun e he h0 hr=>by
      refine .inr ?_
      rw [he,if_neg h0]
      simp only [chkOut,h0,if_false]
      exact ⟨hr,by simp⟩
    by_cases h64:i=64
    · refine bad 12 (by simp [attrErr,h64]) (by decide) ?_
      have k2:((i:Int)==64)=true:=by simp;omega
      simp -implicitDefEqProofs (disch:=omega) only [Rx,simprocAttr,B71x0,k1,k2,ga,Attr.pv]
    have k2:((i:Int)==64)=false:=by simp;omega
    cases hnm:namedB true a.name with
    | false =>
      refine bad 8 (by simp [attrErr,h64,hnm]) (by decide) ?_
      simp -implicitDefEqProofs (disch:=omega) only [Rx,simprocAttr,B71x0,k1,k2,ga,Attr.pv,name_run,hnm]
    | true=>
    by_cases hlong:(a.value.length:Int)≤65536
    rotate_left
    · refine bad 3 (by simp [attrErr,h64,hnm];omega) (by decide) ?_
      simp -implicitDefEqProofs (disch:=omega) only [Rx,simprocAttr,B71x0,k1,k2,ga,Attr.pv,name_run,hnm,fits_run,hlong]
    have hlong':¬ (65536<(a.value.length:Int)):=by omega
    cases i with
    | zero =>
      have e:attrErr (prevOf l 0) 0 a=0:=by simp [attrErr,hnm,hlong',prevOf]
      rw [e,if_pos rfl]
      refine .inl ⟨1, ?_,⟨by omega,by omega⟩,by omega,rfl⟩
      simp only [Int.natCast_zero,Int.natCast_one] at k1 k2 ⊢
      have k3:(0:Int)<(l.length:Int):=k1
      have ga0:(l.map Attr.pv).getD 0 []=Attr.pv a:=ga
      have e0:Int.toNat 0=0:=rfl
      simp -implicitDefEqProofs (disch:=omega) only [Rx,simprocAttr,B71x0,k3,ga0,e0,Attr.pv,name_run,hnm,fits_run,hlong]
    | succ j =>
      obtain ⟨b,hb⟩:=get_some (show j<l.length by omega)
      have gb:=getD_map (f:=Attr.pv) hb
      have ep:prevOf l (j+1)=[b]:=by simp [prevOf,hb]
      have k3:(0:Int)<(j:Int)+1:=by omega
      have k4:(j:Int)<(l.length:Int):=by omega
      simp only [Int.natCast_add,Int.natCast_one] at k1 k2
      have k5:((j:Int)+1).toNat=j+1:=by omega
      by_cases heq:b.name=a.name
      · refine bad 10 (by simp [attrErr,h64,hnm,hlong',ep,heq]) (by decide) ?_
        have heq':(b.name==a.name)=true:=by simpa using heq
        simp -implicitDefEqProofs (disch:=omega) only [Rx,simprocAttr,B71x0,k1,k2,k3,k4,k5,ga,gb,Attr.pv,name_run,hnm,fits_run,hlong,heq']
      · have heq':(b.name==a.name)=false:=by simpa using heq
        have hcmp:=cmpB_less heq
        by_cases hgt:0<cmpB b.name a.name
        · refine bad 9 (by simp [attrErr,h64,hnm,hlong',ep,heq,hgt]) (by decide) ?_
          have hl:strLess b.name a.name=false:=by have:=hcmp.1 hgt;rw [heq',Bool.or_false] at this;exact this
          simp -implicitDefEqProofs (disch:=omega) only [Rx,simprocAttr,B71x0,k1,k2,k3,k4,k5,ga,gb,Attr.pv,name_run,hnm,fits_run,hlong,heq',binS,hl]
        · have e:attrErr (prevOf l (j+1)) (j+1) a=0:=by simp [attrErr,h64,hnm,hlong',ep,heq,hgt]
          have hl:strLess b.name a.name=true:=by
            cases h:strLess b.name a.name
            · exact absurd (hcmp.2 (by rw [h,heq'];rfl)) hgt
            · rfl
          rw [e,if_pos rfl]
          refine .inl ⟨j+1+1, ?_,⟨by omega,by omega⟩,by omega,rfl⟩
          simp -implicitDefEqProofs (disch:=omega) only [Rx,simprocAttr,B71x0,k1,k2,k3,k4,k5,ga,gb,Attr.pv,name_run,hnm,fits_run,hlong,heq',binS,hl]
  · have k1:¬ (i:Int)<(l.length:Int):=by omega
    have e:l.drop i=[]:=List.drop_eq_nil_of_le (by omega)
    refine .inr ⟨?_,by rw [e];simp [attrsChk,chkOut]⟩
    rw [e]
    simp -implicitDefEqProofs (disch:=omega) only [Rx,simprocAttr,B71x0,k1,attrsChk,chkOut]
theorem ap_run (l : List Attr) (g : List AObj) {n : Nat} (hl : l.length < n + 36) : acall T (n + 37) 71 [.p (.list (l.map Attr.pv))] g = some (.tuple [.p (.int .i64 (attrsChk [] 0 l).1), .p (.int .i64 (attrsErr l))], g) := by
  rw [acall_code T71,run_pure rfl rfl rfl]
  have hloop:=ap_loop (n:=n) (N:=n+36) l hl
  simp only [Int.natCast_zero] at hloop
  unfold attrsErr
  have h1:(attrsChk [] 0 l).2=0→(attrsChk [] 0 l).1=0:=by
    have key:∀ (p:List Attr) (i:Nat) (l:List Attr),(attrsChk p i l).2=0→(attrsChk p i l).1=0:=by
      intro p i l
      induction l generalizing p i with
      | nil=>simp [attrsChk]
      | cons a l ih =>
        simp only [attrsChk]
        split
        · exact ih _ _
        · rename_i h;intro h';exact absurd h' h
    exact key [] 0 l
  generalize attrsChk [] 0 l=r at hloop h1
  obtain ⟨x,e⟩:=r
  simp only [chkOut] at hloop h1 ⊢
  by_cases h:e=0
  · rw [if_pos h] at hloop
    rw [h1 h,h]
    simp -implicitDefEqProofs (disch:=omega) only [Rx,simprocAttr,F71,hloop]
  · rw [if_neg h] at hloop
    simp -implicitDefEqProofs (disch:=omega) only [Rx,simprocAttr,F71,hloop]
end Go.TA.Tryz


end
section
/- What is wrong with a node alone. -/
set_option maxRecDepth 100000
set_option maxHeartbeats 8000000
namespace Go.TA.Tryz
def aloneErr (x:GRow):Int:=if namedB false x.tag=false then 7 else if 65536<(x.key.length:Int) then 3 else if 65536<(x.text.length:Int) then 3 else attrsErr x.attrs
def nodeCells (x:GRow) (ks:List (List PV)):List PV:=[.str x.tag,.str x.key,.str x.text,.list (x.attrs.map Attr.pv),.list ks]
theorem alone_run (x:GRow) (ks:List (List PV)) (hs:smallAttrs x.attrs) (g:List AObj) {n:Nat} (hl:x.attrs.length<n) (hn:1048576<n) :
    acall T (n+37) 40 [.p (.agg (nodeCells x ks))] g=some (.p (.int .i64 (aloneErr x)),g):=by
  rw [acall_code T40,run_pure rfl rfl rfl]
  have ha:=fun g=>a09_run x.attrs hs g (n:=n) (by omega) hn
  cases h1:namedB false x.tag with
  | false =>
    have e:aloneErr x=7:=by simp [aloneErr,h1]
    rw [e]
    simp -implicitDefEqProofs (disch:=omega) only [Rx,simprocAttr,F40,nodeCells,named02_run,h1]
  | true=>
  by_cases h2:65536<(x.key.length:Int)
  · have e:aloneErr x=3:=by simp [aloneErr,h1,h2]
    rw [e]
    simp -implicitDefEqProofs (disch:=omega) only [Rx,simprocAttr,F40,nodeCells,named02_run,h1,h2]
  by_cases h3:65536<(x.text.length:Int)
  · have e:aloneErr x=3:=by simp [aloneErr,h1,h2,h3]
    rw [e]
    simp -implicitDefEqProofs (disch:=omega) only [Rx,simprocAttr,F40,nodeCells,named02_run,h1,h2,h3]
  have e:aloneErr x=attrsErr x.attrs:=by simp [aloneErr,h1,h2,h3]
  rw [e]
  simp -implicitDefEqProofs (disch:=omega) only [Rx,simprocAttr,F40,nodeCells,named02_run,h1,h2,h3,ha]
theorem wrong_run (x:GRow) (ks:List (List PV)) (g:List AObj) {n:Nat} (hl:x.attrs.length<n) :
    acall T (n+38) 130 [.p (.agg (nodeCells x ks))] g=some (.p (.int .i64 (aloneErr x)),g):=by
  rw [acall_code T130,run_pure rfl rfl rfl]
  have ha:=fun g=>ap_run x.attrs g (n:=n) (by omega)
  cases h1:namedB false x.tag with
  | false =>
    have e:aloneErr x=7:=by simp [aloneErr,h1]
    rw [e]
    simp -implicitDefEqProofs (disch:=omega) only [Rx,simprocAttr,F130,nodeCells,tag_run,h1]
  | true=>
  by_cases h2:(x.key.length:Int)≤65536
  rotate_left
  · have e:aloneErr x=3:=by simp [aloneErr,h1];omega
    rw [e]
    simp -implicitDefEqProofs (disch:=omega) only [Rx,simprocAttr,F130,nodeCells,tag_run,h1,fits_run,h2]
  by_cases h3:(x.text.length:Int)≤65536
  rotate_left
  · have e:aloneErr x=3:=by simp [aloneErr,h1];omega
    rw [e]
    simp -implicitDefEqProofs (disch:=omega) only [Rx,simprocAttr,F130,nodeCells,tag_run,h1,fits_run,h2,h3]
  have e:aloneErr x=attrsErr x.attrs:=by
    have h2':¬ 65536<(x.key.length:Int):=by omega
    have h3':¬ 65536<(x.text.length:Int):=by omega
    simp [aloneErr,h1,h2',h3']
  rw [e]
  simp -implicitDefEqProofs (disch:=omega) only [Rx,simprocAttr,F130,nodeCells,tag_run,h1,fits_run,h2,h3,ha]
end Go.TA.Tryz


end
section
/- The tree of rows, as the program builds it. -/
set_option maxRecDepth 100000
set_option maxHeartbeats 8000000
namespace Go.TA.Tryz
theorem attrs_two (l:List Attr):((l.map Attr.pv).all fun x=>x.length==2)=true:=by simp [List.all_eq_true,Attr.pv]
theorem attrs_same:∀ (l:List Attr),PV.sameLL (l.map Attr.pv) (l.map Attr.pv)=true
 | []=>rfl
 | a::l=>by simp [PV.sameLL,PV.sameL,PV.same,Attr.pv,attrs_same l]
theorem cloneA_run (l:List Attr) (h:l.length≤1048577) (g:List AObj) (n:Nat):acall T (n+1) 37 [.p (.list (l.map Attr.pv))] g=some (.own true g.length l.length,g++[.pcells 2 (l.map Attr.pv)]):=by
 rw [acall_prim T37]
 have h2:=attrs_two l
 have h3:l.length*4096≤140737488355328:=by omega
 simp only [pCloneT,thaw,bk_some,pClone,h2,List.length_map,h3,and_self,if_true]
mutual
inductive BT (l:List GRow):Nat→Nat→List PV→Prop
 | mk {a b:Nat} {x:GRow} {ks:List (List PV)}:l[a]? = some x→BTs l a b ks→BT l a b (nodeCells x ks)
inductive BTs (l:List GRow):Nat→Nat→List (List PV)→Prop
 | nil {a:Nat}:BTs l a (a+1) []
 | snoc {a m b:Nat} {ks:List (List PV)} {k:List PV} {y:GRow}:BTs l a m ks→l[m]? = some y→y.up=(a:Int)+1→BT l m b k→BTs l a b (ks++[k])
end
mutual
theorem BT.lt {l:List GRow} {a b:Nat} {p:List PV}:BT l a b p→a<b∧b≤l.length
  | .mk hx h => by
    have:=BTs.lt h (List.getElem?_eq_some_iff.1 hx).1
    omega
theorem BTs.lt {l:List GRow} {a b:Nat} {ks:List (List PV)}:BTs l a b ks→a<l.length→a+1≤b∧b≤l.length∧ks.length+a+1≤b
  | .nil,ha=>⟨Nat.le_refl _,ha,by simp⟩
  | .snoc h _ _ h2, ha => by
    have h3:=BTs.lt h ha
    have h4:=BT.lt h2
    simp only [List.length_append,List.length_singleton]
    omega
end
theorem BT.len {l:List GRow} {a b:Nat} {p:List PV} (h:BT l a b p):p.length=5:=by
 cases h with
 | mk _ _=>rfl
theorem BTs.at {l:List GRow} {a b:Nat} {ks:List (List PV)} (h:BTs l a b ks):∀ (i:Nat) k,ks[i]? = some k→∃ m m' y,BTs l a m (ks.take i)∧l[m]? = some y∧y.up=(a:Int)+1∧BT l m m' k∧BTs l a m' (ks.take (i+1))∧m'≤b:=by
  match h with
  | .nil=>intro i k hk;simp at hk
  | .snoc (m := m) (ks := ks0) (k := k0) (y := y) h1 hy hu h2 =>
    intro i k hk
    by_cases hi:i<ks0.length
    · rw [List.getElem?_append_left hi] at hk
      obtain ⟨m1,m2,y1,q1,q2,q3,q4,q5,q6⟩:=BTs.at h1 i k hk
      have:=BT.lt h2
      refine ⟨m1,m2,y1, ?_,q2,q3,q4, ?_,by omega⟩
      · rw [List.take_append_of_le_length (by omega)];exact q1
      · rw [List.take_append_of_le_length (by omega)];exact q5
    · have hlt:=(List.getElem?_eq_some_iff.1 hk).1
      simp only [List.length_append,List.length_singleton] at hlt
      obtain rfl:i=ks0.length:=by omega
      rw [List.getElem?_append_right (Nat.le_refl _),Nat.sub_self] at hk
      simp only [List.getElem?_cons_zero,Option.some.injEq] at hk
      subst hk
      refine ⟨m,b,y, ?_,hy,hu,h2, ?_,Nat.le_refl _⟩
      · rw [List.take_append_of_le_length (Nat.le_refl _),List.take_length];exact h1
      · rw [List.take_of_length_le (by simp)];exact .snoc h1 hy hu h2
mutual
theorem BT.uniq {l:List GRow} {a b b':Nat} {p p':List PV}:BT l a b p→BT l a b' p'→p=p'→b=b'
  | .mk hx h, .mk hx' h', e => by
    simp only [nodeCells,List.cons.injEq,PV.list.injEq,and_true] at e
    exact BTs.uniq h h' e.2.2.2.2
theorem BTs.uniq {l:List GRow} {a b b':Nat} {ks ks':List (List PV)}:BTs l a b ks→BTs l a b' ks'→ks=ks'→b=b'
  | .nil,.nil,_=>rfl
  | .nil,.snoc _ _ _ _,e=>by simp at e
  | .snoc _ _ _ _,.nil,e=>by simp at e
  | .snoc h1 _ _ h2, .snoc h1' _ _ h2', e => by
    obtain ⟨e1,e2⟩:=List.append_inj' e rfl
    have e3:=BTs.uniq h1 h1' e1
    subst e3
    exact BT.uniq h2 h2' (by simpa using e2)
end
def kidsC (ks:List (List PV)):AV:=match ks with
 | [] => .nils
 | _::_ => .own true 0 ks.length
theorem kidsC_m (r:List Nat) (ks:List (List PV)):mentions r (kidsC ks)=false:=by cases ks <;> simp [kidsC,mentions]
def kidsG (ks:List (List PV)):List AObj:=match ks with
 | []=>[]
 | _::_=>[.pcells 5 ks]
def buildL (x:GRow) (ks:List (List PV)):List (Nat × AObj):=[(4,.pcells 5 [[.str [],.str [],.str [],.list [],.list []]]),(7,.cells 5 [[.p (.str x.tag),.p (.str x.key),.p (.str x.text),.p (.list (x.attrs.map Attr.pv)),kidsC ks]]),(1000,.pcells 5 [])]
def buildS (l:List GRow) (a:Nat) (x:GRow) (nx:Nat) (ks:List (List PV)):St:=⟨[(0,.p (.list (l.map GRow.pv))),(1,.p (.int .i64 a)),(4,.ptr false 4 5 1 0 0),(7,.ptr false 7 5 1 0 0),(8,.p (.int .i64 nx))],buildL x ks,kidsG ks⟩
def buildQ (l:List GRow) (a:Nat) (x:GRow) (r:Ex × St):Prop:=∃ nx ks,BTs l a nx ks∧(∀ y,l[nx]? = some y→y.up≠(a:Int)+1)∧r=(.exit 0,⟨[(4,.ptr false 4 5 1 0 0),(7,.ptr false 7 5 1 0 0),(8,.p (.int .i64 nx))],buildL x ks,kidsG ks⟩)
end Go.TA.Tryz


end
section
/- An operation with the fields alone that its kind uses. -/
set_option maxRecDepth 100000
set_option maxHeartbeats 8000000
namespace Go.TA.Tryz
theorem used1_run (x:GOp) (hk:x.kind=1) (g:List AObj) (n:Nat):acall T (n+1) 67 [.p (.agg x.pv)] g=some (.p (.agg (used1 x).pv),g):=by
 rw [acall_code T67,run_pure rfl rfl rfl]
 simp -implicitDefEqProofs (disch:=omega) only [Rx,simprocAttr,F67,GOp.pv,attrsPV,used1,hk,attrs_same]
theorem used2_run (x:GOp) (hk:x.kind=2) (g:List AObj) (n:Nat):acall T (n+1) 67 [.p (.agg x.pv)] g=some (.p (.agg (used2 x).pv),g):=by
 rw [acall_code T67,run_pure rfl rfl rfl]
 simp -implicitDefEqProofs (disch:=omega) only [Rx,simprocAttr,F67,GOp.pv,attrsPV,used2,hk]
theorem used3_run (x:GOp) (hk:x.kind=3) (g:List AObj) (n:Nat):acall T (n+1) 67 [.p (.agg x.pv)] g=some (.p (.agg (used3 x).pv),g):=by
 rw [acall_code T67,run_pure rfl rfl rfl]
 simp -implicitDefEqProofs (disch:=omega) only [Rx,simprocAttr,F67,GOp.pv,attrsPV,used3,hk]
theorem used4_run (x:GOp) (hk:x.kind=4) (g:List AObj) (n:Nat):acall T (n+1) 67 [.p (.agg x.pv)] g=some (.p (.agg (used4 x).pv),g):=by
 rw [acall_code T67,run_pure rfl rfl rfl]
 simp -implicitDefEqProofs (disch:=omega) only [Rx,simprocAttr,F67,GOp.pv,attrsPV,used4,hk]
theorem used5_run (x:GOp) (hk:x.kind=5) (g:List AObj) (n:Nat):acall T (n+1) 67 [.p (.agg x.pv)] g=some (.p (.agg (used5 x).pv),g):=by
 rw [acall_code T67,run_pure rfl rfl rfl]
 simp -implicitDefEqProofs (disch:=omega) only [Rx,simprocAttr,F67,GOp.pv,attrsPV,used5,hk]
theorem used6_run (x:GOp) (hk:x.kind=6) (g:List AObj) (n:Nat):acall T (n+1) 67 [.p (.agg x.pv)] g=some (.p (.agg (used6 x).pv),g):=by
 rw [acall_code T67,run_pure rfl rfl rfl]
 simp -implicitDefEqProofs (disch:=omega) only [Rx,simprocAttr,F67,GOp.pv,attrsPV,used6,hk]
theorem used7_run (x:GOp) (hk:x.kind=7) (g:List AObj) (n:Nat):acall T (n+1) 67 [.p (.agg x.pv)] g=some (.p (.agg (used7 x).pv),g):=by
 rw [acall_code T67,run_pure rfl rfl rfl]
 simp -implicitDefEqProofs (disch:=omega) only [Rx,simprocAttr,F67,GOp.pv,attrsPV,used7,hk]
theorem used_run (x:GOp) (h1:1≤x.kind) (h7:x.kind≤7) (g:List AObj) (n:Nat):acall T (n+1) 67 [.p (.agg x.pv)] g=some (.p (.agg (usedOp x).pv),g):=by
 by_cases k1:x.kind=1
 ·rw [used1_run x k1];simp [usedOp,k1]
 by_cases k2:x.kind=2
 ·rw [used2_run x k2];simp [usedOp,k2]
 by_cases k3:x.kind=3
 ·rw [used3_run x k3];simp [usedOp,k3]
 by_cases k4:x.kind=4
 ·rw [used4_run x k4];simp [usedOp,k4]
 by_cases k5:x.kind=5
 ·rw [used5_run x k5];simp [usedOp,k5]
 by_cases k6:x.kind=6
 ·rw [used6_run x k6];simp [usedOp,k6]
 by_cases k7:x.kind=7
 ·rw [used7_run x k7];simp [usedOp,k7]
 omega
end Go.TA.Tryz


end
section
/- Does an operation have a field that its kind does not use? The document's answer. -/
set_option maxRecDepth 100000
set_option maxHeartbeats 8000000
namespace Go.TA.Tryz
theorem none1_run (x:GOp) (hk:x.kind=1) (g:List AObj) (n:Nat):acall T (n+1) 82 [.p (.agg x.pv)] g=some (.p (.bool (none1 x)),g):=by
 rw [acall_code T82,run_pure rfl rfl rfl]
 simp only [none1,nzI,nzS,nzA]
 cases h0:(x.node==0)
 ·simp -implicitDefEqProofs (disch:=omega) only [Rx,simprocAttr,F82,GOp.pv,attrsPV,hk,h0]
 cases h1:(x.up==0)
 ·simp -implicitDefEqProofs (disch:=omega) only [Rx,simprocAttr,F82,GOp.pv,attrsPV,hk,h0,h1]
 cases h2:(x.before==0)
 ·simp -implicitDefEqProofs (disch:=omega) only [Rx,simprocAttr,F82,GOp.pv,attrsPV,hk,h0,h1,h2]
 cases h3:(x.name==[])
 ·simp -implicitDefEqProofs (disch:=omega) only [Rx,simprocAttr,F82,GOp.pv,attrsPV,hk,h0,h1,h2,h3]
 simp -implicitDefEqProofs (disch:=omega) only [Rx,simprocAttr,F82,GOp.pv,attrsPV,hk,h0,h1,h2,h3]
theorem none2_run (x:GOp) (hk:x.kind=2) (g:List AObj) (n:Nat):acall T (n+1) 82 [.p (.agg x.pv)] g=some (.p (.bool (none2 x)),g):=by
 rw [acall_code T82,run_pure rfl rfl rfl]
 simp only [none2,nzI,nzS,nzA]
 cases h0:(x.tag==[])
 ·simp -implicitDefEqProofs (disch:=omega) only [Rx,simprocAttr,F82,GOp.pv,attrsPV,hk,h0]
 cases h1:(x.key==[])
 ·simp -implicitDefEqProofs (disch:=omega) only [Rx,simprocAttr,F82,GOp.pv,attrsPV,hk,h0,h1]
 by_cases h2:0<(x.attrs.length:Int)
 ·simp -implicitDefEqProofs (disch:=omega) only [Rx,simprocAttr,F82,GOp.pv,attrsPV,hk,h0,h1,h2]
 cases h3:(x.name==[])
 ·simp -implicitDefEqProofs (disch:=omega) only [Rx,simprocAttr,F82,GOp.pv,attrsPV,hk,h0,h1,h2,h3]
 cases h4:(x.text==[])
 ·simp -implicitDefEqProofs (disch:=omega) only [Rx,simprocAttr,F82,GOp.pv,attrsPV,hk,h0,h1,h2,h3,h4]
 simp -implicitDefEqProofs (disch:=omega) only [Rx,simprocAttr,F82,GOp.pv,attrsPV,hk,h0,h1,h2,h3,h4]
theorem none3_run (x:GOp) (hk:x.kind=3) (g:List AObj) (n:Nat):acall T (n+1) 82 [.p (.agg x.pv)] g=some (.p (.bool (none3 x)),g):=by
 rw [acall_code T82,run_pure rfl rfl rfl]
 simp only [none3,nzI,nzS,nzA]
 cases h0:(x.tag==[])
 ·simp -implicitDefEqProofs (disch:=omega) only [Rx,simprocAttr,F82,GOp.pv,attrsPV,hk,h0]
 cases h1:(x.key==[])
 ·simp -implicitDefEqProofs (disch:=omega) only [Rx,simprocAttr,F82,GOp.pv,attrsPV,hk,h0,h1]
 by_cases h2:0<(x.attrs.length:Int)
 ·simp -implicitDefEqProofs (disch:=omega) only [Rx,simprocAttr,F82,GOp.pv,attrsPV,hk,h0,h1,h2]
 cases h3:(x.up==0)
 ·simp -implicitDefEqProofs (disch:=omega) only [Rx,simprocAttr,F82,GOp.pv,attrsPV,hk,h0,h1,h2,h3]
 cases h4:(x.name==[])
 ·simp -implicitDefEqProofs (disch:=omega) only [Rx,simprocAttr,F82,GOp.pv,attrsPV,hk,h0,h1,h2,h3,h4]
 cases h5:(x.text==[])
 ·simp -implicitDefEqProofs (disch:=omega) only [Rx,simprocAttr,F82,GOp.pv,attrsPV,hk,h0,h1,h2,h3,h4,h5]
 simp -implicitDefEqProofs (disch:=omega) only [Rx,simprocAttr,F82,GOp.pv,attrsPV,hk,h0,h1,h2,h3,h4,h5]
end Go.TA.Tryz


end
section
/- Does an operation have a field that its kind does not use? The document's answer. -/
set_option maxRecDepth 100000
set_option maxHeartbeats 8000000
namespace Go.TA.Tryz
theorem none4_run (x:GOp) (hk:x.kind=4) (g:List AObj) (n:Nat):acall T (n+1) 82 [.p (.agg x.pv)] g=some (.p (.bool (none4 x)),g):=by
 rw [acall_code T82,run_pure rfl rfl rfl]
 simp only [none4,nzI,nzS,nzA]
 cases h0:(x.tag==[])
 ·simp -implicitDefEqProofs (disch:=omega) only [Rx,simprocAttr,F82,GOp.pv,attrsPV,hk,h0]
 cases h1:(x.key==[])
 ·simp -implicitDefEqProofs (disch:=omega) only [Rx,simprocAttr,F82,GOp.pv,attrsPV,hk,h0,h1]
 by_cases h2:0<(x.attrs.length:Int)
 ·simp -implicitDefEqProofs (disch:=omega) only [Rx,simprocAttr,F82,GOp.pv,attrsPV,hk,h0,h1,h2]
 cases h3:(x.up==0)
 ·simp -implicitDefEqProofs (disch:=omega) only [Rx,simprocAttr,F82,GOp.pv,attrsPV,hk,h0,h1,h2,h3]
 cases h4:(x.before==0)
 ·simp -implicitDefEqProofs (disch:=omega) only [Rx,simprocAttr,F82,GOp.pv,attrsPV,hk,h0,h1,h2,h3,h4]
 cases h5:(x.name==[])
 ·simp -implicitDefEqProofs (disch:=omega) only [Rx,simprocAttr,F82,GOp.pv,attrsPV,hk,h0,h1,h2,h3,h4,h5]
 cases h6:(x.text==[])
 ·simp -implicitDefEqProofs (disch:=omega) only [Rx,simprocAttr,F82,GOp.pv,attrsPV,hk,h0,h1,h2,h3,h4,h5,h6]
 simp -implicitDefEqProofs (disch:=omega) only [Rx,simprocAttr,F82,GOp.pv,attrsPV,hk,h0,h1,h2,h3,h4,h5,h6]
theorem none5_run (x:GOp) (hk:x.kind=5) (g:List AObj) (n:Nat):acall T (n+1) 82 [.p (.agg x.pv)] g=some (.p (.bool (none5 x)),g):=by
 rw [acall_code T82,run_pure rfl rfl rfl]
 simp only [none5,nzI,nzS,nzA]
 cases h0:(x.tag==[])
 ·simp -implicitDefEqProofs (disch:=omega) only [Rx,simprocAttr,F82,GOp.pv,attrsPV,hk,h0]
 cases h1:(x.key==[])
 ·simp -implicitDefEqProofs (disch:=omega) only [Rx,simprocAttr,F82,GOp.pv,attrsPV,hk,h0,h1]
 by_cases h2:0<(x.attrs.length:Int)
 ·simp -implicitDefEqProofs (disch:=omega) only [Rx,simprocAttr,F82,GOp.pv,attrsPV,hk,h0,h1,h2]
 cases h3:(x.up==0)
 ·simp -implicitDefEqProofs (disch:=omega) only [Rx,simprocAttr,F82,GOp.pv,attrsPV,hk,h0,h1,h2,h3]
 cases h4:(x.before==0)
 ·simp -implicitDefEqProofs (disch:=omega) only [Rx,simprocAttr,F82,GOp.pv,attrsPV,hk,h0,h1,h2,h3,h4]
 simp -implicitDefEqProofs (disch:=omega) only [Rx,simprocAttr,F82,GOp.pv,attrsPV,hk,h0,h1,h2,h3,h4]
end Go.TA.Tryz


end
section
/- Does an operation have a field that its kind does not use? The document's answer. -/
set_option maxRecDepth 100000
set_option maxHeartbeats 8000000
namespace Go.TA.Tryz
theorem none6_run (x:GOp) (hk:x.kind=6) (g:List AObj) (n:Nat):acall T (n+1) 82 [.p (.agg x.pv)] g=some (.p (.bool (none6 x)),g):=by
 rw [acall_code T82,run_pure rfl rfl rfl]
 simp only [none6,nzI,nzS,nzA]
 cases h0:(x.tag==[])
 ·simp -implicitDefEqProofs (disch:=omega) only [Rx,simprocAttr,F82,GOp.pv,attrsPV,hk,h0]
 cases h1:(x.key==[])
 ·simp -implicitDefEqProofs (disch:=omega) only [Rx,simprocAttr,F82,GOp.pv,attrsPV,hk,h0,h1]
 by_cases h2:0<(x.attrs.length:Int)
 ·simp -implicitDefEqProofs (disch:=omega) only [Rx,simprocAttr,F82,GOp.pv,attrsPV,hk,h0,h1,h2]
 cases h3:(x.up==0)
 ·simp -implicitDefEqProofs (disch:=omega) only [Rx,simprocAttr,F82,GOp.pv,attrsPV,hk,h0,h1,h2,h3]
 cases h4:(x.before==0)
 ·simp -implicitDefEqProofs (disch:=omega) only [Rx,simprocAttr,F82,GOp.pv,attrsPV,hk,h0,h1,h2,h3,h4]
 cases h5:(x.text==[])
 ·simp -implicitDefEqProofs (disch:=omega) only [Rx,simprocAttr,F82,GOp.pv,attrsPV,hk,h0,h1,h2,h3,h4,h5]
 simp -implicitDefEqProofs (disch:=omega) only [Rx,simprocAttr,F82,GOp.pv,attrsPV,hk,h0,h1,h2,h3,h4,h5]
theorem none7_run (x:GOp) (hk:x.kind=7) (g:List AObj) (n:Nat):acall T (n+1) 82 [.p (.agg x.pv)] g=some (.p (.bool (none7 x)),g):=by
 rw [acall_code T82,run_pure rfl rfl rfl]
 simp only [none7,nzI,nzS,nzA]
 cases h0:(x.tag==[])
 ·simp -implicitDefEqProofs (disch:=omega) only [Rx,simprocAttr,F82,GOp.pv,attrsPV,hk,h0]
 cases h1:(x.key==[])
 ·simp -implicitDefEqProofs (disch:=omega) only [Rx,simprocAttr,F82,GOp.pv,attrsPV,hk,h0,h1]
 by_cases h2:0<(x.attrs.length:Int)
 ·simp -implicitDefEqProofs (disch:=omega) only [Rx,simprocAttr,F82,GOp.pv,attrsPV,hk,h0,h1,h2]
 cases h3:(x.up==0)
 ·simp -implicitDefEqProofs (disch:=omega) only [Rx,simprocAttr,F82,GOp.pv,attrsPV,hk,h0,h1,h2,h3]
 cases h4:(x.before==0)
 ·simp -implicitDefEqProofs (disch:=omega) only [Rx,simprocAttr,F82,GOp.pv,attrsPV,hk,h0,h1,h2,h3,h4]
 cases h5:(x.name==[])
 ·simp -implicitDefEqProofs (disch:=omega) only [Rx,simprocAttr,F82,GOp.pv,attrsPV,hk,h0,h1,h2,h3,h4,h5]
 simp -implicitDefEqProofs (disch:=omega) only [Rx,simprocAttr,F82,GOp.pv,attrsPV,hk,h0,h1,h2,h3,h4,h5]
end Go.TA.Tryz


end
section
/- Does an operation have a field that its kind does not use? The document's answer. -/
set_option maxRecDepth 100000
set_option maxHeartbeats 8000000
namespace Go.TA.Tryz
theorem none_run (x:GOp) (h1:1≤x.kind) (h7:x.kind≤7) (g:List AObj) (n:Nat):acall T (n+1) 82 [.p (.agg x.pv)] g=some (.p (.bool (noneB x)),g):=by
 by_cases k1:x.kind=1
 ·rw [none1_run x k1];simp [noneB,k1]
 by_cases k2:x.kind=2
 ·rw [none2_run x k2];simp [noneB,k2]
 by_cases k3:x.kind=3
 ·rw [none3_run x k3];simp [noneB,k3]
 by_cases k4:x.kind=4
 ·rw [none4_run x k4];simp [noneB,k4]
 by_cases k5:x.kind=5
 ·rw [none5_run x k5];simp [noneB,k5]
 by_cases k6:x.kind=6
 ·rw [none6_run x k6];simp [noneB,k6]
 by_cases k7:x.kind=7
 ·rw [none7_run x k7];simp [noneB,k7]
 omega
end Go.TA.Tryz


end
section
/- Whether an operation is what its kind uses of it: by texts, as the program does it. -/
set_option maxRecDepth 100000
set_option maxHeartbeats 8000000
namespace Go.TA.Tryz
def eqEnd (b:Bool):Ex × St:=if b=true then (.exit 0,⟨[],[],[]⟩) else (.ret,⟨[(4,.p (.bool false))],[],[]⟩)
theorem eqEnd_ne (b:Bool):(eqEnd b).1 ≠ .normal:=by cases b <;> simp [eqEnd]
theorem slicesEq_run (a b : List Attr) (g : List AObj) {n m : Nat} (ha : a.length < n) (hn : n ≤ 1048577) (hm : n ≤ m) :
    acall T (m+1) 101 [.p (attrsPV a),.p (attrsPV b)] g=some (.p (.bool (decide (a=b))),g):=by
  rw [acall_code T101,run_pure rfl rfl rfl]
  by_cases hlen:a.length=b.length
  · have hloop:aexec (acall T m) m (.loop B101x0) ⟨[(0,.p (.list (a.map Attr.pv))),(1,.p (.list (b.map Attr.pv))),(12,.p (.int .i64 a.length)),(13,.p (.int .i64 0))],[],[]⟩=some (eqEnd (decide (a.drop 0=b.drop 0))):=by
      refine loop_rule' (σ := Nat) (S:=fun i=>⟨[(0,.p (.list (a.map Attr.pv))),(1,.p (.list (b.map Attr.pv))),(12,.p (.int .i64 a.length)),(13,.p (.int .i64 i))],[],[]⟩) (I:=fun i=>i≤a.length) (μ := fun i=>a.length - i) (Φ := fun i=>eqEnd (decide (a.drop i=b.drop i))) ?_ 0 (by omega) (by omega)
      intro i hi
      by_cases h:i<a.length
      · obtain ⟨x,hx⟩:=get_some h
        obtain ⟨y,hy⟩:=get_some (l:=b) (i:=i) (by omega)
        have hgx:=getD_map (f:=Attr.pv) hx
        have hgy:=getD_map (f:=Attr.pv) hy
        have hdx:a.drop i=x::a.drop (i+1):=by rw [List.drop_eq_getElem?_toList_append,hx];rfl
        have hdy:b.drop i=y::b.drop (i+1):=by rw [List.drop_eq_getElem?_toList_append,hy];rfl
        by_cases hxy:x=y
        · subst hxy
          refine .inl ⟨i+1, ?_,by omega,by omega,by rw [hdx,hdy];simp⟩
          simp -implicitDefEqProofs (disch:=omega) only [Rx,simprocAttr,B101x0,hgx,hgy,Attr.pv]
        · refine .inr ⟨?_,eqEnd_ne _⟩
          have e:decide (a.drop i=b.drop i)=false:=by rw [hdx,hdy];simp [hxy]
          have e2:(x.name==y.name && x.value==y.value)=false:=by
            rw [← Bool.not_eq_true,Bool.and_eq_true,beq_iff_eq,beq_iff_eq]
            rintro ⟨h1,h2⟩
            apply hxy
            cases x;cases y;simp only at h1 h2;subst h1 h2;rfl
          rw [e]
          simp -implicitDefEqProofs (disch:=omega) only [Rx,simprocAttr,B101x0,hgx,hgy,Attr.pv,e2,eqEnd]
      · have e:decide (a.drop i=b.drop i)=true:=by rw [List.drop_eq_nil_of_le (by omega),List.drop_eq_nil_of_le (by omega)];simp
        refine .inr ⟨?_,eqEnd_ne _⟩
        rw [e]
        simp -implicitDefEqProofs (disch:=omega) only [Rx,simprocAttr,B101x0,eqEnd]
    rw [List.drop_zero,List.drop_zero] at hloop
    have hl2:((a.length:Int)==(b.length:Int))=true:=by simp [hlen]
    cases hd:decide (a=b) with
    | false =>
      rw [hd] at hloop
      simp only [eqEnd,Bool.false_eq_true,if_false] at hloop
      simp -implicitDefEqProofs (disch:=omega) only [Rx,simprocAttr,F101,attrsPV,hl2,hloop]
    | true =>
      rw [hd] at hloop
      simp only [eqEnd,if_true] at hloop
      simp -implicitDefEqProofs (disch:=omega) only [Rx,simprocAttr,F101,attrsPV,hl2,hloop]
  · have hl2:((a.length:Int)==(b.length:Int))=false:=by rw [beq_eq_false_iff_ne];omega
    have hd:decide (a=b)=false:=by rw [decide_eq_false_iff_not];intro hh;exact hlen (by rw [hh])
    rw [hd]
    simp -implicitDefEqProofs (disch:=omega) only [Rx,simprocAttr,F101,attrsPV,hl2]
def hOk (n:Int):Bool:=decide (0≤n) && decide (n≤4294967295)
theorem handle_run (k:Int) (g:List AObj) (n:Nat):acall T (n+1) 65 [.p (.int .i64 k)] g=some (.p (.bool (hOk k)),g):=by
 rw [acall_code T65,run_pure rfl rfl rfl]
 by_cases h1:0≤k
 ·by_cases h2:k≤4294967295
  ·simp -implicitDefEqProofs (disch:=omega) only [Rx,simprocAttr,F65,hOk,h1,h2]
  ·simp -implicitDefEqProofs (disch:=omega) only [Rx,simprocAttr,F65,hOk,h1,h2]
 ·simp -implicitDefEqProofs (disch:=omega) only [Rx,simprocAttr,F65,hOk,h1]
theorem over_run (k:Int) (g:List AObj) (n:Nat):acall T (n+1) 81 [.p (.int .i64 k)] g=some (.p (.bool (!hOk k)),g):=by
 rw [acall_code T81,run_pure rfl rfl rfl]
 by_cases h1:k<0
 ·have h1':¬ 0≤k:=by omega
  simp -implicitDefEqProofs (disch:=omega) only [Rx,simprocAttr,F81,hOk,h1,h1']
 ·have h1':0≤k:=by omega
  by_cases h2:4294967295<k
  ·have h2':¬ k≤4294967295:=by omega
   simp -implicitDefEqProofs (disch:=omega) only [Rx,simprocAttr,F81,hOk,h1,h1',h2,h2']
  ·have h2':k≤4294967295:=by omega
   simp -implicitDefEqProofs (disch:=omega) only [Rx,simprocAttr,F81,hOk,h1,h1',h2,h2']
theorem itoa_run (k:Int) (h1 : -9223372036854775808≤k) (h2:k≤9223372036854775807) (g:List AObj) (n:Nat):acall T (n+1) 103 [.p (.int .i64 k)] g=some (.p (.str (Lib.itoa k)),g):=by
 rw [acall_prim T103]
 simp [pItoa,h1,h2]
theorem digits_zero:∀ (u:Nat),1≤u→Lib.decDigits u≠[48]:=by
 intro u hu h
 by_cases h10:u<10
 ·rw [Lib.decDigits_one h10] at h
  injection h with h _
  have:(UInt8.ofNat (48+u)).toNat=48:=by rw [h];rfl
  rw [UInt8.toNat_ofNat'] at this
  omega
 ·have hl:=Lib.decDigits_length u
  rw [h] at hl
  rw [Lib.nDigits,dif_neg h10] at hl
  have:1≤Lib.nDigits (u / 10):=by
   rw [Lib.nDigits]
   split <;> omega
  simp at hl
  omega
theorem itoa_zero {k:Int} (h:0≤k):(Lib.itoa k==Lib.itoa 0)=(k==0):=by
 have e0:Lib.itoa 0=[48]:=by
  have:Lib.itoa 0=Lib.decDigits 0:=by simp [Lib.itoa]
  rw [this,Lib.decDigits_one (by omega)]
  rfl
 rw [e0]
 by_cases hk:k=0
 ·subst hk;rw [e0];rfl
 ·have hne:Lib.itoa k≠[48]:=by
   have:Lib.itoa k=Lib.decDigits k.toNat:=by unfold Lib.itoa;rw [if_neg (by omega)]
   rw [this]
   exact digits_zero _ (by omega)
  rw [Bool.eq_iff_iff,beq_iff_eq,beq_iff_eq]
  exact ⟨fun h=>absurd h hne,fun h=>absurd h hk⟩
def smallI (k:Int):Prop:=0≤k∧k≤4294967295
structure OpFine (x:GOp):Prop where
 kind:smallI x.kind
 node:smallI x.node
 up:smallI x.up
 before:smallI x.before
theorem one_run (x:GOp) (hx:OpFine x) (g:List AObj) (n:Nat):acall T (n+2) 102 [.p (.agg x.pv)] g=some (.p (.agg [.str (Lib.itoa x.kind),.str (Lib.itoa x.node),.str (Lib.itoa x.up),.str (Lib.itoa x.before),.str x.tag,.str x.key,.str x.name,.str x.text,.str []]),g):=by
 rw [acall_code T102,run_pure rfl rfl rfl]
 have h1:=fun g=>itoa_run x.kind (by have:=hx.kind.1;omega) (by have:=hx.kind.2;omega) g n
 have h2:=fun g=>itoa_run x.node (by have:=hx.node.1;omega) (by have:=hx.node.2;omega) g n
 have h3:=fun g=>itoa_run x.up (by have:=hx.up.1;omega) (by have:=hx.up.2;omega) g n
 have h4:=fun g=>itoa_run x.before (by have:=hx.before.1;omega) (by have:=hx.before.2;omega) g n
 simp -implicitDefEqProofs (disch:=omega) only [Rx,simprocAttr,F102,GOp.pv,attrsPV,h1,h2,h3,h4]
def sameV (x y:GOp):Bool:=decide (x.attrs=y.attrs) && ((Lib.itoa x.kind==Lib.itoa y.kind) && ((Lib.itoa x.node==Lib.itoa y.node) && ((Lib.itoa x.up==Lib.itoa y.up) && ((Lib.itoa x.before==Lib.itoa y.before) && ((x.tag==y.tag) && ((x.key==y.key) && ((x.name==y.name) && (x.text==y.text))))))))
theorem opsame_run (x y:GOp) (hx:OpFine x) (hy:OpFine y) (g:List AObj) {n:Nat} (hl:x.attrs.length<n+1) (hb:x.attrs.length≤1048576):acall T (n+3) 66 [.p (.agg x.pv),.p (.agg y.pv)] g=some (.p (.bool (sameV x y)),g):=by
 rw [acall_code T66,run_pure rfl rfl rfl]
 have he:=fun g=>slicesEq_run x.attrs y.attrs g (n:=x.attrs.length+1) (m:=n+1) (by omega) (by omega) (by omega)
 have o1:=fun g=>one_run x hx g n
 have o2:=fun g=>one_run y hy g n
 simp only [GOp.pv,attrsPV] at he o1 o2
 by_cases ha:x.attrs=y.attrs
 ·have ha':decide (x.attrs=y.attrs)=true:=by simpa using ha
  rw [ha'] at he
  simp only [sameV,ha']
  simp -implicitDefEqProofs (disch:=omega) only [Rx,simprocAttr,F66,GOp.pv,attrsPV,he,o1,o2,attrs_same,Nat.zero_add]
 ·have ha':decide (x.attrs=y.attrs)=false:=by simpa using ha
  rw [ha'] at he
  simp only [sameV,ha']
  simp -implicitDefEqProofs (disch:=omega) only [Rx,simprocAttr,F66,GOp.pv,attrsPV,he]
end Go.TA.Tryz


end
section
/- What is wrong with an operation: the document's answer. -/
set_option maxRecDepth 100000
set_option maxHeartbeats 8000000
namespace Go.TA.Tryz
def tagBad (x:GOp):Bool:=(x.kind==1) && !namedB false x.tag
def nameBad (x:GOp):Bool:=((x.kind==5) || (x.kind==6)) && !namedB true x.name
def opErr (x:GOp):Int:=if x.kind<1 then 6 else if 7<x.kind then 6 else if hOk x.node=false then 5 else if hOk x.up=false then 5 else if hOk x.before=false then 5 else if noneB x=true then 2 else if tagBad x=true then 7 else if nameBad x=true then 8 else if 65536<(x.key.length:Int) then 3 else if 65536<(x.text.length:Int) then 3 else attrsErr x.attrs
theorem ref25_run (x:GOp) (hs:smallAttrs x.attrs) (g:List AObj) {n:Nat} (hl:x.attrs.length<n) (hn:1048576<n):acall T (n+37) 51 [.p (.agg x.pv)] g=some (.p (.int .i64 (opErr x)),g):=by
 rw [acall_code T51,run_pure rfl rfl rfl]
 have ov:=fun (k:Int) g=>over_run k g (n+35)
 have nt:=fun s g=>named02_run s false g (n+1)
 have nn:=fun s g=>named02_run s true g (n+1)
 have at_:=fun g=>a09_run x.attrs hs g (n:=n) (by omega) hn
 by_cases k1:x.kind<1
 ·have e:opErr x=6:=by simp [opErr,tagBad,nameBad,k1]
  rw [e]
  simp -implicitDefEqProofs (disch:=omega) only [Rx,simprocAttr,F51,GOp.pv,attrsPV,k1]
 by_cases k7:7<x.kind
 ·have e:opErr x=6:=by simp [opErr,tagBad,nameBad,k1,k7]
  rw [e]
  simp -implicitDefEqProofs (disch:=omega) only [Rx,simprocAttr,F51,GOp.pv,attrsPV,k1,k7]
 cases hnode:hOk x.node
 ·have e:opErr x=5:=by simp [opErr,tagBad,nameBad,k1,k7,hnode]
  rw [e]
  simp -implicitDefEqProofs (disch:=omega) only [Rx,simprocAttr,F51,GOp.pv,attrsPV,ov,k1,k7,hnode]
 cases hup:hOk x.up
 ·have e:opErr x=5:=by simp [opErr,tagBad,nameBad,k1,k7,hnode,hup]
  rw [e]
  simp -implicitDefEqProofs (disch:=omega) only [Rx,simprocAttr,F51,GOp.pv,attrsPV,ov,k1,k7,hnode,hup]
 cases hbefore:hOk x.before
 ·have e:opErr x=5:=by simp [opErr,tagBad,nameBad,k1,k7,hnode,hup,hbefore]
  rw [e]
  simp -implicitDefEqProofs (disch:=omega) only [Rx,simprocAttr,F51,GOp.pv,attrsPV,ov,k1,k7,hnode,hup,hbefore]
 have no:=fun g=>none_run x (by omega) (by omega) g (n+35)
 simp only [GOp.pv,attrsPV] at no
 cases hn:noneB x
 rotate_left
 ·have e:opErr x=2:=by simp [opErr,tagBad,nameBad,k1,k7,hnode,hup,hbefore,hn]
  rw [e]
  simp -implicitDefEqProofs (disch:=omega) only [Rx,simprocAttr,F51,GOp.pv,attrsPV,ov,no,k1,k7,hnode,hup,hbefore,hn]
 cases e1:(x.kind==1)
 rotate_left
 ·have e1':x.kind=1:=by simpa using e1
  have e5:(x.kind==5)=false:=by rw [e1'];rfl
  have e6:(x.kind==6)=false:=by rw [e1'];rfl
  cases t1:namedB false x.tag
  ·have e:opErr x=7:=by simp [opErr,tagBad,nameBad,k1,k7,hnode,hup,hbefore,hn,e1,e5,e6,t1]
   rw [e]
   simp -implicitDefEqProofs (disch:=omega) only [Rx,simprocAttr,F51,GOp.pv,attrsPV,ov,no,nt,k1,k7,hnode,hup,hbefore,hn,e1,t1]
  by_cases l1:65536<(x.key.length:Int)
  ·have e:opErr x=3:=by simp [opErr,tagBad,nameBad,k1,k7,hnode,hup,hbefore,hn,e1,e5,e6,t1,l1]
   rw [e]
   simp -implicitDefEqProofs (disch:=omega) only [Rx,simprocAttr,F51,GOp.pv,attrsPV,ov,no,nt,k1,k7,hnode,hup,hbefore,hn,e1,e5,e6,t1,l1]
  by_cases l2:65536<(x.text.length:Int)
  ·have e:opErr x=3:=by simp [opErr,tagBad,nameBad,k1,k7,hnode,hup,hbefore,hn,e1,e5,e6,t1,l1,l2]
   rw [e]
   simp -implicitDefEqProofs (disch:=omega) only [Rx,simprocAttr,F51,GOp.pv,attrsPV,ov,no,nt,k1,k7,hnode,hup,hbefore,hn,e1,e5,e6,t1,l1,l2]
  have e:opErr x=attrsErr x.attrs:=by simp [opErr,tagBad,nameBad,k1,k7,hnode,hup,hbefore,hn,e1,e5,e6,t1,l1,l2]
  rw [e]
  simp -implicitDefEqProofs (disch:=omega) only [Rx,simprocAttr,F51,GOp.pv,attrsPV,ov,no,nt,at_,k1,k7,hnode,hup,hbefore,hn,e1,e5,e6,t1,l1,l2]
 cases e5:(x.kind==5)
 rotate_left
 ·cases t2:namedB true x.name
  ·have e:opErr x=8:=by simp [opErr,tagBad,nameBad,k1,k7,hnode,hup,hbefore,hn,e1,e5,t2]
   rw [e]
   simp -implicitDefEqProofs (disch:=omega) only [Rx,simprocAttr,F51,GOp.pv,attrsPV,ov,no,nn,k1,k7,hnode,hup,hbefore,hn,e1,e5,t2]
  by_cases l1:65536<(x.key.length:Int)
  ·have e:opErr x=3:=by simp [opErr,tagBad,nameBad,k1,k7,hnode,hup,hbefore,hn,e1,e5,t2,l1]
   rw [e]
   simp -implicitDefEqProofs (disch:=omega) only [Rx,simprocAttr,F51,GOp.pv,attrsPV,ov,no,nn,k1,k7,hnode,hup,hbefore,hn,e1,e5,t2,l1]
  by_cases l2:65536<(x.text.length:Int)
  ·have e:opErr x=3:=by simp [opErr,tagBad,nameBad,k1,k7,hnode,hup,hbefore,hn,e1,e5,t2,l1,l2]
   rw [e]
   simp -implicitDefEqProofs (disch:=omega) only [Rx,simprocAttr,F51,GOp.pv,attrsPV,ov,no,nn,k1,k7,hnode,hup,hbefore,hn,e1,e5,t2,l1,l2]
  have e:opErr x=attrsErr x.attrs:=by simp [opErr,tagBad,nameBad,k1,k7,hnode,hup,hbefore,hn,e1,e5,t2,l1,l2]
  rw [e]
  simp -implicitDefEqProofs (disch:=omega) only [Rx,simprocAttr,F51,GOp.pv,attrsPV,ov,no,nn,at_,k1,k7,hnode,hup,hbefore,hn,e1,e5,t2,l1,l2]
 cases e6:(x.kind==6)
 rotate_left
 ·cases t2:namedB true x.name
  ·have e:opErr x=8:=by simp [opErr,tagBad,nameBad,k1,k7,hnode,hup,hbefore,hn,e1,e5,e6,t2]
   rw [e]
   simp -implicitDefEqProofs (disch:=omega) only [Rx,simprocAttr,F51,GOp.pv,attrsPV,ov,no,nn,k1,k7,hnode,hup,hbefore,hn,e1,e5,e6,t2]
  by_cases l1:65536<(x.key.length:Int)
  ·have e:opErr x=3:=by simp [opErr,tagBad,nameBad,k1,k7,hnode,hup,hbefore,hn,e1,e5,e6,t2,l1]
   rw [e]
   simp -implicitDefEqProofs (disch:=omega) only [Rx,simprocAttr,F51,GOp.pv,attrsPV,ov,no,nn,k1,k7,hnode,hup,hbefore,hn,e1,e5,e6,t2,l1]
  by_cases l2:65536<(x.text.length:Int)
  ·have e:opErr x=3:=by simp [opErr,tagBad,nameBad,k1,k7,hnode,hup,hbefore,hn,e1,e5,e6,t2,l1,l2]
   rw [e]
   simp -implicitDefEqProofs (disch:=omega) only [Rx,simprocAttr,F51,GOp.pv,attrsPV,ov,no,nn,k1,k7,hnode,hup,hbefore,hn,e1,e5,e6,t2,l1,l2]
  have e:opErr x=attrsErr x.attrs:=by simp [opErr,tagBad,nameBad,k1,k7,hnode,hup,hbefore,hn,e1,e5,e6,t2,l1,l2]
  rw [e]
  simp -implicitDefEqProofs (disch:=omega) only [Rx,simprocAttr,F51,GOp.pv,attrsPV,ov,no,nn,at_,k1,k7,hnode,hup,hbefore,hn,e1,e5,e6,t2,l1,l2]
 by_cases l1:65536<(x.key.length:Int)
 ·have e:opErr x=3:=by simp [opErr,tagBad,nameBad,k1,k7,hnode,hup,hbefore,hn,e1,e5,e6,l1]
  rw [e]
  simp -implicitDefEqProofs (disch:=omega) only [Rx,simprocAttr,F51,GOp.pv,attrsPV,ov,no,k1,k7,hnode,hup,hbefore,hn,e1,e5,e6,l1]
 by_cases l2:65536<(x.text.length:Int)
 ·have e:opErr x=3:=by simp [opErr,tagBad,nameBad,k1,k7,hnode,hup,hbefore,hn,e1,e5,e6,l1,l2]
  rw [e]
  simp -implicitDefEqProofs (disch:=omega) only [Rx,simprocAttr,F51,GOp.pv,attrsPV,ov,no,k1,k7,hnode,hup,hbefore,hn,e1,e5,e6,l1,l2]
 have e:opErr x=attrsErr x.attrs:=by simp [opErr,tagBad,nameBad,k1,k7,hnode,hup,hbefore,hn,e1,e5,e6,l1,l2]
 rw [e]
 simp -implicitDefEqProofs (disch:=omega) only [Rx,simprocAttr,F51,GOp.pv,attrsPV,ov,no,at_,k1,k7,hnode,hup,hbefore,hn,e1,e5,e6,l1,l2]
end Go.TA.Tryz


end
section
/- What an operation does, if it may be. -/
namespace Go.TA.Tryz
noncomputable def doE (S:MS) (x:GOp):Int × MS:=if opErr x=0 then doM S x else (opErr x,S)
section
variable {R:Nat} {S:MS}
theorem doE_ok (hS:S.Ok R) (x:GOp) (hx:x.attrs.length≤1048577):(doE S x).2.Ok (R+R+1)∧S.N≤(doE S x).2.N∧(doE S x).2.N≤S.N+1:=by
 unfold doE
 split
 ·exact doM_ok hS x hx
 ·exact ⟨hS.more (by omega),by simp,by simp⟩
end
noncomputable def runM:MS→List GOp→Nat→Nat × Int × MS
 | S,[],i=>(i,0,S)
 | S,x::l,i=>if (doE S x).1=0 then runM (doE S x).2 l (i+1) else (i,(doE S x).1,(doE S x).2)
def bnd (R:Nat):Nat→Nat
 | 0=>R
 | k+1=>bnd R k+bnd R k+1
theorem bnd_mono (R:Nat):∀ {i j:Nat},i≤j→bnd R i≤bnd R j:=by
  intro i j h
  induction j with
  | zero => have : i = 0 := by omega
            subst this;exact Nat.le_refl _
  | succ j ih =>
    by_cases e:i=j+1
    · subst e;exact Nat.le_refl _
    · have:=ih (by omega)
      simp only [bnd];omega
theorem runM_drop {L:List GOp} {i:Nat} {x:GOp} (hx:L[i]? = some x) (S:MS):runM S (L.drop i) i=if (doE S x).1=0 then runM (doE S x).2 (L.drop (i+1)) (i+1) else (i,(doE S x).1,(doE S x).2):=by
 have:L.drop i=x::L.drop (i+1):=by rw [List.drop_eq_getElem?_toList_append,hx];rfl
 rw [this,runM]
end Go.TA.Tryz


end
section
/- The machine of rows. Plain. -/
namespace Go.TA
def S0 (l:List GRow):MS:=⟨l.length+1,st0 l,kd0 l l.length⟩
theorem mem_kd0 {l:List GRow} {i h:Nat} {k:Int}:k ∈ kd0 l i h↔∃ j x,j<i∧l[j]? = some x∧x.up=(h:Int)∧k=(j:Int)+1:=by
  simp only [kd0,List.mem_map,List.mem_filter,List.mem_range]
  constructor
  · rintro ⟨j,⟨h1,h2⟩,rfl⟩
    cases hx:l[j]? with
    | none=>rw [hx] at h2;simp at h2
    | some x =>
      rw [hx] at h2
      exact ⟨j,x,h1,hx,by simpa using h2,rfl⟩
  · rintro ⟨j,x,h1,h2,h3,rfl⟩
    exact ⟨j,⟨h1,by simp [h2,h3]⟩,rfl⟩
theorem kd0_nodup (l:List GRow) (i h:Nat):(kd0 l i h).Nodup:=by
 unfold kd0
 rw [List.nodup_iff_pairwise_ne,List.pairwise_map]
 refine List.Pairwise.imp ?_ ((List.nodup_iff_pairwise_ne.1 List.nodup_range).filter _)
 intro a b hab
 omega
theorem S0_ok {l:List GRow} {m:Nat} (hs:sound l) (hsm:Rows.mid m l) (hm:m≤1048577):(S0 l).Ok l.length:=by
  have hlive:∀ c,c<l.length+1→(st0 l c).live=true:=fun c hc=>by
    cases c with
    | zero=>rfl
    | succ j =>
      obtain ⟨x,hx⟩:=get_some (show j<l.length by omega)
      simp [st0,hx,nodeOf]
  have hup:∀ j x,l[j]? = some x→(st0 l (j+1)).up=x.up:=fun j x hx=>by simp [st0,hx,nodeOf]
  refine ⟨by simp [S0],⟨rfl,rfl⟩,fun p hp k hk => ?_,fun c hc => ?_,fun c hc hd => ?_,fun p hp=>kd0_nodup l l.length p,⟨fun c=>c,fun c hc=>by simp only [S0] at hc;show c≤l.length;omega,fun c p hc hu => ?_⟩,fun c hc => ?_⟩
  · obtain ⟨j,x,h1,h2,h3,rfl⟩:=mem_kd0.1 hk
    exact ⟨j+1,by omega,by simp only [S0];omega,hlive _ (by omega),by simp only [S0];rw [hup j x h2];exact h3⟩
  · simp only [S0] at hc ⊢
    cases c with
    | zero=>exact .inl rfl
    | succ j =>
      obtain ⟨x,hx⟩:=get_some (show j<l.length by omega)
      have hst:=hs.1 j x (by omega) hx
      refine .inr ⟨x.up.toNat,by omega, ?_,hlive _ (by omega),mem_kd0.2 ⟨j,x,by omega,hx,by omega,by omega⟩⟩
      rw [hup j x hx];omega
  · simp only [S0] at hc hd
    rw [hlive c hc] at hd;cases hd
  · simp only [S0] at hc hu
    cases c with
    | zero=>simp [st0,holder] at hu <;> omega
    | succ j =>
      obtain ⟨x,hx⟩:=get_some (show j<l.length by omega)
      have hst:=hs.1 j x (by omega) hx
      rw [hup j x hx] at hu
      show p<j+1
      omega
  · simp only [S0] at hc ⊢
    cases c with
    | zero=>simp [st0,holder]
    | succ j =>
      obtain ⟨x,hx⟩:=get_some (show j<l.length by omega)
      have:=(hsm.row x (List.mem_of_getElem? hx)).attrs
      simp only [st0,hx,Option.map_some,Option.getD_some,nodeOf]
      omega
end Go.TA


end
section
/- The guard of most laws: whether operations are few. -/
set_option maxRecDepth 100000
set_option maxHeartbeats 1000000
namespace Go.TA.Tryz
theorem attr_get {l:List Attr} {i:Nat} {a:Attr} (h:l[i]? = some a):(l.map Attr.pv).getD i []=[.str a.name,.str a.value]:=by
 rw [List.getD_eq_getElem?_getD,List.getElem?_map,h];rfl
theorem few_attr {C:Calls'} {N:Nat} (x:GOp) (p0 p11 p12:PV) (g:List AObj) (i:Nat) (a:Attr) (left:Int) (h:x.attrs[i]? = some a) (hb:x.attrs.length≤1048576) (ha:a.value.length+a.name.length≤1048576) (hl : -4611686018427387904≤left) (hl2:left≤4611686018427387904) :
  aexec C N B10x1 ⟨[(0,.p p0),(5,.p (.int .i64 left)),(7,.ptr false 7 9 1 0 0),(11,.p p11),(12,.p p12),(46,.p (.int .i64 x.attrs.length)),(47,.p (.int .i64 i))],[(7,.pcells 9 [x.pv])],g⟩ =
   some (.normal,⟨[(0,.p p0),(5,.p (.int .i64 (left - ((a.value.length:Int)+a.name.length).tdiv 4096))),(7,.ptr false 7 9 1 0 0),(11,.p p11),(12,.p p12),(46,.p (.int .i64 x.attrs.length)),(47,.p (.int .i64 (i+1)))],[(7,.pcells 9 [x.pv])],g⟩):=by
 have hlt:i<x.attrs.length:=(List.getElem?_eq_some_iff.1 h).1
 have h1:(i:Int)<(x.attrs.length:Int):=by omega
 have h2:=attr_get h
 have q:0≤((a.value.length:Int)+(a.name.length:Int)).tdiv 4096∧((a.value.length:Int)+(a.name.length:Int)).tdiv 4096≤1048576:=by
  rw [Int.tdiv_eq_ediv_of_nonneg (by omega)];omega
 generalize hq:((a.value.length:Int)+(a.name.length:Int)).tdiv 4096=d at q ⊢
 obtain ⟨w1,w2,w3,w4⟩:IntKind.i64.wrap ((a.value.length:Int)+(a.name.length:Int))=(a.value.length:Int)+(a.name.length:Int)∧IntKind.i64.wrap d=d∧IntKind.i64.wrap (left - d)=left - d∧IntKind.i64.wrap ((i:Int)+1)=(i:Int)+1 :=
  ⟨wrap_id (by omega) (by omega),wrap_id (by omega) (by omega),wrap_id (by omega) (by omega),wrap_id (by omega) (by omega)⟩
 simp -implicitDefEqProofs (disch:=omega) only [Rx,simprocAttr,B10x1,h1,h2,GOp.pv,attrsPV,w1,hq,w2,w3,w4]
theorem few_attr_end {C:Calls'} {N:Nat} (x:GOp) (p0 p11 p12:PV) (g:List AObj) (left:Int) :
  aexec C N B10x1 ⟨[(0,.p p0),(5,.p (.int .i64 left)),(7,.ptr false 7 9 1 0 0),(11,.p p11),(12,.p p12),(46,.p (.int .i64 x.attrs.length)),(47,.p (.int .i64 x.attrs.length))],[(7,.pcells 9 [x.pv])],g⟩ =
   some (.exit 2,⟨[(0,.p p0),(5,.p (.int .i64 left)),(11,.p p11),(12,.p p12)],[],g⟩):=by
 have h1:¬ ((x.attrs.length:Int)<(x.attrs.length:Int)):=by omega
 simp -implicitDefEqProofs (disch:=omega) only [Rx,simprocAttr,B10x1,h1]
def smallAttrs (l:List Attr):Prop:=∀ a ∈ l,a.value.length+a.name.length≤1048576
theorem few_attrs {C:Calls'} {N:Nat} (x:GOp) (p0 p11 p12:PV) (g:List AObj) (hb:x.attrs.length≤1048576) (hs:smallAttrs x.attrs) (rest:List Attr):∀ (pre:List Attr) (m:Nat) (left:Int),x.attrs=pre++rest→rest.length<m →
    -4611686018427387904+1048576*(rest.length:Int)≤left→left≤4611686018427387904 →
    aloop C N B10x1 m ⟨[(0,.p p0),(5,.p (.int .i64 left)),(7,.ptr false 7 9 1 0 0),(11,.p p11),(12,.p p12),(46,.p (.int .i64 x.attrs.length)),(47,.p (.int .i64 pre.length))],[(7,.pcells 9 [x.pv])],g⟩ =
      some (.exit 2,⟨[(0,.p p0),(5,.p (.int .i64 (attrsLeft rest left))),(11,.p p11),(12,.p p12)],[],g⟩):=by
  induction rest with
  | nil =>
    intro pre m left hd hm h1 h2
    obtain ⟨m,rfl⟩:∃ k,m=k+1:=⟨m - 1,by simp at hm;omega⟩
    have e:pre.length=x.attrs.length:=by rw [hd];simp
    rw [e,aloop_succ,few_attr_end,bl_exit];rfl
  | cons a rest ih =>
    intro pre m left hd hm h1 h2
    obtain ⟨m,rfl⟩:∃ k,m=k+1:=⟨m - 1,by simp at hm;omega⟩
    have hget:x.attrs[pre.length]? = some a:=by rw [hd];simp
    have hmem:a ∈ x.attrs:=List.mem_of_getElem? hget
    simp only [List.length_cons,Int.natCast_add,Int.natCast_one] at hm h1
    have q:0≤((a.value.length:Int)+(a.name.length:Int)).tdiv 4096∧((a.value.length:Int)+(a.name.length:Int)).tdiv 4096≤1048576:=by
      have:=hs a hmem
      rw [Int.tdiv_eq_ediv_of_nonneg (by omega)];omega
    rw [aloop_succ,few_attr x p0 p11 p12 g pre.length a left hget hb (hs a hmem) (by omega) h2,bl_normal]
    have:=ih (pre++[a]) m (left - ((a.value.length:Int)+a.name.length).tdiv 4096) (by rw [hd];simp) (by omega) (by omega) (by omega)
    rw [List.length_append,Int.natCast_add] at this
    exact this
theorem few_attrs0 {C:Calls'} {N:Nat} (x:GOp) (p0 p11 p12:PV) (g:List AObj) (hb:x.attrs.length≤1048576) (hs:smallAttrs x.attrs) (hN:x.attrs.length<N) {left:Int} (h1 : -4611686018427387904+1048576*(x.attrs.length:Int)≤left) (h2:left≤4611686018427387904) :
  aexec C N (.loop B10x1) ⟨[(0,.p p0),(5,.p (.int .i64 left)),(7,.ptr false 7 9 1 0 0),(11,.p p11),(12,.p p12),(46,.p (.int .i64 x.attrs.length)),(47,.p (.int .i64 0))],[(7,.pcells 9 [x.pv])],g⟩ =
   some (.exit 2,⟨[(0,.p p0),(5,.p (.int .i64 (attrsLeft x.attrs left))),(11,.p p11),(12,.p p12)],[],g⟩):=by
 rw [aexec_loop]
 exact few_attrs x p0 p11 p12 g hb hs x.attrs [] N left rfl hN h1 h2
def smallOp (x:GOp):Prop:=x.attrs.length≤1048576∧smallAttrs x.attrs∧x.text.length+x.key.length+x.tag.length+x.name.length≤1048576
theorem smallOp_of {x:GOp} {n:Nat} (h:bulkL x.pv≤n) (hn:n≤1048576):smallOp x∧x.attrs.length<n:=by
 rw [bulk_op] at h
 obtain ⟨h1,h2⟩:=bulk_attrs x.attrs
 refine ⟨⟨by omega,fun a ha=>by have:=h1 a ha;omega,by omega⟩,by omega⟩
theorem attrsLeft_boundF (l:List Attr) (hs:smallAttrs l):∀ left:Int,left - 1048576*(l.length:Int)≤attrsLeft l left∧attrsLeft l left≤left:=by
  induction l with
  | nil=>intro left;simp [attrsLeft]
  | cons a l ih =>
    intro left
    have ha:=hs a (by simp)
    have q:0≤((a.value.length:Int)+(a.name.length:Int)).tdiv 4096∧((a.value.length:Int)+(a.name.length:Int)).tdiv 4096≤1048576:=by
      rw [Int.tdiv_eq_ediv_of_nonneg (by omega)];omega
    obtain ⟨z1,z2⟩:=ih (fun b hb=>hs b (by simp [hb])) (left - ((a.value.length:Int)+a.name.length).tdiv 4096)
    simp only [attrsLeft,List.length_cons,Int.natCast_add,Int.natCast_one]
    constructor <;> omega
theorem op_get {l:List GOp} {i:Nat} {x:GOp} (h:l[i]? = some x):(l.map GOp.pv).getD i []=x.pv:=by
 rw [List.getD_eq_getElem?_getD,List.getElem?_map,h];rfl
def fewCost (x:GOp):Int:=((x.text.length:Int)+x.key.length+x.tag.length+x.name.length).tdiv 4096
theorem fewCost_bound {x:GOp} (h:smallOp x):0≤fewCost x∧fewCost x≤1048576:=by
 have:=h.2.2
 unfold fewCost
 rw [Int.tdiv_eq_ediv_of_nonneg (by omega)];omega
theorem few_op {C:Calls'} {N:Nat} (l:List GOp) (g:List AObj) (i:Nat) (x:GOp) (left:Int) (h:l[i]? = some x) (hx:smallOp x) (hN:x.attrs.length<N) (hlen:l.length≤1048576) (hl : -1099511627776≤left) (hl2:left≤1099511627776) :
  aexec C N B10x0 ⟨[(0,.p (.list (l.map GOp.pv))),(5,.p (.int .i64 left)),(11,.p (.int .i64 l.length)),(12,.p (.int .i64 i))],[],g⟩ =
   if left - 1 - x.attrs.length - fewCost x<0 then some (.ret,⟨[(4,.p (.bool false))],[],g⟩) else
   some (.normal,⟨[(0,.p (.list (l.map GOp.pv))),(5,.p (.int .i64 (attrsLeft x.attrs (left - 1 - x.attrs.length - fewCost x)))),(11,.p (.int .i64 l.length)),(12,.p (.int .i64 (i+1)))],[],g⟩):=by
 have hlt:i<l.length:=(List.getElem?_eq_some_iff.1 h).1
 have h1:(i:Int)<(l.length:Int):=by omega
 have h2:=op_get h
 obtain ⟨b1,b2,b3⟩:=hx
 have q:=fewCost_bound (x:=x) ⟨b1,b2,b3⟩
 have hq:((x.text.length:Int)+x.key.length+x.tag.length+x.name.length).tdiv 4096=fewCost x:=rfl
 generalize fewCost x=d at q hq ⊢
 obtain ⟨w1,w2,w3,w4,w5,w6,w7,w8⟩:IntKind.i64.wrap ((x.text.length:Int)+x.key.length)=(x.text.length:Int)+x.key.length∧IntKind.i64.wrap ((x.text.length:Int)+x.key.length+x.tag.length)=(x.text.length:Int)+x.key.length+x.tag.length ∧
   IntKind.i64.wrap ((x.text.length:Int)+x.key.length+x.tag.length+x.name.length)=(x.text.length:Int)+x.key.length+x.tag.length+x.name.length∧IntKind.i64.wrap d=d∧IntKind.i64.wrap (left - 1)=left - 1 ∧
   IntKind.i64.wrap (left - 1 - x.attrs.length)=left - 1 - x.attrs.length∧IntKind.i64.wrap (left - 1 - x.attrs.length - d)=left - 1 - x.attrs.length - d∧IntKind.i64.wrap ((i:Int)+1)=(i:Int)+1 :=
  ⟨wrap_id (by omega) (by omega),wrap_id (by omega) (by omega),wrap_id (by omega) (by omega),wrap_id (by omega) (by omega),wrap_id (by omega) (by omega),wrap_id (by omega) (by omega),wrap_id (by omega) (by omega),wrap_id (by omega) (by omega)⟩
 have hloop:=few_attrs0 (C:=C) (N:=N) x (.list (l.map GOp.pv)) (.int .i64 l.length) (.int .i64 i) g b1 b2 hN (left:=left - 1 - x.attrs.length - d) (by omega) (by omega)
 by_cases hneg:left - 1 - x.attrs.length - d<0
 ·simp -implicitDefEqProofs (disch:=omega) only [Rx,simprocAttr,B10x0,h1,h2,GOp.pv,attrsPV,w1,hq,w2,w3,w4,w5,w6,w7,hneg]
 ·simp only [GOp.pv,attrsPV] at hloop
  simp -implicitDefEqProofs (disch:=omega) only [Rx,simprocAttr,B10x0,h1,h2,GOp.pv,attrsPV,w1,hq,w2,w3,w4,w5,w6,w7,w8,hneg,hloop]
def fewEnd (r:Option Int) (l:PV) (n:Int) (g:List AObj):Ex × St:=match r with
 | none=>(.ret,⟨[(4,.p (.bool false))],[],g⟩)
 | some left=>(.exit 0,⟨[(5,.p (.int .i64 left))],[],g⟩)
theorem few_op_end {C:Calls'} {N:Nat} (l:List GOp) (g:List AObj) (left:Int) :
  aexec C N B10x0 ⟨[(0,.p (.list (l.map GOp.pv))),(5,.p (.int .i64 left)),(11,.p (.int .i64 l.length)),(12,.p (.int .i64 l.length))],[],g⟩=some (.exit 0,⟨[(5,.p (.int .i64 left))],[],g⟩):=by
 have h1:¬ ((l.length:Int)<(l.length:Int)):=by omega
 simp -implicitDefEqProofs (disch:=omega) only [Rx,simprocAttr,B10x0,h1]
theorem few_ops {C:Calls'} {N:Nat} (l:List GOp) (g:List AObj) (hs:∀ x ∈ l,smallOp x∧x.attrs.length<N) (hlen:l.length≤1048576) (rest:List GOp):∀ (pre:List GOp) (m:Nat) (left:Int),l=pre++rest→rest.length<m→(pre≠[]→0≤left+1099511627776) → -1099511627776≤left→left≤1000000 →
    aloop C N B10x0 m ⟨[(0,.p (.list (l.map GOp.pv))),(5,.p (.int .i64 left)),(11,.p (.int .i64 l.length)),(12,.p (.int .i64 pre.length))],[],g⟩=some (fewEnd (fewOpsL rest left) (.list (l.map GOp.pv)) l.length g):=by
  induction rest with
  | nil =>
    intro pre m left hd hm _ h1 h2
    obtain ⟨m,rfl⟩:∃ k,m=k+1:=⟨m - 1,by simp at hm;omega⟩
    have e:pre.length=l.length:=by rw [hd];simp
    rw [e,aloop_succ,few_op_end,bl_exit];rfl
  | cons x rest ih =>
    intro pre m left hd hm _ h1 h2
    obtain ⟨m,rfl⟩:∃ k,m=k+1:=⟨m - 1,by simp at hm;omega⟩
    have hget:l[pre.length]? = some x:=by rw [hd];simp
    have hmem:x ∈ l:=List.mem_of_getElem? hget
    obtain ⟨hx,hN⟩:=hs x hmem
    rw [aloop_succ,few_op l g pre.length x left hget hx hN hlen (by omega) (by omega)]
    have hc:fewOpsL (x::rest) left=if left - 1 - x.attrs.length - fewCost x<0 then none else fewOpsL rest (attrsLeft x.attrs (left - 1 - x.attrs.length - fewCost x)):=rfl
    rw [hc]
    have q:=fewCost_bound hx
    by_cases hneg:left - 1 - x.attrs.length - fewCost x<0
    · rw [if_pos hneg,if_pos hneg,bl_ret];rfl
    · rw [if_neg hneg,if_neg hneg,bl_normal]
      have hb:=attrsLeft_boundF x.attrs hx.2.1 (left - 1 - x.attrs.length - fewCost x)
      have hb2:(x.attrs.length:Int)≤1000000:=by omega
      simp only [List.length_cons] at hm
      have:=ih (pre++[x]) m (attrsLeft x.attrs (left - 1 - x.attrs.length - fewCost x)) (by rw [hd];simp) (by omega) (by omega) (by omega) (by omega)
      rw [List.length_append,Int.natCast_add] at this
      exact this
theorem few_run (l:List GOp) (most:Int) (g:List AObj) {n:Nat} (hs:∀ x ∈ l,smallOp x∧x.attrs.length<n) (hlen:l.length≤1048576) (hn:l.length<n) (h1:0≤most) (h2:most≤1000000) :
    acall T (n+1) 10 [.p (.list (l.map GOp.pv)),.p (.int .i64 most)] g=some (.p (.bool (fewOps l most)),g):=by
  rw [acall_code T10,run_pure rfl rfl rfl]
  have hloop:=few_ops (C:=acall T n) (N:=n) l [] hs hlen l [] n most rfl hn (by simp) (by omega) (by omega)
  rw [← aexec_loop] at hloop
  cases hr:fewOpsL l most with
  | none =>
    rw [hr] at hloop
    simp -implicitDefEqProofs only [F10,fewEnd,List.length_nil,Int.natCast_zero] at hloop ⊢
    simp -implicitDefEqProofs (disch:=omega) only [Rx,simprocAttr,hloop,fewOps,hr]
  | some left =>
    rw [hr] at hloop
    simp -implicitDefEqProofs only [F10,fewEnd,List.length_nil,Int.natCast_zero] at hloop ⊢
    simp -implicitDefEqProofs (disch:=omega) only [Rx,simprocAttr,hloop,fewOps,hr]
end Go.TA.Tryz


end
section
/- The other guard of most laws: whether rows are few. -/
set_option maxRecDepth 100000
set_option maxHeartbeats 1000000
namespace Go.TA.Tryz
def rowCost (x:GRow):Int:=((x.text.length:Int)+x.key.length+x.tag.length).tdiv 4096
def fewRowsL:List GRow→Int→Option Int
 | [],left=>some left
 | x::l,left=>if left - 1 - x.attrs.length - rowCost x<0 then none else fewRowsL l (attrsLeft x.attrs (left - 1 - x.attrs.length - rowCost x))
def fewRows (l:List GRow) (most:Int):Bool:=match fewRowsL l most with
 | some n=>decide (n ≥ 0)
 | none=>false
theorem tdiv_bound {x:Int} (h:0≤x) (h2:x≤2097152):0≤x.tdiv 4096∧x.tdiv 4096≤1048576:=by
 rw [Int.tdiv_eq_ediv_of_nonneg h];omega
theorem attrsLeft_bound (l:List Attr) (hs:smallAttrs l):∀ left:Int,left - 1048576*(l.length:Int)≤attrsLeft l left∧attrsLeft l left≤left:=by
  induction l with
  | nil=>intro left;simp [attrsLeft]
  | cons a l ih =>
    intro left
    have ha:=hs a (by simp)
    have q:=tdiv_bound (x:=(a.value.length:Int)+(a.name.length:Int)) (by omega) (by omega)
    obtain ⟨z1,z2⟩:=ih (fun b hb=>hs b (by simp [hb])) (left - ((a.value.length:Int)+a.name.length).tdiv 4096)
    simp only [attrsLeft,List.length_cons,Int.natCast_add,Int.natCast_one]
    constructor <;> omega
theorem fewR_inner {C : Calls'} {N n : Nat} (l : List GRow) (i : Nat) (x : GRow) (h : l[i]? = some x) (hx : x.small n) (hn : n ≤ 1048577) (hN : n ≤ N) (left : Int) (hl : -1099511627776 ≤ left) (hl2 : left ≤ 1000000) :
    aexec C N (.loop B9x1) ⟨[(0,.p (.list (l.map GRow.pv))),(5,.p (.int .i64 left)),(6,.p (.int .i64 i)),(10,.p (.int .i64 l.length)),(11,.p (.int .i64 i)),(52,.p (.int .i64 x.attrs.length)),(53,.p (.int .i64 0))],[],[]⟩ =
      some (.exit 2,⟨[(0,.p (.list (l.map GRow.pv))),(5,.p (.int .i64 (attrsLeft x.attrs left))),(10,.p (.int .i64 l.length)),(11,.p (.int .i64 i))],[],[]⟩):=by
  have hlt:i<l.length:=(List.getElem?_eq_some_iff.1 h).1
  have hg:=getD_map (f:=GRow.pv) h
  have:=hx.attrs
  refine loop_rule' (σ := Nat × Int) (S:=fun s=>⟨[(0,.p (.list (l.map GRow.pv))),(5,.p (.int .i64 s.2)),(6,.p (.int .i64 i)),(10,.p (.int .i64 l.length)),(11,.p (.int .i64 i)),(52,.p (.int .i64 x.attrs.length)),(53,.p (.int .i64 s.1))],[],[]⟩)
    (I:=fun s=>s.1≤x.attrs.length ∧ -1099511627776 - 1048576*(s.1:Int)≤s.2∧s.2≤1000000) (μ := fun s=>x.attrs.length - s.1)
    (Φ := fun s=>(.exit 2,⟨[(0,.p (.list (l.map GRow.pv))),(5,.p (.int .i64 (attrsLeft (x.attrs.drop s.1) s.2))),(10,.p (.int .i64 l.length)),(11,.p (.int .i64 i))],[],[]⟩)) ?_ (0,left) ?_ ?_
  · rintro ⟨k,left⟩ ⟨h1,h2,h3⟩
    simp only at h1 h2 h3 ⊢
    by_cases hk:k<x.attrs.length
    · obtain ⟨a,ha⟩:=get_some hk
      have hga:=getD_map (f:=Attr.pv) ha
      have hs:=hx.small a (List.mem_of_getElem? ha)
      have q:=tdiv_bound (x:=(a.value.length:Int)+(a.name.length:Int)) (by omega) (by omega)
      refine .inl ⟨(k+1,left - ((a.value.length:Int)+a.name.length).tdiv 4096), ?_,⟨by omega,by simp only [Int.natCast_add,Int.natCast_one];omega,by omega⟩,by simp only;omega, ?_⟩
      · have k1:(k:Int)<(x.attrs.length:Int):=by omega
        have k2:(i:Int)<(l.length:Int):=by omega
        simp -implicitDefEqProofs (disch:=omega) only [Rx,simprocAttr,B9x1,k1,k2,hg,hga,GRow.pv,attrsPV,Attr.pv]
      · rw [List.drop_eq_getElem?_toList_append,ha];rfl
    · refine .inr ⟨?_,by simp⟩
      have:k=x.attrs.length:=by omega
      subst this
      have k1:¬ ((x.attrs.length:Int)<(x.attrs.length:Int)):=by omega
      simp -implicitDefEqProofs (disch:=omega) only [Rx,simprocAttr,B9x1,k1,List.drop_length,attrsLeft]
  · simp only [Int.natCast_zero];omega
  · simp only;omega
def fewREnd (r:Option Int):Ex × St:=match r with
 | none=>(.ret,⟨[(4,.p (.bool false))],[],[]⟩)
 | some left=>(.exit 0,⟨[(5,.p (.int .i64 left))],[],[]⟩)
theorem fewR_outer {C : Calls'} {N n : Nat} (l : List GRow) (hl : Rows.small n l) (hn : n ≤ 1048577) (hN : n ≤ N) (most : Int) (h1 : 0 ≤ most) (h2 : most ≤ 1000000) :
    aexec C N (.loop B9x0) ⟨[(0,.p (.list (l.map GRow.pv))),(5,.p (.int .i64 most)),(10,.p (.int .i64 l.length)),(11,.p (.int .i64 0))],[],[]⟩=some (fewREnd (fewRowsL l most)):=by
  have hlen:=hl.len
  refine loop_rule' (σ := Nat × Int) (S:=fun s=>⟨[(0,.p (.list (l.map GRow.pv))),(5,.p (.int .i64 s.2)),(10,.p (.int .i64 l.length)),(11,.p (.int .i64 s.1))],[],[]⟩)
    (I:=fun s=>s.1≤l.length ∧ -1099511627776≤s.2∧s.2≤1000000) (μ := fun s=>l.length - s.1)
    (Φ := fun s=>fewREnd (fewRowsL (l.drop s.1) s.2)) ?_ (0,most) ?_ ?_
  · rintro ⟨i,left⟩ ⟨h1,h2,h3⟩
    simp only at h1 h2 h3 ⊢
    by_cases hi:i<l.length
    · obtain ⟨x,hx⟩:=get_some hi
      have hgx:=getD_map (f:=GRow.pv) hx
      have hs:=hl.row x (List.mem_of_getElem? hx)
      have q:=tdiv_bound (x:=(x.text.length:Int)+x.key.length+x.tag.length) (by omega) (by have:=hs.text;omega)
      have ha:=hs.attrs
      have hd:l.drop i=x::l.drop (i+1):=by rw [List.drop_eq_getElem?_toList_append,hx];rfl
      have k2:(i:Int)<(l.length:Int):=by omega
      have hc:fewRowsL (l.drop i) left=if left - 1 - x.attrs.length - rowCost x<0 then none else fewRowsL (l.drop (i+1)) (attrsLeft x.attrs (left - 1 - x.attrs.length - rowCost x)):=by rw [hd];rfl
      have htx:=hs.text
      unfold rowCost at hc
      by_cases hneg:left - 1 - x.attrs.length - ((x.text.length:Int)+x.key.length+x.tag.length).tdiv 4096<0
      · refine .inr ?_
        rw [hc,if_pos hneg]
        refine ⟨?_,by simp [fewREnd]⟩
        simp -implicitDefEqProofs (disch:=omega) only [Rx,simprocAttr,B9x0,k2,hgx,GRow.pv,attrsPV,hneg,fewREnd]
      · have hb:=attrsLeft_bound x.attrs hs.small (left - 1 - x.attrs.length - ((x.text.length:Int)+x.key.length+x.tag.length).tdiv 4096)
        have hloop:=fewR_inner (C:=C) (N:=N) (n:=n) l i x hx hs hn hN (left - 1 - x.attrs.length - ((x.text.length:Int)+x.key.length+x.tag.length).tdiv 4096) (by omega) (by omega)
        refine .inl ⟨(i+1,attrsLeft x.attrs (left - 1 - x.attrs.length - ((x.text.length:Int)+x.key.length+x.tag.length).tdiv 4096)), ?_,⟨by omega,by simp only;omega,by simp only;omega⟩,by simp only;omega,by simp only;rw [hc,if_neg hneg]⟩
        simp -implicitDefEqProofs (disch:=omega) only [Rx,simprocAttr,B9x0,k2,hgx,GRow.pv,attrsPV,hneg,hloop]
    · refine .inr ⟨?_, ?_⟩
      · have:i=l.length:=by omega
        subst this
        have k1:¬ ((l.length:Int)<(l.length:Int)):=by omega
        simp -implicitDefEqProofs (disch:=omega) only [Rx,simprocAttr,B9x0,k1,List.drop_length,fewRowsL,fewREnd]
      · have:l.drop i=[]:=List.drop_eq_nil_of_le (by omega)
        simp [this,fewRowsL,fewREnd]
  · simp only;omega
  · simp only;omega
theorem fewR_run (l:List GRow) (most:Int) (g:List AObj) {n:Nat} (hl:Rows.small n l) (hn:n≤1048577) (h1:0≤most) (h2:most≤1000000) {m:Nat} (hm:n≤m) :
    acall T (m+1) 9 [.p (.list (l.map GRow.pv)),.p (.int .i64 most)] g=some (.p (.bool (fewRows l most)),g):=by
  rw [acall_code T9,run_pure rfl rfl rfl]
  have hloop:=fewR_outer (C:=acall T m) (N:=m) l hl hn hm most h1 h2
  cases hr:fewRowsL l most with
  | none =>
    rw [hr] at hloop
    simp -implicitDefEqProofs only [F9,fewREnd] at hloop ⊢
    simp -implicitDefEqProofs (disch:=omega) only [Rx,simprocAttr,hloop,fewRows,hr]
  | some left =>
    rw [hr] at hloop
    simp -implicitDefEqProofs only [F9,fewREnd] at hloop ⊢
    simp -implicitDefEqProofs (disch:=omega) only [Rx,simprocAttr,hloop,fewRows,hr]
end Go.TA.Tryz


end
section
/- Sizes that stay: of a machine's nodes through a script, and of its rows; how many stand below the holder. -/
namespace Go.TA
structure MNode.small (s:MNode):Prop where
 len:s.attrs.length≤1048576
 attrs:smallAttrs s.attrs
def MS.small (S:MS):Prop:=∀ h,(S.st h).small
theorem smallAttrs_nil:smallAttrs []:=fun a ha=>by simp at ha
theorem deadN_small:deadN.small:=⟨by simp [deadN],smallAttrs_nil⟩
theorem upd_small {S:MS} (h:S.small) {h0:Nat} {s:MNode} (hs:s.small) (k:Nat):(upd S.st h0 s k).small:=by
 unfold upd;split
 ·exact hs
 ·exact h k
theorem withA_small {l:List Attr} (h:smallAttrs l) {name v:Bs} (hv:v.length+name.length≤1048576):smallAttrs (withA l name v):=by
 intro a ha
 unfold withA at ha
 split at ha
 ·rcases List.mem_or_eq_of_mem_set ha with h1 | rfl
  ·exact h a h1
  ·exact hv
 ·rcases List.mem_append.1 ha with h1 | h1
  ·exact h a (List.mem_of_mem_take h1)
  ·rcases List.mem_cons.1 h1 with rfl | h1
   ·exact hv
   ·exact h a (List.mem_of_mem_drop h1)
theorem placeM_small {S:MS} (h:S.small) (h0 u:Nat) (b:Int):(placeM S h0 u b).small:=fun k=>by
 simp only [placeM]
 refine upd_small h ?_ k
 exact ⟨(h h0).len,(h h0).attrs⟩
theorem takeM_small {S:MS} (h:S.small) (h0:Nat):(takeM S h0).small:=by
 unfold takeM;split
 ·exact h
 ·intro k
  refine upd_small h ?_ k
  exact ⟨(h h0).len,(h h0).attrs⟩
theorem doM_small {S:MS} (h:S.small) {x:GOp} (hx:Tryz.smallOp x):(doM S x).2.small:=by
 obtain ⟨x1,x2,x3⟩:=hx
 unfold doM
 split
 ·intro k
  refine upd_small h ?_ k
  exact ⟨x1,x2⟩
 split
 ·exact h
 split
 ·unfold insertM
  repeat' split
  all_goals first | exact h | exact placeM_small h _ _ _
 split
 ·unfold moveM
  repeat' split
  all_goals first | exact h | exact placeM_small (takeM_small h _) _ _ _
 split
 ·exact h
 split
 ·intro k
  simp only [endM]
  split
  ·exact deadN_small
  ·exact takeM_small h _ k
 unfold changeM
 split
 ·split
  ·exact h
  ·rename_i hl
   intro k
   refine upd_small h ?_ k
   exact ⟨by simp only;omega,withA_small (h _).attrs (by omega)⟩
 split
 ·split
  ·rename_i hl
   intro k
   refine upd_small h ?_ k
   exact ⟨by simp only;have:=(h x.node.toNat).len;omega,fun a ha=>(h x.node.toNat).attrs a (List.mem_filter.1 ha).1⟩
  ·exact h
 split
 ·intro k
  refine upd_small h ?_ k
  exact ⟨(h _).len,(h _).attrs⟩
 ·exact h
theorem S0_small {l:List GRow} {m:Nat} (hl:Rows.mid m l) (hm:m≤1048577):(S0 l).small:=by
  intro h
  have hh:holder.small:=⟨by simp [holder],smallAttrs_nil⟩
  cases h with
  | zero=>exact hh
  | succ h =>
    simp only [S0,st0]
    cases hx:l[h]? with
    | none=>exact hh
    | some x =>
      have:=hl.row x (List.mem_of_getElem? hx)
      have h1:=this.attrs
      exact ⟨by simp only [Option.map_some,Option.getD_some,nodeOf];omega,this.small⟩
theorem belowM_mem {S : MS} : ∀ (d : Nat) (out : List GRow) (h up : Int), ∀ x ∈ belowM S d out h up, x ∈ out ∨ ∃ k u, x = rowM S k u
  | 0,out,h,up,x,hx => .inl hx
  | d + 1, out, h, up, x, hx => by
    have key:∀ (ks:List Int) (out:List GRow),∀ x ∈ ks.foldl (fun out k=>belowM S d (out++[rowM S k up]) k ((out.length:Int)+1)) out,x ∈ out∨∃ k u,x=rowM S k u:=by
      intro ks
      induction ks with
      | nil=>exact fun out x hx => .inl hx
      | cons k ks ih =>
        intro out x hx
        rcases ih _ x hx with h1 | h1
        · rcases belowM_mem d _ _ _ x h1 with h2 | h2
          · rcases List.mem_append.1 h2 with h3 | h3
            · exact .inl h3
            · simp only [List.mem_singleton] at h3
              exact .inr ⟨_,_,h3⟩
          · exact .inr h2
        · exact .inr h1
    rw [belowM] at hx
    exact key _ _ x hx
theorem rowsM_small {R:Nat} {S:MS} (hS:S.Ok R) (h:S.small) (hN:S.N<1048577) (R':Nat):Rows.mid 1048577 (rowsM S R'):=by
 have hl:=rowsM_len hS R'
 refine ⟨by omega,fun x hx => ?_⟩
 rcases belowM_mem _ _ _ _ x hx with h1 | ⟨k,u,rfl⟩
 ·simp at h1
 ·have:=h k.toNat
  have h1:=this.len
  exact ⟨by simp only [rowM];omega,this.attrs⟩
def tops (l:List GRow):Nat:=l.countP fun x=>x.up==0
theorem tops_app (l k:List GRow):tops (l++k)=tops l+tops k:=List.countP_append
theorem tops_row {S:MS} {k u:Int}:tops [rowM S k u]=if u=0 then 1 else 0:=by
 simp [tops,List.countP_cons,rowM]
theorem tops_below {S : MS} : ∀ (d : Nat) (out : List GRow) (h up : Int), 0 < up → tops (belowM S d out h up) = tops out
  | 0,out,h,up,hu=>rfl
  | d + 1, out, h, up, hu => by
    have key:∀ (ks:List Int) (out:List GRow),tops (ks.foldl (fun out k=>belowM S d (out++[rowM S k up]) k ((out.length:Int)+1)) out)=tops out:=by
      intro ks
      induction ks with
      | nil=>exact fun out=>rfl
      | cons k ks ih =>
        intro out
        rw [List.foldl_cons,ih,tops_below d _ _ _ (by omega),tops_app,tops_row,if_neg (by omega),Nat.add_zero]
    rw [belowM]
    exact key _ _
theorem tops_top {S:MS} (d:Nat) (h:Nat):tops (belowM S (d+1) [] (h:Int) 0)=(S.kd h).length:=by
  have key:∀ (ks:List Int) (out:List GRow),tops (ks.foldl (fun out k=>belowM S d (out++[rowM S k 0]) k ((out.length:Int)+1)) out)=tops out+ks.length:=by
    intro ks
    induction ks with
    | nil=>exact fun out=>rfl
    | cons k ks ih =>
      intro out
      rw [List.foldl_cons,ih,tops_below d _ _ _ (by omega),tops_app,tops_row,if_pos rfl,List.length_cons]
      omega
  rw [belowM,key,Int.toNat_natCast]
  simp [tops]
theorem tops_rows (S:MS) (R:Nat):tops (rowsM S R)=(S.kd 0).length:=tops_top R 0
theorem tops_take {l:List GRow} {i:Nat} {x:GRow} (hx:l[i]? = some x):tops (l.take (i+1))=tops (l.take i)+if x.up=0 then 1 else 0:=by
 rw [tops,List.take_add_one,hx,List.countP_append,tops]
 simp [List.countP_cons]
theorem tops_le (l:List GRow):tops l≤l.length:=List.countP_le_length
namespace Tryz
theorem attrsLeft_le (l:List Attr):∀ left:Int,attrsLeft l left≤left:=by
  induction l with
  | nil=>exact fun left=>Int.le_refl _
  | cons a l ih =>
    intro left
    have h1:=ih (left - ((a.value.length:Int)+a.name.length).tdiv 4096)
    have h2:0≤((a.value.length:Int)+a.name.length).tdiv 4096:=Int.tdiv_nonneg (by omega) (by omega)
    simp only [attrsLeft]
    omega
theorem fewRowsL_len:∀ (l:List GRow) (left n:Int),fewRowsL l left=some n→n+l.length≤left
  | [],left,n,h=>by simp only [fewRowsL,Option.some.injEq] at h;simp;omega
  | x :: l, left, n, h => by
    rw [fewRowsL] at h
    split at h
    · cases h
    · have h1:=fewRowsL_len l _ n h
      have h2:=attrsLeft_le x.attrs (left - 1 - x.attrs.length - rowCost x)
      have h3:0≤rowCost x:=Int.tdiv_nonneg (by omega) (by omega)
      simp only [List.length_cons]
      omega
theorem fewRows_len {l:List GRow} {m:Int} (h:fewRows l m=true):(l.length:Int)≤m:=by
 unfold fewRows at h
 split at h
 ·rename_i n hn
  have:=fewRowsL_len l m n hn
  simp only [ge_iff_le,decide_eq_true_eq] at h
  omega
 ·cases h
theorem fewOpsL_len:∀ (l:List GOp) (left n:Int),fewOpsL l left=some n→n+l.length≤left
  | [],left,n,h=>by simp only [fewOpsL,Option.some.injEq] at h;simp;omega
  | x :: l, left, n, h => by
    rw [fewOpsL] at h
    split at h
    · cases h
    · have h1:=fewOpsL_len l _ n h
      have h2:=attrsLeft_le x.attrs (left - 1 - x.attrs.length - ((x.text.length:Int)+x.key.length+x.tag.length+x.name.length).tdiv 4096)
      have h3:0≤((x.text.length:Int)+x.key.length+x.tag.length+x.name.length).tdiv 4096:=Int.tdiv_nonneg (by omega) (by omega)
      simp only [List.length_cons]
      omega
theorem fewOps_len {l:List GOp} {m:Int} (h:fewOps l m=true):(l.length:Int)≤m:=by
 unfold fewOps at h
 split at h
 ·rename_i n hn
  have:=fewOpsL_len l m n hn
  simp only [ge_iff_le,decide_eq_true_eq] at h
  omega
 ·cases h
theorem doE_small {S:MS} (h:S.small) {x:GOp} (hx:smallOp x):(doE S x).2.small:=by
 unfold doE;split
 ·exact doM_small h hx
 ·exact h
theorem runM_facts:∀ (L:List GOp) {R:Nat} {S:MS} (hS:S.Ok R) (hs:S.small) (hL:∀ x ∈ L,smallOp x) (i:Nat),(runM S L i).2.2.Ok (bnd R L.length)∧(runM S L i).2.2.small∧(runM S L i).2.2.N≤S.N+L.length
  | [],R,S,hS,hs,hL,i=>⟨hS,hs,by simp [runM]⟩
  | x :: l, R, S, hS, hs, hL, i => by
    have hx:=hL x (by simp)
    obtain ⟨h1,h2,h3⟩:=doE_ok hS x (by have:=hx.1;omega)
    have h4:=doE_small hs hx
    have hb:∀ k,bnd (R+R+1) k=bnd R (k+1):=by
      intro k
      induction k with
      | zero=>rfl
      | succ k ih=>rw [bnd,ih];rfl
    rw [runM]
    split
    · obtain ⟨q1,q2,q3⟩:=runM_facts l h1 h4 (fun y hy=>hL y (by simp [hy])) (i+1)
      rw [hb] at q1
      exact ⟨q1,q2,by simp only [List.length_cons];omega⟩
    · refine ⟨h1.more ?_,h4,by simp only [List.length_cons];omega⟩
      have:=bnd_mono R (show 1≤(x::l).length by simp)
      exact this
end Tryz
end Go.TA


end
section
/- How many operations of a kind a list holds, by the program and by the document's answer. -/
set_option maxRecDepth 100000
set_option maxHeartbeats 8000000
namespace Go.TA
def times (L:List GOp) (k:Int):Nat:=L.countP (fun x=>x.kind==k)
theorem times_le (L:List GOp) (k:Int):times L k≤L.length:=List.countP_le_length
theorem times_take {L:List GOp} {i:Nat} {x:GOp} (hx:L[i]? = some x) (k:Int):times (L.take (i+1)) k=times (L.take i) k+if x.kind=k then 1 else 0:=by
 rw [times,List.take_add_one,hx,List.countP_append,times]
 simp [List.countP_cons]
namespace Tryz
theorem times_run (L:List GOp) (hlen:L.length≤1048576) (k:Int) (g:List AObj) {n:Nat} (hn:L.length<n) :
  acall T (n+1) 56 [.p (.list (L.map GOp.pv)),.p (.int .i64 k)] g=some (.p (.int .i64 (times L k)),g):=by
 have key:=loop_rule' (C:=acall T n) (N:=n) (B:=B56x0) (σ := Nat) (S:=fun i=>⟨[(0,.p (.list (L.map GOp.pv))),(1,.p (.int .i64 k)),(5,.p (.int .i64 (times (L.take i) k))),(8,.p (.int .i64 L.length)),(9,.p (.int .i64 i))],[],[]⟩)
  (I:=fun i=>i≤L.length) (μ := fun i=>L.length - i) (Φ := fun i=>(.exit 0,⟨[(5,.p (.int .i64 (times L k)))],[],[]⟩)) ?_ 0 (by omega) (by omega)
 ·have e0:times (L.take 0) k=0:=rfl
  have ll:(L.map GOp.pv).length=L.length:=by simp
  rw [e0] at key
  simp only [Int.natCast_zero] at key
  rw [acall_code T56,run_pure rfl rfl rfl]
  simp -implicitDefEqProofs (disch:=omega) only [Rx,simprocAttr,F56,ll,key]
 intro i hi
 by_cases h:i<L.length
 ·left
  obtain ⟨x,hx⟩:=get_some h
  have hg:=getD_map (f:=GOp.pv) hx
  have ll:(L.map GOp.pv).length=L.length:=by simp
  have k1:(i:Int)<(L.length:Int):=by omega
  have hle:=times_le (L.take i) k
  rw [List.length_take] at hle
  have ht:=times_take hx k
  refine ⟨i+1, ?_,by omega,by omega,rfl⟩
  rw [ht]
  by_cases e:x.kind=k
  ·have e1:(x.kind==k)=true:=by simpa using e
   rw [if_pos e]
   generalize times (L.take i) k=c at hle
   simp -implicitDefEqProofs (disch:=omega) only [Rx,simprocAttr,B56x0,k1,ll,hg,GOp.pv,e1]
  ·have e1:(x.kind==k)=false:=by simpa using e
   rw [if_neg e]
   generalize times (L.take i) k=c at hle
   simp -implicitDefEqProofs (disch:=omega) only [Rx,simprocAttr,B56x0,k1,ll,hg,GOp.pv,e1,Nat.add_zero]
 ·right
  obtain rfl:i=L.length:=by omega
  have k1:¬ (L.length:Int)<(L.length:Int):=by omega
  refine ⟨?_,by simp⟩
  rw [List.take_length]
  simp -implicitDefEqProofs (disch:=omega) only [Rx,simprocAttr,B56x0,k1]
def countS (L:List GOp) (i:Nat):List (List PV):=[[.int .i64 0,.int .i64 (times (L.take i) 1),.int .i64 (times (L.take i) 2),.int .i64 (times (L.take i) 3),.int .i64 (times (L.take i) 4),.int .i64 (times (L.take i) 5),.int .i64 (times (L.take i) 6),.int .i64 (times (L.take i) 7)]]
def count0:List (List PV):=[[.int .i64 0,.int .i64 0,.int .i64 0,.int .i64 0,.int .i64 0,.int .i64 0,.int .i64 0]]
theorem count_run (L : List GOp) (hlen : L.length ≤ 1048576) (g : List AObj) {n : Nat} (hn : L.length < n) :
    acall T (n+1) 90 [.p (.list (L.map GOp.pv))] g=some (.p (.agg [.int .i64 (times L 1),.int .i64 (times L 2),.int .i64 (times L 3),.int .i64 (times L 4),.int .i64 (times L 5),.int .i64 (times L 6),.int .i64 (times L 7)]),g):=by
  have key:=loop_rule' (C:=acall T n) (N:=n) (B:=B90x0) (σ := Nat) (S:=fun i=>⟨[(2,.ptr false 2 7 1 0 0),(3,.ptr false 3 8 1 0 0),(6,.p (.list (L.map GOp.pv))),(7,.p (.int .i64 L.length)),(8,.p (.int .i64 i))],[(2,.pcells 7 count0),(3,.pcells 8 (countS L i))],[]⟩)
    (I:=fun i=>i≤L.length) (μ := fun i=>L.length - i) (Φ := fun i=>(.exit 0,⟨[(2,.ptr false 2 7 1 0 0),(3,.ptr false 3 8 1 0 0)],[(2,.pcells 7 count0),(3,.pcells 8 (countS L L.length))],[]⟩)) ?_ 0 (by omega) (by omega)
  · have ll:(L.map GOp.pv).length=L.length:=by simp
    simp only [countS,count0,List.take_zero,List.take_length,show ∀ k,times [] k=0 from fun _=>rfl,Int.natCast_zero] at key
    rw [acall_code T90,run_pure rfl rfl rfl]
    simp -implicitDefEqProofs (disch:=omega) only [Rx,simprocAttr,F90,ll,key]
  intro i hi
  by_cases h:i<L.length
  · left
    obtain ⟨x,hx⟩:=get_some h
    have hg:=getD_map (f:=GOp.pv) hx
    have ll:(L.map GOp.pv).length=L.length:=by simp
    have k1:(i:Int)<(L.length:Int):=by omega
    have hle:∀ k,times (L.take i) k≤1048576:=fun k=>by have:=times_le (L.take i) k;rw [List.length_take] at this;omega
    have ht:=times_take hx
    refine ⟨i+1, ?_,by omega,by omega,rfl⟩
    simp only [countS,ht]
    have a1:=hle 1
    have a2:=hle 2
    have a3:=hle 3
    have a4:=hle 4
    have a5:=hle 5
    have a6:=hle 6
    have a7:=hle 7
    generalize times (L.take i) 1=c1 at a1 ⊢
    generalize times (L.take i) 2=c2 at a2 ⊢
    generalize times (L.take i) 3=c3 at a3 ⊢
    generalize times (L.take i) 4=c4 at a4 ⊢
    generalize times (L.take i) 5=c5 at a5 ⊢
    generalize times (L.take i) 6=c6 at a6 ⊢
    generalize times (L.take i) 7=c7 at a7 ⊢
    by_cases hk:0<x.kind∧x.kind<8
    · have:x.kind=1∨x.kind=2∨x.kind=3∨x.kind=4∨x.kind=5∨x.kind=6∨x.kind=7:=by omega
      rcases this with e | e | e | e | e | e | e <;> simp -implicitDefEqProofs (disch:=omega) only [Rx,simprocAttr,B90x0,count0,k1,ll,hg,GOp.pv,e,Nat.add_zero]
    · have n1:∀ k:Int,1≤k→k≤7→(x.kind=k)=False:=fun k h1 h2=>by simp;omega
      simp only [n1 1 (by omega) (by omega),n1 2 (by omega) (by omega),n1 3 (by omega) (by omega),n1 4 (by omega) (by omega),n1 5 (by omega) (by omega),n1 6 (by omega) (by omega),n1 7 (by omega) (by omega),if_false,Nat.add_zero]
      by_cases h0:0<x.kind
      · have h8:¬ x.kind<8:=by omega
        simp -implicitDefEqProofs (disch:=omega) only [Rx,simprocAttr,B90x0,count0,k1,ll,hg,GOp.pv,h0,h8]
      · simp -implicitDefEqProofs (disch:=omega) only [Rx,simprocAttr,B90x0,count0,k1,ll,hg,GOp.pv,h0]
  · right
    obtain rfl:i=L.length:=by omega
    have k1:¬ (L.length:Int)<(L.length:Int):=by omega
    refine ⟨?_,by simp⟩
    simp -implicitDefEqProofs (disch:=omega) only [Rx,simprocAttr,B90x0,k1]
end Tryz
end Go.TA


end
