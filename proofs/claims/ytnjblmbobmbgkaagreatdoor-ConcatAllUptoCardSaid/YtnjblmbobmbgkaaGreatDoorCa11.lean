/- Part 11 of 16 of a proof; joined from CalFormed, CalNames02, CalCmp, CalAttrs09, CalAttrsP, CalAlone, CalTree, CalOpsUsed, CalOpsNone3, CalOpsNone5, CalOpsNone7, CalOpsNone, CalOpsSame, CalOps25, CalDoE, MBelow, RMem, MRowsP, CalSimDo, KidsM. Of a machine's rows: which stand below which. Plain. -/
import Derived.Test.YtnjblmbobmbgkaaGreatDoorCa1
import Derived.Test.YtnjblmbobmbgkaaGreatDoorCa10
import Derived.Test.YtnjblmbobmbgkaaGreatDoorCa6
import Derived.Test.YtnjblmbobmbgkaaGreatDoorCa7
set_option linter.unusedSimpArgs false
set_option linter.unusedVariables false
set_option linter.defProp false
set_option maxRecDepth 100000
set_option maxHeartbeats 8000000
section
/- Rows that stand as a tree's do, and are not too deep: the program. -/
namespace Go.TA.Tryz
def c0i (l:List GRow) (h:Nat) (u:Int):Int:=if b3s l h u=true then u else 0
def d7r (l:List GRow) (i:Nat) (x:GRow) (h:Int):St:=⟨[(0,.p (.list (l.map GRow.pv))),(3,.p (.int .i64 i)),(4,.ptr false 4 6 1 0 0),(5,.p (.int .i64 h)),(6,.p (.list (l.map GRow.pv))),(7,.p (.int .i64 l.length)),(8,.p (.int .i64 i))],[(4,.pcells 6 [x.pv])],[]⟩
theorem g1k {n N : Nat} (l : List GRow) (i : Nat) (x : GRow) (hs : b1r l i) (hi : i ≤ l.length) (hl : l.length ≤ 1048576) (hN : i < N) :
    b0t (b0f T n) N (.loop g8p) (d7r l i x i)=some (.exit 2,d7r l i x (c0i l i x.up)):=by
  refine b1k (C:=b0f T n) (N:=N) (B:=g8p) (σ := Nat) (S:=fun h=>d7r l i x h) (I:=fun h=>h≤i) (μ := fun h=>h)
    (Φ := fun h=>(.exit 2,d7r l i x (c0i l h x.up))) ?_ i (Nat.le_refl _) hN
  intro h hh
  cases h with
  | zero =>
    refine .inr ⟨?_,by simp⟩
    have e:c0i l 0 x.up=0:=by simp [c0i,b3s,b4x]
    rw [e]
    simp -implicitDefEqProofs (disch:=omega) only [Rx,simprocAttr,g8p,d7r,GRow.pv,Int.natCast_zero]
  | succ h =>
    obtain ⟨r,hr,hu⟩:=d1i hs hi (show h<i by omega)
    have hg:=b0s (f:=GRow.pv) hr
    have k2:(h:Int)<(l.length:Int):=by omega
    have k0:((h:Int)+1==0)=false:=by simp;omega
    have hc:=b3l hs hi (show h<i by omega)
    cases he:((h:Int)+1==x.up) with
    | true =>
      have he':(h:Int)+1=x.up:=by simpa using he
      have e:c0i l (h+1) x.up=(h:Int)+1:=by
        have:b3s l (h+1) x.up=true:=by
          simp only [b3s,hc,List.any_cons,Bool.or_eq_true,beq_iff_eq]
          left;push_cast;exact he'
        simp [c0i,this,he']
      refine .inr ⟨?_,by simp⟩
      rw [e]
      simp -implicitDefEqProofs (disch:=omega) only [Rx,simprocAttr,g8p,d7r,GRow.pv,k0,he]
    | false =>
      have e:c0i l (h+1) x.up=c0i l (upAt l (h+1)) x.up:=by
        have:b3s l (h+1) x.up=b3s l (upAt l (h+1)) x.up:=by
          simp only [b3s,hc,List.any_cons]
          have:(((h+1:Nat):Int)==x.up)=false:=by simpa using he
          rw [this,Bool.false_or]
        simp only [c0i,this]
      have hle:=b5w hs (show h<i by omega) (by omega)
      refine .inl ⟨upAt l (h+1), ?_,by omega,by omega,by rw [e]⟩
      simp -implicitDefEqProofs (disch:=omega) only [Rx,simprocAttr,g8p,d7r,GRow.pv,k0,k2,he,hg,hu]
theorem g6r {n N : Nat} (l : List GRow) (hl : l.length ≤ 1048576) (hN : l.length < N) :
    b0t (b0f T n) N (.loop d9e) ⟨[(0,.p (.list (l.map GRow.pv))),(6,.p (.list (l.map GRow.pv))),(7,.p (.int .i64 l.length)),(8,.p (.int .i64 ((0:Nat):Int)))],[],[]⟩=some (b3u 2 (b4h l)):=by
  have:=b1k (C:=b0f T n) (N:=N) (B:=d9e) (σ := Nat) (S:=fun i=>⟨[(0,.p (.list (l.map GRow.pv))),(6,.p (.list (l.map GRow.pv))),(7,.p (.int .i64 l.length)),(8,.p (.int .i64 i))],[],[]⟩) (I:=fun i=>i≤l.length∧b1r l i) (μ := fun i=>l.length - i)
    (Φ := fun i=>b3u 2 (b1l l i (l.drop i))) ?_ 0 ⟨by omega,c0j l⟩ (by omega)
  · simpa [b4h] using this
  rintro i ⟨hi,hs⟩
  by_cases h:i<l.length
  · have k1:(i:Int)<(l.length:Int):=by omega
    obtain ⟨x,hx⟩:=b0m h
    have hg:=b0s (f:=GRow.pv) hx
    have hd:l.drop i=x::l.drop (i+1):=by rw [List.drop_eq_getElem?_toList_append,hx];rfl
    rw [hd]
    have bad:b3q l i x=false→b3u 2 (b1l l i (x::l.drop (i+1)))=(.ret,⟨[(2,.p (.bool false))],[],[]⟩):=fun h=>by simp [b1l,h,b3u]
    have good:b3q l i x=true→b3u 2 (b1l l i (x::l.drop (i+1)))=b3u 2 (b1l l (i+1) (l.drop (i+1))):=fun h=>by simp [b1l,h]
    have hin:=g1k (n:=n) (N:=N) l i x hs hi hl (by omega)
    simp only [d7r,GRow.pv] at hin
    cases hab:b3s l i x.up with
    | true =>
      have hpos:=h8o hab
      have hi0:i≠0:=fun e=>by subst e;simp [b3s,b4x] at hab
      have hr:b3q l i x=true:=by simp [b3q,hi0,hab];omega
      refine .inl ⟨i+1, ?_,⟨by omega,b8v hs (by omega) hx hr⟩,by omega,good hr⟩
      simp only [c0i,hab,if_true] at hin
      have k3:(x.up==0)=false:=by simp;omega
      have k4:((i:Int)==0)=false:=by simp;omega
      simp -implicitDefEqProofs (disch:=omega) only [Rx,simprocAttr,d9e,k1,hg,GRow.pv,hin,k3,k4]
    | false =>
      simp only [c0i,hab,Bool.false_eq_true,if_false] at hin
      by_cases hu:x.up=0
      · have k3:(0==x.up)=true:=by simp [hu]
        by_cases hi0:i=0
        · have hr:b3q l i x=true:=by simp [b3q,hi0,hu]
          refine .inl ⟨i+1, ?_,⟨by omega,b8v hs (by omega) hx hr⟩,by omega,good hr⟩
          have k4:((i:Int)==0)=true:=by simp [hi0]
          simp -implicitDefEqProofs (disch:=omega) only [Rx,simprocAttr,d9e,k1,hg,GRow.pv,hin,k3,k4]
        · have hr:b3q l i x=false:=by simp [b3q,hi0,hab]
          refine .inr ?_
          rw [bad hr]
          refine ⟨?_,by simp⟩
          have k4:((i:Int)==0)=false:=by simp;omega
          have k6:((true:Bool)==false)=false:=rfl
          simp -implicitDefEqProofs (disch:=omega) only [Rx,simprocAttr,d9e,k1,hg,GRow.pv,hin,k3,k4,k6]
      · have k3:(0==x.up)=false:=by simp;omega
        have hr:b3q l i x=false:=by
          simp only [b3q,hab,Bool.and_false]
          split
          · simpa using hu
          · rfl
        refine .inr ?_
        rw [bad hr]
        refine ⟨?_,by simp⟩
        simp -implicitDefEqProofs (disch:=omega) only [Rx,simprocAttr,d9e,k1,hg,GRow.pv,hin,k3]
  · have k1:¬ (i:Int)<(l.length:Int):=by omega
    have e:l.drop i=[]:=List.drop_eq_nil_of_le (by omega)
    refine .inr ⟨?_,by rw [e];simp [b1l,b3u]⟩
    rw [e]
    simp -implicitDefEqProofs (disch:=omega) only [Rx,simprocAttr,d9e,k1,b1l,b3u]
theorem d7s (l:List GRow) (hl:l.length≤1048576) (g:List AObj) {n:Nat} (hn:l.length<n):b0f T (n+1) 94 [.p (.list (l.map GRow.pv))] g=some (.p (.bool (b4h l)),g):=by
  rw [b0a T94,run_pure rfl rfl rfl]
  have hloop:=g6r (n:=n) (N:=n) l hl hn
  simp only [Int.natCast_zero] at hloop
  cases hb:b4h l with
  | true =>
    rw [hb] at hloop
    simp only [b3u,if_true] at hloop
    simp -implicitDefEqProofs (disch:=omega) only [Rx,simprocAttr,F94,hloop]
  | false =>
    rw [hb] at hloop
    simp only [b3u,Bool.false_eq_true,if_false] at hloop
    simp -implicitDefEqProofs (disch:=omega) only [Rx,simprocAttr,F94,hloop]
def b4t (l:List GRow) (i:Nat):List (List PV):=(List.range (l.length+1)).map fun h=>[.int .i64 (if h≤i then ((b3o l h).length:Int) else 0)]
theorem c1y (l:List GRow) (i:Nat):(b4t l i).length=l.length+1:=by simp [b4t]
theorem b7x (l:List GRow) {i h:Nat} (hh:h≤l.length):(b4t l i).getD h []=[.int .i64 (if h≤i then ((b3o l h).length:Int) else 0)]:=by
 rw [List.getD_eq_getElem?_getD,b4t,List.getElem?_map,List.getElem?_range (by omega)]
 rfl
theorem d2p (l:List GRow) {i:Nat} (hi:i<l.length):(b4t l i).set (i+1) [.int .i64 ((b3o l (i+1)).length:Int)]=b4t l (i+1):=by
 apply List.ext_getElem
 ·simp [b4t]
 ·intro k h1 h2
  rw [List.getElem_set]
  simp only [b4t,List.getElem_map,List.getElem_range]
  by_cases e:i+1=k
  ·subst e;simp
  ·rw [if_neg e]
   have:(k≤i)↔(k≤i+1):=by omega
   simp only [this]
theorem d0b (l:List GRow):List.replicate (l.length+1) [PV.int .i64 0]=b4t l 0:=by
 apply List.ext_getElem
 ·simp [b4t]
 ·intro k h1 h2
  simp only [List.getElem_replicate,b4t,List.getElem_map,List.getElem_range]
  by_cases e:k≤0
  ·obtain rfl:k=0:=by omega
   simp [b4x]
  ·simp [e]
def j4l (l:List GRow):Prop:=∀ i,i<l.length→(b3o l (i+1)).length≤64
end Go.TA.Tryz


end
section
/- Tags and names: what the document's answer says of them. -/
set_option maxHeartbeats 1000000
namespace Go.TA.Tryz
theorem d7n (c : UInt8) (more : Bool) (g : List AObj) (n : Nat) : b0f T (n + 1) 99 [.p (.int .u8 c.toNat), .p (.bool more)] g = some (.p (.bool (b2u more c)), g) := by
  rw [b0a T99,run_pure rfl rfl rfl]
  by_cases h5:(c.toNat:Int)=45
  · simp -implicitDefEqProofs (disch:=omega) only [Rx,simprocAttr,F99,b2u,b3m,b5d,h5]
  have e5:((c.toNat:Int)==45)=false:=by simpa using h5
  by_cases h1:(97:Int)≤c.toNat
  · by_cases h2:(c.toNat:Int)≤122
    · simp -implicitDefEqProofs (disch:=omega) only [Rx,simprocAttr,F99,b2u,b3m,b5d,h1,h2]
    · have h3:(48:Int)≤c.toNat:=by omega
      have h4:¬ (c.toNat:Int)≤57:=by omega
      have e6:((c.toNat:Int)==58)=false:=by simp;omega
      have e7:((c.toNat:Int)==46)=false:=by simp;omega
      cases more
      · simp -implicitDefEqProofs (disch:=omega) only [Rx,simprocAttr,F99,b2u,b3m,b5d,h1,h2,h3,h4,e5,e6,e7]
      · simp -implicitDefEqProofs (disch:=omega) only [Rx,simprocAttr,F99,b2u,b3m,b5d,h1,h2,h3,h4,e5,e6,e7]
  · by_cases h3:(48:Int)≤c.toNat
    · by_cases h4:(c.toNat:Int)≤57
      · simp -implicitDefEqProofs (disch:=omega) only [Rx,simprocAttr,F99,b2u,b3m,b5d,h1,h3,h4]
      · have e7:((c.toNat:Int)==46)=false:=by simp;omega
        cases more
        · simp -implicitDefEqProofs (disch:=omega) only [Rx,simprocAttr,F99,b2u,b3m,b5d,h1,h3,h4,e5,e7]
        · by_cases h6:(c.toNat:Int)=58
          · simp -implicitDefEqProofs (disch:=omega) only [Rx,simprocAttr,F99,b2u,b3m,b5d,h6]
          · have e6:((c.toNat:Int)==58)=false:=by simpa using h6
            simp -implicitDefEqProofs (disch:=omega) only [Rx,simprocAttr,F99,b2u,b3m,b5d,h1,h3,h4,e5,e6,e7]
    · have e6:((c.toNat:Int)==58)=false:=by simp;omega
      cases more
      · simp -implicitDefEqProofs (disch:=omega) only [Rx,simprocAttr,F99,b2u,b3m,b5d,h1,h3,e5,e6]
      · by_cases h7:(c.toNat:Int)=46
        · simp -implicitDefEqProofs (disch:=omega) only [Rx,simprocAttr,F99,b2u,b3m,b5d,h7]
        · have e7:((c.toNat:Int)==46)=false:=by simpa using h7
          simp -implicitDefEqProofs (disch:=omega) only [Rx,simprocAttr,F99,b2u,b3m,b5d,h1,h3,e5,e6,e7]
theorem d7c {n N:Nat} (s:Bs) (more:Bool) (hs:s.length≤32) (hN:32<N) (i:Nat) (hi:i≤s.length) :
    b0t (b0f T (n+1)) N (.loop h4s) ⟨[(0,.p (.str s)),(1,.p (.bool more)),(5,.p (.int .i64 i))],[],[]⟩=some (outB ((s.drop i).all (b2u more))):=by
  refine b1k (σ := Nat) (S:=fun i=>⟨[(0,.p (.str s)),(1,.p (.bool more)),(5,.p (.int .i64 i))],[],[]⟩) (I:=fun i=>i≤s.length) (μ := fun i=>s.length - i)
    (Φ := fun i=>outB ((s.drop i).all (b2u more))) ?_ i hi (by omega)
  intro i hi
  by_cases h:i<s.length
  · obtain ⟨c,hc⟩:=b0m h
    have hg:=c7x hc
    have k1:(i:Int)<(s.length:Int):=by omega
    rw [b9f hc]
    cases hb:b2u more c with
    | true =>
      refine .inl ⟨i+1, ?_,by omega,by omega,by simp [hb]⟩
      simp -implicitDefEqProofs (disch:=omega) only [Rx,simprocAttr,h4s,k1,hg,d7n,hb]
    | false =>
      refine .inr ⟨?_,by simp [hb,outB]⟩
      have eF:outB ((c::s.drop (i+1)).all (b2u more))=(.ret,⟨[(4,.p (.bool false))],[],[]⟩):=by simp [outB,hb]
      rw [eF]
      simp -implicitDefEqProofs (disch:=omega) only [Rx,simprocAttr,h4s,k1,hg,d7n,hb]
  · refine .inr ⟨?_,by rw [List.drop_eq_nil_of_le (by omega)];simp [outB]⟩
    have k1:¬ (i:Int)<(s.length:Int):=by omega
    rw [List.drop_eq_nil_of_le (by omega)]
    simp -implicitDefEqProofs (disch:=omega) only [Rx,simprocAttr,h4s,k1,outB]
theorem b2m (s : Bs) (more : Bool) (g : List AObj) (n : Nat) : b0f T (n + 35) 63 [.p (.str s), .p (.bool more)] g = some (.p (.bool (b2i more s)), g) := by
  rw [b0a T63,run_pure rfl rfl rfl]
  cases s with
  | nil=>simp -implicitDefEqProofs (disch:=omega) only [Rx,simprocAttr,F63,b2i,Int.natCast_zero]
  | cons c r =>
    have k0:¬ ((r.length:Int)+1<1):=by omega
    by_cases h32:(c::r).length≤32
    · have k1:¬ (32<(r.length:Int)+1):=by simp at h32;omega
      have hl:=d7c (n:=n+33) (N:=n+34) (c::r) more h32 (by omega) 1 (by simp)
      simp only [Int.natCast_one] at hl
      by_cases h1:(97:Int)≤c.toNat
      · by_cases h2:(c.toNat:Int)≤122
        · have h1':¬ ((c.toNat:Int)<97):=by omega
          have h2':¬ (122<(c.toNat:Int)):=by omega
          have e:b2i more (c::r)=r.all (b2u more):=by simp [b2i,b3m,h1,h2];simp at h32;omega
          rw [e]
          cases hb:r.all (b2u more) with
          | true =>
            have hl':outB (((c::r).drop 1).all (b2u more))=(.exit 0,⟨[],[],[]⟩):=by simp [outB,hb]
            rw [hl'] at hl
            simp -implicitDefEqProofs (disch:=omega) only [Rx,simprocAttr,F63,k0,k1,h1',h2',hl]
          | false =>
            have hl':outB (((c::r).drop 1).all (b2u more))=(.ret,⟨[(4,.p (.bool false))],[],[]⟩):=by simp [outB,hb]
            rw [hl'] at hl
            simp -implicitDefEqProofs (disch:=omega) only [Rx,simprocAttr,F63,k0,k1,h1',h2',hl]
        · have h1':¬ ((c.toNat:Int)<97):=by omega
          have h2':122<(c.toNat:Int):=by omega
          have e:b2i more (c::r)=false:=by simp [b2i,b3m,h2]
          rw [e]
          simp -implicitDefEqProofs (disch:=omega) only [Rx,simprocAttr,F63,k0,k1,h1',h2']
      · have h1':(c.toNat:Int)<97:=by omega
        have e:b2i more (c::r)=false:=by simp [b2i,b3m,h1]
        rw [e]
        simp -implicitDefEqProofs (disch:=omega) only [Rx,simprocAttr,F63,k0,k1,h1']
    · have k1:32<(r.length:Int)+1:=by simp at h32;omega
      have e:b2i more (c::r)=false:=by simp [b2i];simp at h32;omega
      rw [e]
      simp -implicitDefEqProofs (disch:=omega) only [Rx,simprocAttr,F63,k0,k1]
end Go.TA.Tryz


end
section
/- Which text is ahead. -/
set_option maxHeartbeats 1000000
namespace Go.TA.Tryz
def cmpB:Bs→Bs→Int
 | [],[]=>0
 | [],_::_ => -1
 | _::_,[]=>1
 | a::x,b::y=>if (a.toNat:Int)<b.toNat then -1 else if (b.toNat:Int)<a.toNat then 1 else cmpB x y
theorem d0d : ∀ {x y : Bs}, x ≠ y → (0 < cmpB x y ↔ (b3f x y || x == y) = false)
  | [],[],h=>absurd rfl h
  | [],b::y,h=>by simp [cmpB,b3f]
  | a::x,[],h=>by simp [cmpB,b3f]
  | a :: x, b :: y, h => by
    have e1:(a<b)=((a.toNat:Int)<b.toNat):=by rw [UInt8.lt_iff_toNat_lt];simp
    simp only [cmpB,b3f]
    by_cases h1:(a.toNat:Int)<b.toNat
    · simp [h1,e1]
    · by_cases h2:(b.toNat:Int)<a.toNat
      · have hne:a≠b:=fun e=>by subst e;omega
        have hne':¬ (a::x=b::y):=fun e=>hne (by injection e)
        simp [h1,h2,e1,hne]
      · have he:a=b:=UInt8.toNat_inj.1 (by omega)
        subst he
        have hxy:x≠y:=fun e=>h (by rw [e])
        have:=d0d hxy
        simp only [h1,if_false,this,e1]
        simp [h1]
def b9g (a b:Bs) (r:Int):Ex × St:=if r = -1 then (.ret,⟨[(4,.p (.int .i64 (-1)))],[],[]⟩) else if r=1 then (.ret,⟨[(4,.p (.int .i64 1))],[],[]⟩) else (.exit 0,⟨[(0,.p (.str a)),(1,.p (.str b))],[],[]⟩)
def part:Bs→Bs→Int
 | a::x,b::y=>if (a.toNat:Int)<b.toNat then -1 else if (b.toNat:Int)<a.toNat then 1 else part x y
 | _,_=>0
theorem g4l:∀ (x y:Bs),cmpB x y=if part x y=0 then (if x.length<y.length then -1 else if y.length<x.length then 1 else 0) else part x y
  | [],[]=>by simp [cmpB,part]
  | [],_::_=>by simp [cmpB,part]
  | _::_,[]=>by simp [cmpB,part]
  | a :: x, b :: y => by
    simp only [cmpB,part,g4l x y,List.length_cons]
    split
    · simp
    · split
      · simp
      · simp
theorem h8e {n N : Nat} (a b : Bs) (hN : b.length < N) (hb : b.length ≤ 1048577) :
    b0t (b0f T n) N (.loop c7i) ⟨[(0,.p (.str a)),(1,.p (.str b)),(5,.p (.int .i64 ((0:Nat):Int)))],[],[]⟩=some (b9g a b (part a b)):=by
  refine b1k (C:=b0f T n) (N:=N) (B:=c7i) (σ := Nat) (S:=fun i=>⟨[(0,.p (.str a)),(1,.p (.str b)),(5,.p (.int .i64 i))],[],[]⟩) (I:=fun i=>i≤a.length∧i≤b.length) (μ := fun i=>b.length - i)
    (Φ := fun i=>b9g a b (part (a.drop i) (b.drop i))) ?_ 0 ⟨by omega,by omega⟩ (by omega)
  rintro i ⟨hia,hib⟩
  by_cases h:i<a.length
  · have k1:(i:Int)<(a.length:Int):=by omega
    obtain ⟨x,hx⟩:=b0m h
    have gx:=c7x hx
    by_cases h':i<b.length
    · have k2:(i:Int)<(b.length:Int):=by omega
      obtain ⟨y,hy⟩:=b0m h'
      have gy:=c7x hy
      rw [b9f hx,b9f hy]
      by_cases c1:(x.toNat:Int)<y.toNat
      · refine .inr ⟨?_,by simp [part,c1,b9g]⟩
        have e:part (x::a.drop (i+1)) (y::b.drop (i+1)) = -1:=by simp [part,c1]
        rw [e]
        simp -implicitDefEqProofs (disch:=omega) only [Rx,simprocAttr,c7i,k1,k2,gx,gy,c1,b9g]
      · by_cases c2:(y.toNat:Int)<x.toNat
        · refine .inr ⟨?_,by simp [part,c1,c2,b9g]⟩
          have e:part (x::a.drop (i+1)) (y::b.drop (i+1))=1:=by simp [part,c1,c2]
          rw [e]
          simp -implicitDefEqProofs (disch:=omega) only [Rx,simprocAttr,c7i,k1,k2,gx,gy,c1,c2,b9g]
        · refine .inl ⟨i+1, ?_,⟨by omega,by omega⟩,by omega,by simp [part,c1,c2]⟩
          simp -implicitDefEqProofs (disch:=omega) only [Rx,simprocAttr,c7i,k1,k2,gx,gy,c1,c2]
    · have k2:¬ (i:Int)<(b.length:Int):=by omega
      have e:part (a.drop i) (b.drop i)=0:=by rw [b9f hx,List.drop_eq_nil_of_le (by omega:b.length≤i)];rfl
      refine .inr ⟨?_,by rw [e];simp [b9g]⟩
      rw [e]
      simp -implicitDefEqProofs (disch:=omega) only [Rx,simprocAttr,c7i,k1,k2,b9g]
  · have k1:¬ (i:Int)<(a.length:Int):=by omega
    have e:part (a.drop i) (b.drop i)=0:=by rw [List.drop_eq_nil_of_le (by omega:a.length≤i)];rfl
    refine .inr ⟨?_,by rw [e];simp [b9g]⟩
    rw [e]
    simp -implicitDefEqProofs (disch:=omega) only [Rx,simprocAttr,c7i,k1,b9g]
theorem part_cases:∀ (x y:Bs),part x y = -1∨part x y=1∨part x y=0
  | [],[]=>by simp [part]
  | [],_::_=>by simp [part]
  | _::_,[]=>by simp [part]
  | a :: x, b :: y => by
    simp only [part]
    split
    · simp
    · split
      · simp
      · exact part_cases x y
theorem h3r (a b : Bs) (g : List AObj) {n : Nat} (ha : b.length < n) (hb : b.length ≤ 1048577) : b0f T (n + 1) 100 [.p (.str a), .p (.str b)] g = some (.p (.int .i64 (cmpB a b)), g) := by
  rw [b0a T100,run_pure rfl rfl rfl,g4l]
  have hl:=h8e (n:=n) (N:=n) a b ha hb
  simp only [Int.natCast_zero] at hl
  rcases part_cases a b with h | h | h
  · rw [h] at hl ⊢
    simp only [b9g] at hl
    simp -implicitDefEqProofs (disch:=omega) only [Rx,simprocAttr,F100,hl]
  · rw [h] at hl ⊢
    simp only [b9g] at hl
    simp -implicitDefEqProofs (disch:=omega) only [Rx,simprocAttr,F100,hl]
  · rw [h] at hl ⊢
    simp only [b9g] at hl
    by_cases c1:a.length<b.length
    · have k1:(a.length:Int)<(b.length:Int):=by omega
      simp -implicitDefEqProofs (disch:=omega) only [Rx,simprocAttr,F100,hl,k1,c1]
    · have k1:¬ (a.length:Int)<(b.length:Int):=by omega
      by_cases c2:b.length<a.length
      · have k2:(b.length:Int)<(a.length:Int):=by omega
        simp -implicitDefEqProofs (disch:=omega) only [Rx,simprocAttr,F100,hl,k1,c1,k2,c2]
      · have k2:¬ (b.length:Int)<(a.length:Int):=by omega
        simp -implicitDefEqProofs (disch:=omega) only [Rx,simprocAttr,F100,hl,k1,c1,k2,c2]
end Go.TA.Tryz


end
section
/- What is wrong with attributes: the document's answer. -/
namespace Go.TA.Tryz
def b1v (p : List Attr) (i : Nat) (a : Attr) : Int :=
  if i=64 then 12 else if b2i true a.name=false then 8 else if 65536<(a.value.length:Int) then 3 else match p with
    | []=>0
    | b::_=>if b.name=a.name then 10 else if 0<cmpB b.name a.name then 9 else 0
def b1f:List Attr→Nat→List Attr→Int × Int
 | _,_,[]=>(0,0)
 | p,i,a::l=>if b1v p i a=0 then b1f [a] (i+1) l else (i,b1v p i a)
def b2o (l:List Attr):Int:=(b1f [] 0 l).2
def b2k (l:List Attr):Nat→List Attr
 | 0=>[]
 | i+1=>(l[i]?).toList
def b5r (r:Int × Int):Ex × St:=if r.2=0 then (.exit 0,⟨[],[],[]⟩) else (.ret,⟨[(2,.p (.int .i64 r.1)),(3,.p (.int .i64 r.2))],[],[]⟩)
theorem g4o {l:List Attr} {i:Nat} {a:Attr} (h:l[i]? = some a):b1f (b2k l i) i (l.drop i)=if b1v (b2k l i) i a=0 then b1f (b2k l (i+1)) (i+1) (l.drop (i+1)) else ((i:Int),b1v (b2k l i) i a):=by
 have e:b2k l (i+1)=[a]:=by simp [b2k,h]
 rw [b9f h,e]
 simp only [b1f]
theorem h8p {n N : Nat} (l : List Attr) (hs : b1u l) (hN : l.length < N) (hn : 1048576 < n) :
    b0t (b0f T (n+35)) N (.loop c5j) ⟨[(0,.p (.list (l.map Attr.pv))),(6,.p (.int .i64 l.length)),(7,.p (.int .i64 ((0:Nat):Int)))],[],[]⟩=some (b5r (b1f [] 0 l)):=by
  refine b1k (C:=b0f T (n+35)) (N:=N) (B:=c5j) (σ := Nat) (S:=fun i=>⟨[(0,.p (.list (l.map Attr.pv))),(6,.p (.int .i64 l.length)),(7,.p (.int .i64 i))],[],[]⟩) (I:=fun i=>i≤l.length∧i≤64) (μ := fun i=>l.length - i)
    (Φ := fun i=>b5r (b1f (b2k l i) i (l.drop i))) ?_ 0 ⟨by omega,by omega⟩ (by omega)
  rintro i ⟨hi,hi64⟩
  by_cases h:i<l.length
  · have k1:(i:Int)<(l.length:Int):=by omega
    obtain ⟨a,ha⟩:=b0m h
    have ga:=b0s (f:=Attr.pv) ha
    have hsa:=hs a (List.mem_of_getElem? ha)
    rw [g4o ha]
    have bad:∀ e:Int,b1v (b2k l i) i a=e→e≠0→b0t (b0f T (n+35)) N c5j ⟨[(0,.p (.list (l.map Attr.pv))),(6,.p (.int .i64 l.length)),(7,.p (.int .i64 i))],[],[]⟩=some (.ret,⟨[(2,.p (.int .i64 i)),(3,.p (.int .i64 e))],[],[]⟩) →
        (∃ s',b0t (b0f T (n+35)) N c5j ⟨[(0,.p (.list (l.map Attr.pv))),(6,.p (.int .i64 l.length)),(7,.p (.int .i64 i))],[],[]⟩=some (.normal,(fun (i:Nat)=>(⟨[(0,.p (.list (l.map Attr.pv))),(6,.p (.int .i64 l.length)),(7,.p (.int .i64 i))],[],[]⟩:St)) s')∧(s'≤l.length∧s'≤64)∧l.length - s'<l.length - i∧b5r (if b1v (b2k l i) i a=0 then b1f (b2k l (i+1)) (i+1) (l.drop (i+1)) else ((i:Int),b1v (b2k l i) i a))=b5r (b1f (b2k l s') s' (l.drop s'))) ∨
        (b0t (b0f T (n+35)) N c5j ⟨[(0,.p (.list (l.map Attr.pv))),(6,.p (.int .i64 l.length)),(7,.p (.int .i64 i))],[],[]⟩=some (b5r (if b1v (b2k l i) i a=0 then b1f (b2k l (i+1)) (i+1) (l.drop (i+1)) else ((i:Int),b1v (b2k l i) i a)))∧(b5r (if b1v (b2k l i) i a=0 then b1f (b2k l (i+1)) (i+1) (l.drop (i+1)) else ((i:Int),b1v (b2k l i) i a))).1 ≠ .normal):=fun e he h0 hr=>by
      refine .inr ?_
      rw [he,if_neg h0]
      simp only [b5r,h0,if_false]
      exact ⟨hr,by simp⟩
    by_cases h64:i=64
    · refine bad 12 (by simp [b1v,h64]) (by decide) ?_
      have k2:((i:Int)==64)=true:=by simp;omega
      simp -implicitDefEqProofs (disch:=omega) only [Rx,simprocAttr,c5j,k1,k2]
    have k2:((i:Int)==64)=false:=by simp;omega
    cases hnm:b2i true a.name with
    | false =>
      refine bad 8 (by simp [b1v,h64,hnm]) (by decide) ?_
      simp -implicitDefEqProofs (disch:=omega) only [Rx,simprocAttr,c5j,k1,k2,ga,Attr.pv,b2m,hnm]
    | true=>
    by_cases hlong:65536<(a.value.length:Int)
    · refine bad 3 (by simp [b1v,h64,hnm,hlong]) (by decide) ?_
      simp -implicitDefEqProofs (disch:=omega) only [Rx,simprocAttr,c5j,k1,k2,ga,Attr.pv,b2m,hnm,hlong]
    cases i with
    | zero =>
      have e:b1v (b2k l 0) 0 a=0:=by simp [b1v,hnm,hlong,b2k]
      rw [e,if_pos rfl]
      refine .inl ⟨1, ?_,⟨by omega,by omega⟩,by omega,rfl⟩
      simp only [Int.natCast_zero,Int.natCast_one] at k1 k2 ⊢
      have k3:(0:Int)<(l.length:Int):=k1
      have ga0:(l.map Attr.pv).getD 0 []=Attr.pv a:=ga
      have e0:Int.toNat 0=0:=rfl
      simp -implicitDefEqProofs (disch:=omega) only [Rx,simprocAttr,c5j,k3,ga0,e0,Attr.pv,b2m,hnm,hlong]
    | succ j =>
      obtain ⟨b,hb⟩:=b0m (show j<l.length by omega)
      have gb:=b0s (f:=Attr.pv) hb
      have hsb:=hs b (List.mem_of_getElem? hb)
      have ep:b2k l (j+1)=[b]:=by simp [b2k,hb]
      have k3:(0:Int)<(j:Int)+1:=by omega
      have k4:(j:Int)<(l.length:Int):=by omega
      simp only [Int.natCast_add,Int.natCast_one] at k1 k2
      have k5:((j:Int)+1).toNat=j+1:=by omega
      have hc:=fun g=>h3r (n:=n+34) b.name a.name g (by omega) (by omega)
      by_cases heq:b.name=a.name
      · refine bad 10 (by simp [b1v,h64,hnm,hlong,ep,heq]) (by decide) ?_
        have heq':(b.name==a.name)=true:=by simpa using heq
        simp -implicitDefEqProofs (disch:=omega) only [Rx,simprocAttr,c5j,k1,k2,k3,k4,k5,ga,gb,Attr.pv,b2m,hnm,hlong,heq']
      · have heq':(b.name==a.name)=false:=by simpa using heq
        by_cases hgt:0<cmpB b.name a.name
        · refine bad 9 (by simp [b1v,h64,hnm,hlong,ep,heq,hgt]) (by decide) ?_
          simp -implicitDefEqProofs (disch:=omega) only [Rx,simprocAttr,c5j,k1,k2,k3,k4,k5,ga,gb,Attr.pv,b2m,hnm,hlong,heq',hc,hgt]
        · have e:b1v (b2k l (j+1)) (j+1) a=0:=by simp [b1v,h64,hnm,hlong,ep,heq,hgt]
          rw [e,if_pos rfl]
          refine .inl ⟨j+1+1, ?_,⟨by omega,by omega⟩,by omega,rfl⟩
          simp -implicitDefEqProofs (disch:=omega) only [Rx,simprocAttr,c5j,k1,k2,k3,k4,k5,ga,gb,Attr.pv,b2m,hnm,hlong,heq',hc,hgt]
  · have k1:¬ (i:Int)<(l.length:Int):=by omega
    have e:l.drop i=[]:=List.drop_eq_nil_of_le (by omega)
    refine .inr ⟨?_,by rw [e];simp [b1f,b5r]⟩
    rw [e]
    simp -implicitDefEqProofs (disch:=omega) only [Rx,simprocAttr,c5j,k1,b1f,b5r]
theorem g2d (l : List Attr) (hs : b1u l) (g : List AObj) {n : Nat} (hl : l.length < n + 35) (hn : 1048576 < n) : b0f T (n + 36) 64 [.p (.list (l.map Attr.pv))] g = some (.tuple [.p (.int .i64 (b1f [] 0 l).1), .p (.int .i64 (b2o l))], g) := by
  rw [b0a T64,run_pure rfl rfl rfl]
  have hloop:=h8p (n:=n) (N:=n+35) l hs hl hn
  simp only [Int.natCast_zero] at hloop
  unfold b2o
  have h1:(b1f [] 0 l).2=0→(b1f [] 0 l).1=0:=by
    have key:∀ (p:List Attr) (i:Nat) (l:List Attr),(b1f p i l).2=0→(b1f p i l).1=0:=by
      intro p i l
      induction l generalizing p i with
      | nil=>simp [b1f]
      | cons a l ih =>
        simp only [b1f]
        split
        · exact ih _ _
        · rename_i h;intro h';exact absurd h' h
    exact key [] 0 l
  generalize b1f [] 0 l=r at hloop h1
  obtain ⟨x,e⟩:=r
  simp only [b5r] at hloop h1 ⊢
  by_cases h:e=0
  · rw [if_pos h] at hloop
    rw [h1 h,h]
    simp -implicitDefEqProofs (disch:=omega) only [Rx,simprocAttr,F64,hloop]
  · rw [if_neg h] at hloop
    simp -implicitDefEqProofs (disch:=omega) only [Rx,simprocAttr,F64,hloop]
end Go.TA.Tryz


end
section
/- What is wrong with attributes: the program. -/
namespace Go.TA.Tryz
theorem j2j {n N : Nat} (l : List Attr) (hN : l.length < N) :
    b0t (b0f T (n+36)) N (.loop c5i) ⟨[(0,.p (.list (l.map Attr.pv))),(7,.p (.list (l.map Attr.pv))),(8,.p (.int .i64 l.length)),(9,.p (.int .i64 ((0:Nat):Int)))],[],[]⟩=some (b5r (b1f [] 0 l)):=by
  refine b1k (C:=b0f T (n+36)) (N:=N) (B:=c5i) (σ := Nat) (S:=fun i=>⟨[(0,.p (.list (l.map Attr.pv))),(7,.p (.list (l.map Attr.pv))),(8,.p (.int .i64 l.length)),(9,.p (.int .i64 i))],[],[]⟩) (I:=fun i=>i≤l.length∧i≤64) (μ := fun i=>l.length - i)
    (Φ := fun i=>b5r (b1f (b2k l i) i (l.drop i))) ?_ 0 ⟨by omega,by omega⟩ (by omega)
  rintro i ⟨hi,hi64⟩
  by_cases h:i<l.length
  · have k1 : (i : Int) < (l.length : Int) := by omega
    obtain ⟨a,ha⟩:=b0m h
    have ga:=b0s (f:=Attr.pv) ha
    rw [g4o ha]
    have bad:∀ e:Int,b1v (b2k l i) i a=e→e≠0→b0t (b0f T (n+36)) N c5i ⟨[(0,.p (.list (l.map Attr.pv))),(7,.p (.list (l.map Attr.pv))),(8,.p (.int .i64 l.length)),(9,.p (.int .i64 i))],[],[]⟩=some (.ret,⟨[(2,.p (.int .i64 i)),(3,.p (.int .i64 e))],[],[]⟩) →
        (∃ s',b0t (b0f T (n+36)) N c5i ⟨[(0,.p (.list (l.map Attr.pv))),(7,.p (.list (l.map Attr.pv))),(8,.p (.int .i64 l.length)),(9,.p (.int .i64 i))],[],[]⟩=some (.normal,(fun (i:Nat)=>(⟨[(0,.p (.list (l.map Attr.pv))),(7,.p (.list (l.map Attr.pv))),(8,.p (.int .i64 l.length)),(9,.p (.int .i64 i))],[],[]⟩:St)) s')∧(s'≤l.length∧s'≤64)∧l.length - s'<l.length - i∧b5r (if b1v (b2k l i) i a=0 then b1f (b2k l (i+1)) (i+1) (l.drop (i+1)) else ((i:Int),b1v (b2k l i) i a))=b5r (b1f (b2k l s') s' (l.drop s'))) ∨
        (b0t (b0f T (n+36)) N c5i ⟨[(0,.p (.list (l.map Attr.pv))),(7,.p (.list (l.map Attr.pv))),(8,.p (.int .i64 l.length)),(9,.p (.int .i64 i))],[],[]⟩=some (b5r (if b1v (b2k l i) i a=0 then b1f (b2k l (i+1)) (i+1) (l.drop (i+1)) else ((i:Int),b1v (b2k l i) i a)))∧(b5r (if b1v (b2k l i) i a=0 then b1f (b2k l (i+1)) (i+1) (l.drop (i+1)) else ((i:Int),b1v (b2k l i) i a))).1 ≠ .normal):=fun e he h0 hr=>by
      refine .inr ?_
      rw [he,if_neg h0]
      simp only [b5r,h0,if_false]
      exact ⟨hr,by simp⟩
    by_cases h64:i=64
    · refine bad 12 (by simp [b1v,h64]) (by decide) ?_
      have k2:((i:Int)==64)=true:=by simp;omega
      simp -implicitDefEqProofs (disch:=omega) only [Rx,simprocAttr,c5i,k1,k2,ga,Attr.pv]
    have k2:((i:Int)==64)=false:=by simp;omega
    cases hnm:b2i true a.name with
    | false =>
      refine bad 8 (by simp [b1v,h64,hnm]) (by decide) ?_
      simp -implicitDefEqProofs (disch:=omega) only [Rx,simprocAttr,c5i,k1,k2,ga,Attr.pv,b9n,hnm]
    | true=>
    by_cases hlong:(a.value.length:Int)≤65536
    rotate_left
    · refine bad 3 (by simp [b1v,h64,hnm];omega) (by decide) ?_
      simp -implicitDefEqProofs (disch:=omega) only [Rx,simprocAttr,c5i,k1,k2,ga,Attr.pv,b9n,hnm,b7q,hlong]
    have hlong':¬ (65536<(a.value.length:Int)):=by omega
    cases i with
    | zero =>
      have e:b1v (b2k l 0) 0 a=0:=by simp [b1v,hnm,hlong',b2k]
      rw [e,if_pos rfl]
      refine .inl ⟨1, ?_,⟨by omega,by omega⟩,by omega,rfl⟩
      simp only [Int.natCast_zero,Int.natCast_one] at k1 k2 ⊢
      have k3:(0:Int)<(l.length:Int):=k1
      have ga0:(l.map Attr.pv).getD 0 []=Attr.pv a:=ga
      have e0:Int.toNat 0=0:=rfl
      simp -implicitDefEqProofs (disch:=omega) only [Rx,simprocAttr,c5i,k3,ga0,e0,Attr.pv,b9n,hnm,b7q,hlong]
    | succ j =>
      obtain ⟨b,hb⟩:=b0m (show j<l.length by omega)
      have gb:=b0s (f:=Attr.pv) hb
      have ep:b2k l (j+1)=[b]:=by simp [b2k,hb]
      have k3:(0:Int)<(j:Int)+1:=by omega
      have k4:(j:Int)<(l.length:Int):=by omega
      simp only [Int.natCast_add,Int.natCast_one] at k1 k2
      have k5:((j:Int)+1).toNat=j+1:=by omega
      by_cases heq:b.name=a.name
      · refine bad 10 (by simp [b1v,h64,hnm,hlong',ep,heq]) (by decide) ?_
        have heq':(b.name==a.name)=true:=by simpa using heq
        simp -implicitDefEqProofs (disch:=omega) only [Rx,simprocAttr,c5i,k1,k2,k3,k4,k5,ga,gb,Attr.pv,b9n,hnm,b7q,hlong,heq']
      · have heq':(b.name==a.name)=false:=by simpa using heq
        have hcmp:=d0d heq
        by_cases hgt:0<cmpB b.name a.name
        · refine bad 9 (by simp [b1v,h64,hnm,hlong',ep,heq,hgt]) (by decide) ?_
          have hl:b3f b.name a.name=false:=by have:=hcmp.1 hgt;rw [heq',Bool.or_false] at this;exact this
          simp -implicitDefEqProofs (disch:=omega) only [Rx,simprocAttr,c5i,k1,k2,k3,k4,k5,ga,gb,Attr.pv,b9n,hnm,b7q,hlong,heq',binS,hl]
        · have e:b1v (b2k l (j+1)) (j+1) a=0:=by simp [b1v,h64,hnm,hlong',ep,heq,hgt]
          have hl:b3f b.name a.name=true:=by
            cases h:b3f b.name a.name
            · exact absurd (hcmp.2 (by rw [h,heq'];rfl)) hgt
            · rfl
          rw [e,if_pos rfl]
          refine .inl ⟨j+1+1, ?_,⟨by omega,by omega⟩,by omega,rfl⟩
          simp -implicitDefEqProofs (disch:=omega) only [Rx,simprocAttr,c5i,k1,k2,k3,k4,k5,ga,gb,Attr.pv,b9n,hnm,b7q,hlong,heq',binS,hl]
  · have k1:¬ (i:Int)<(l.length:Int):=by omega
    have e:l.drop i=[]:=List.drop_eq_nil_of_le (by omega)
    refine .inr ⟨?_,by rw [e];simp [b1f,b5r]⟩
    rw [e]
    simp -implicitDefEqProofs (disch:=omega) only [Rx,simprocAttr,c5i,k1,b1f,b5r]
theorem h9l (l : List Attr) (g : List AObj) {n : Nat} (hl : l.length < n + 36) : b0f T (n + 37) 71 [.p (.list (l.map Attr.pv))] g = some (.tuple [.p (.int .i64 (b1f [] 0 l).1), .p (.int .i64 (b2o l))], g) := by
  rw [b0a T71,run_pure rfl rfl rfl]
  have hloop:=j2j (n:=n) (N:=n+36) l hl
  simp only [Int.natCast_zero] at hloop
  unfold b2o
  have h1:(b1f [] 0 l).2=0→(b1f [] 0 l).1=0:=by
    have key:∀ (p:List Attr) (i:Nat) (l:List Attr),(b1f p i l).2=0→(b1f p i l).1=0:=by
      intro p i l
      induction l generalizing p i with
      | nil=>simp [b1f]
      | cons a l ih =>
        simp only [b1f]
        split
        · exact ih _ _
        · rename_i h;intro h';exact absurd h' h
    exact key [] 0 l
  generalize b1f [] 0 l=r at hloop h1
  obtain ⟨x,e⟩:=r
  simp only [b5r] at hloop h1 ⊢
  by_cases h:e=0
  · rw [if_pos h] at hloop
    rw [h1 h,h]
    simp -implicitDefEqProofs (disch:=omega) only [Rx,simprocAttr,F71,hloop]
  · rw [if_neg h] at hloop
    simp -implicitDefEqProofs (disch:=omega) only [Rx,simprocAttr,F71,hloop]
end Go.TA.Tryz


end
section
/- What is wrong with a node alone. -/
namespace Go.TA.Tryz
def b2a (x:GRow):Int:=if b2i false x.tag=false then 7 else if 65536<(x.key.length:Int) then 3 else if 65536<(x.text.length:Int) then 3 else b2o x.attrs
def b1b (x:GRow) (ks:List (List PV)):List PV:=[.str x.tag,.str x.key,.str x.text,.list (x.attrs.map Attr.pv),.list ks]
theorem h4g (x:GRow) (ks:List (List PV)) (hs:b1u x.attrs) (g:List AObj) {n:Nat} (hl:x.attrs.length<n) (hn:1048576<n) :
    b0f T (n+37) 40 [.p (.agg (b1b x ks))] g=some (.p (.int .i64 (b2a x)),g):=by
  rw [b0a T40,run_pure rfl rfl rfl]
  have ha:=fun g=>g2d x.attrs hs g (n:=n) (by omega) hn
  cases h1:b2i false x.tag with
  | false =>
    have e:b2a x=7:=by simp [b2a,h1]
    rw [e]
    simp -implicitDefEqProofs (disch:=omega) only [Rx,simprocAttr,F40,b1b,b2m,h1]
  | true=>
  by_cases h2:65536<(x.key.length:Int)
  · have e:b2a x=3:=by simp [b2a,h1,h2]
    rw [e]
    simp -implicitDefEqProofs (disch:=omega) only [Rx,simprocAttr,F40,b1b,b2m,h1,h2]
  by_cases h3:65536<(x.text.length:Int)
  · have e:b2a x=3:=by simp [b2a,h1,h2,h3]
    rw [e]
    simp -implicitDefEqProofs (disch:=omega) only [Rx,simprocAttr,F40,b1b,b2m,h1,h2,h3]
  have e:b2a x=b2o x.attrs:=by simp [b2a,h1,h2,h3]
  rw [e]
  simp -implicitDefEqProofs (disch:=omega) only [Rx,simprocAttr,F40,b1b,b2m,h1,h2,h3,ha]
theorem g8y (x:GRow) (ks:List (List PV)) (g:List AObj) {n:Nat} (hl:x.attrs.length<n) :
    b0f T (n+38) 130 [.p (.agg (b1b x ks))] g=some (.p (.int .i64 (b2a x)),g):=by
  rw [b0a T130,run_pure rfl rfl rfl]
  have ha:=fun g=>h9l x.attrs g (n:=n) (by omega)
  cases h1:b2i false x.tag with
  | false =>
    have e:b2a x=7:=by simp [b2a,h1]
    rw [e]
    simp -implicitDefEqProofs (disch:=omega) only [Rx,simprocAttr,F130,b1b,c8l,h1]
  | true=>
  by_cases h2:(x.key.length:Int)≤65536
  rotate_left
  · have e:b2a x=3:=by simp [b2a,h1];omega
    rw [e]
    simp -implicitDefEqProofs (disch:=omega) only [Rx,simprocAttr,F130,b1b,c8l,h1,b7q,h2]
  by_cases h3:(x.text.length:Int)≤65536
  rotate_left
  · have e:b2a x=3:=by simp [b2a,h1];omega
    rw [e]
    simp -implicitDefEqProofs (disch:=omega) only [Rx,simprocAttr,F130,b1b,c8l,h1,b7q,h2,h3]
  have e:b2a x=b2o x.attrs:=by
    have h2':¬ 65536<(x.key.length:Int):=by omega
    have h3':¬ 65536<(x.text.length:Int):=by omega
    simp [b2a,h1,h2',h3']
  rw [e]
  simp -implicitDefEqProofs (disch:=omega) only [Rx,simprocAttr,F130,b1b,c8l,h1,b7q,h2,h3,ha]
end Go.TA.Tryz


end
section
/- The tree of rows, as the program builds it. -/
namespace Go.TA.Tryz
theorem h4f (l:List Attr):((l.map Attr.pv).all fun x=>x.length==2)=true:=by simp [List.all_eq_true,Attr.pv]
theorem b9h:∀ (l:List Attr),PV.sameLL (l.map Attr.pv) (l.map Attr.pv)=true
 | []=>rfl
 | a::l=>by simp [PV.sameLL,PV.sameL,PV.same,Attr.pv,b9h l]
theorem b5q (l:List Attr) (h:l.length≤1048577) (g:List AObj) (n:Nat):b0f T (n+1) 37 [.p (.list (l.map Attr.pv))] g=some (.own true g.length l.length,g++[.pcells 2 (l.map Attr.pv)]):=by
 rw [b5t T37]
 have h2:=h4f l
 have h3:l.length*4096≤140737488355328:=by omega
 simp only [b7f,thaw,c1e,c6r,h2,List.length_map,h3,and_self,if_true]
mutual
inductive BT (l:List GRow):Nat→Nat→List PV→Prop
 | mk {a b:Nat} {x:GRow} {ks:List (List PV)}:l[a]? = some x→BTs l a b ks→BT l a b (b1b x ks)
inductive BTs (l:List GRow):Nat→Nat→List (List PV)→Prop
 | nil {a:Nat}:BTs l a (a+1) []
 | snoc {a m b:Nat} {ks:List (List PV)} {k:List PV} {y:GRow}:BTs l a m ks→l[m]? = some y→y.up=(a:Int)+1→BT l m b k→BTs l a b (ks++[k])
end
mutual
theorem BT.lt {l:List GRow} {a b:Nat} {p:List PV}:BT l a b p→a<b∧b≤l.length
  | .mk hx h => by
    have:=BTs.lt h (List.getElem?_eq_some_iff.1 hx).1
    omega
theorem BTs.lt {l:List GRow} {a b:Nat} {ks:List (List PV)}:BTs l a b ks→a<l.length→a+1≤b∧b≤l.length∧ks.length+a+1≤b
  | .nil,ha=>⟨Nat.le_refl _,ha,by simp⟩
  | .snoc h _ _ h2, ha => by
    have h3:=BTs.lt h ha
    have h4:=BT.lt h2
    simp only [List.length_append,List.length_singleton]
    omega
end
theorem BT.len {l:List GRow} {a b:Nat} {p:List PV} (h:BT l a b p):p.length=5:=by
 cases h with
 | mk _ _=>rfl
theorem BTs.at {l:List GRow} {a b:Nat} {ks:List (List PV)} (h:BTs l a b ks):∀ (i:Nat) k,ks[i]? = some k→∃ m m' y,BTs l a m (ks.take i)∧l[m]? = some y∧y.up=(a:Int)+1∧BT l m m' k∧BTs l a m' (ks.take (i+1))∧m'≤b:=by
  match h with
  | .nil=>intro i k hk;simp at hk
  | .snoc (m := m) (ks := ks0) (k := k0) (y := y) h1 hy hu h2 =>
    intro i k hk
    by_cases hi:i<ks0.length
    · rw [List.getElem?_append_left hi] at hk
      obtain ⟨m1,m2,y1,q1,q2,q3,q4,q5,q6⟩:=BTs.at h1 i k hk
      have:=BT.lt h2
      refine ⟨m1,m2,y1, ?_,q2,q3,q4, ?_,by omega⟩
      · rw [List.take_append_of_le_length (by omega)];exact q1
      · rw [List.take_append_of_le_length (by omega)];exact q5
    · have hlt:=(List.getElem?_eq_some_iff.1 hk).1
      simp only [List.length_append,List.length_singleton] at hlt
      obtain rfl:i=ks0.length:=by omega
      rw [List.getElem?_append_right (Nat.le_refl _),Nat.sub_self] at hk
      simp only [List.getElem?_cons_zero,Option.some.injEq] at hk
      subst hk
      refine ⟨m,b,y, ?_,hy,hu,h2, ?_,Nat.le_refl _⟩
      · rw [List.take_append_of_le_length (Nat.le_refl _),List.take_length];exact h1
      · rw [List.take_of_length_le (by simp)];exact .snoc h1 hy hu h2
mutual
theorem BT.uniq {l:List GRow} {a b b':Nat} {p p':List PV}:BT l a b p→BT l a b' p'→p=p'→b=b'
  | .mk hx h, .mk hx' h', e => by
    simp only [b1b,List.cons.injEq,PV.list.injEq,and_true] at e
    exact BTs.uniq h h' e.2.2.2.2
theorem BTs.uniq {l:List GRow} {a b b':Nat} {ks ks':List (List PV)}:BTs l a b ks→BTs l a b' ks'→ks=ks'→b=b'
  | .nil,.nil,_=>rfl
  | .nil,.snoc _ _ _ _,e=>by simp at e
  | .snoc _ _ _ _,.nil,e=>by simp at e
  | .snoc h1 _ _ h2, .snoc h1' _ _ h2', e => by
    obtain ⟨e1,e2⟩:=List.append_inj' e rfl
    have e3:=BTs.uniq h1 h1' e1
    subst e3
    exact BT.uniq h2 h2' (by simpa using e2)
end
def g1c (ks:List (List PV)):AV:=match ks with
 | [] => .nils
 | _::_ => .own true 0 ks.length
theorem h2h (r:List Nat) (ks:List (List PV)):mentions r (g1c ks)=false:=by cases ks <;> simp [g1c,mentions]
def g1b (ks:List (List PV)):List AObj:=match ks with
 | []=>[]
 | _::_=>[.pcells 5 ks]
def c5c (x:GRow) (ks:List (List PV)):List (Nat × AObj):=[(4,.pcells 5 [[.str [],.str [],.str [],.list [],.list []]]),(7,.cells 5 [[.p (.str x.tag),.p (.str x.key),.p (.str x.text),.p (.list (x.attrs.map Attr.pv)),g1c ks]]),(1000,.pcells 5 [])]
def c7e (l:List GRow) (a:Nat) (x:GRow) (nx:Nat) (ks:List (List PV)):St:=⟨[(0,.p (.list (l.map GRow.pv))),(1,.p (.int .i64 a)),(4,.ptr false 4 5 1 0 0),(7,.ptr false 7 5 1 0 0),(8,.p (.int .i64 nx))],c5c x ks,g1b ks⟩
def j5w (l:List GRow) (a:Nat) (x:GRow) (r:Ex × St):Prop:=∃ nx ks,BTs l a nx ks∧(∀ y,l[nx]? = some y→y.up≠(a:Int)+1)∧r=(.exit 0,⟨[(4,.ptr false 4 5 1 0 0),(7,.ptr false 7 5 1 0 0),(8,.p (.int .i64 nx))],c5c x ks,g1b ks⟩)
end Go.TA.Tryz


end
section
/- An operation with the fields alone that its kind uses. -/
namespace Go.TA.Tryz
theorem g9j (x:GOp) (hk:x.kind=1) (g:List AObj) (n:Nat):b0f T (n+1) 67 [.p (.agg x.pv)] g=some (.p (.agg (h5q x).pv),g):=by
 rw [b0a T67,run_pure rfl rfl rfl]
 simp -implicitDefEqProofs (disch:=omega) only [Rx,simprocAttr,F67,GOp.pv,b0b,h5q,hk,b9h]
theorem g9i (x:GOp) (hk:x.kind=2) (g:List AObj) (n:Nat):b0f T (n+1) 67 [.p (.agg x.pv)] g=some (.p (.agg (h5p x).pv),g):=by
 rw [b0a T67,run_pure rfl rfl rfl]
 simp -implicitDefEqProofs (disch:=omega) only [Rx,simprocAttr,F67,GOp.pv,b0b,h5p,hk]
theorem g9h (x:GOp) (hk:x.kind=3) (g:List AObj) (n:Nat):b0f T (n+1) 67 [.p (.agg x.pv)] g=some (.p (.agg (h5o x).pv),g):=by
 rw [b0a T67,run_pure rfl rfl rfl]
 simp -implicitDefEqProofs (disch:=omega) only [Rx,simprocAttr,F67,GOp.pv,b0b,h5o,hk]
theorem g9g (x:GOp) (hk:x.kind=4) (g:List AObj) (n:Nat):b0f T (n+1) 67 [.p (.agg x.pv)] g=some (.p (.agg (h5n x).pv),g):=by
 rw [b0a T67,run_pure rfl rfl rfl]
 simp -implicitDefEqProofs (disch:=omega) only [Rx,simprocAttr,F67,GOp.pv,b0b,h5n,hk]
theorem g9f (x:GOp) (hk:x.kind=5) (g:List AObj) (n:Nat):b0f T (n+1) 67 [.p (.agg x.pv)] g=some (.p (.agg (h5m x).pv),g):=by
 rw [b0a T67,run_pure rfl rfl rfl]
 simp -implicitDefEqProofs (disch:=omega) only [Rx,simprocAttr,F67,GOp.pv,b0b,h5m,hk]
theorem g9e (x:GOp) (hk:x.kind=6) (g:List AObj) (n:Nat):b0f T (n+1) 67 [.p (.agg x.pv)] g=some (.p (.agg (h5l x).pv),g):=by
 rw [b0a T67,run_pure rfl rfl rfl]
 simp -implicitDefEqProofs (disch:=omega) only [Rx,simprocAttr,F67,GOp.pv,b0b,h5l,hk]
theorem g9d (x:GOp) (hk:x.kind=7) (g:List AObj) (n:Nat):b0f T (n+1) 67 [.p (.agg x.pv)] g=some (.p (.agg (h5k x).pv),g):=by
 rw [b0a T67,run_pure rfl rfl rfl]
 simp -implicitDefEqProofs (disch:=omega) only [Rx,simprocAttr,F67,GOp.pv,b0b,h5k,hk]
theorem h5j (x:GOp) (h1:1≤x.kind) (h7:x.kind≤7) (g:List AObj) (n:Nat):b0f T (n+1) 67 [.p (.agg x.pv)] g=some (.p (.agg (b5m x).pv),g):=by
 by_cases k1:x.kind=1
 ·rw [g9j x k1];simp [b5m,k1]
 by_cases k2:x.kind=2
 ·rw [g9i x k2];simp [b5m,k2]
 by_cases k3:x.kind=3
 ·rw [g9h x k3];simp [b5m,k3]
 by_cases k4:x.kind=4
 ·rw [g9g x k4];simp [b5m,k4]
 by_cases k5:x.kind=5
 ·rw [g9f x k5];simp [b5m,k5]
 by_cases k6:x.kind=6
 ·rw [g9e x k6];simp [b5m,k6]
 by_cases k7:x.kind=7
 ·rw [g9d x k7];simp [b5m,k7]
 omega
end Go.TA.Tryz


end
section
/- Does an operation have a field that its kind does not use? The document's answer. -/
namespace Go.TA.Tryz
theorem h1k (x:GOp) (hk:x.kind=1) (g:List AObj) (n:Nat):b0f T (n+1) 82 [.p (.agg x.pv)] g=some (.p (.bool (g6e x)),g):=by
 rw [b0a T82,run_pure rfl rfl rfl]
 simp only [g6e,nzI,nzS,nzA]
 cases h0:(x.node==0)
 ·simp -implicitDefEqProofs (disch:=omega) only [Rx,simprocAttr,F82,GOp.pv,b0b,hk,h0]
 cases h1:(x.up==0)
 ·simp -implicitDefEqProofs (disch:=omega) only [Rx,simprocAttr,F82,GOp.pv,b0b,hk,h0,h1]
 cases h2:(x.before==0)
 ·simp -implicitDefEqProofs (disch:=omega) only [Rx,simprocAttr,F82,GOp.pv,b0b,hk,h0,h1,h2]
 cases h3:(x.name==[])
 ·simp -implicitDefEqProofs (disch:=omega) only [Rx,simprocAttr,F82,GOp.pv,b0b,hk,h0,h1,h2,h3]
 simp -implicitDefEqProofs (disch:=omega) only [Rx,simprocAttr,F82,GOp.pv,b0b,hk,h0,h1,h2,h3]
theorem h1i (x:GOp) (hk:x.kind=2) (g:List AObj) (n:Nat):b0f T (n+1) 82 [.p (.agg x.pv)] g=some (.p (.bool (h1j x)),g):=by
 rw [b0a T82,run_pure rfl rfl rfl]
 simp only [h1j,nzI,nzS,nzA]
 cases h0:(x.tag==[])
 ·simp -implicitDefEqProofs (disch:=omega) only [Rx,simprocAttr,F82,GOp.pv,b0b,hk,h0]
 cases h1:(x.key==[])
 ·simp -implicitDefEqProofs (disch:=omega) only [Rx,simprocAttr,F82,GOp.pv,b0b,hk,h0,h1]
 by_cases h2:0<(x.attrs.length:Int)
 ·simp -implicitDefEqProofs (disch:=omega) only [Rx,simprocAttr,F82,GOp.pv,b0b,hk,h0,h1,h2]
 cases h3:(x.name==[])
 ·simp -implicitDefEqProofs (disch:=omega) only [Rx,simprocAttr,F82,GOp.pv,b0b,hk,h0,h1,h2,h3]
 cases h4:(x.text==[])
 ·simp -implicitDefEqProofs (disch:=omega) only [Rx,simprocAttr,F82,GOp.pv,b0b,hk,h0,h1,h2,h3,h4]
 simp -implicitDefEqProofs (disch:=omega) only [Rx,simprocAttr,F82,GOp.pv,b0b,hk,h0,h1,h2,h3,h4]
theorem h1h (x:GOp) (hk:x.kind=3) (g:List AObj) (n:Nat):b0f T (n+1) 82 [.p (.agg x.pv)] g=some (.p (.bool (g6d x)),g):=by
 rw [b0a T82,run_pure rfl rfl rfl]
 simp only [g6d,nzI,nzS,nzA]
 cases h0:(x.tag==[])
 ·simp -implicitDefEqProofs (disch:=omega) only [Rx,simprocAttr,F82,GOp.pv,b0b,hk,h0]
 cases h1:(x.key==[])
 ·simp -implicitDefEqProofs (disch:=omega) only [Rx,simprocAttr,F82,GOp.pv,b0b,hk,h0,h1]
 by_cases h2:0<(x.attrs.length:Int)
 ·simp -implicitDefEqProofs (disch:=omega) only [Rx,simprocAttr,F82,GOp.pv,b0b,hk,h0,h1,h2]
 cases h3:(x.up==0)
 ·simp -implicitDefEqProofs (disch:=omega) only [Rx,simprocAttr,F82,GOp.pv,b0b,hk,h0,h1,h2,h3]
 cases h4:(x.name==[])
 ·simp -implicitDefEqProofs (disch:=omega) only [Rx,simprocAttr,F82,GOp.pv,b0b,hk,h0,h1,h2,h3,h4]
 cases h5:(x.text==[])
 ·simp -implicitDefEqProofs (disch:=omega) only [Rx,simprocAttr,F82,GOp.pv,b0b,hk,h0,h1,h2,h3,h4,h5]
 simp -implicitDefEqProofs (disch:=omega) only [Rx,simprocAttr,F82,GOp.pv,b0b,hk,h0,h1,h2,h3,h4,h5]
end Go.TA.Tryz


end
section
/- Does an operation have a field that its kind does not use? The document's answer. -/
namespace Go.TA.Tryz
theorem h1g (x:GOp) (hk:x.kind=4) (g:List AObj) (n:Nat):b0f T (n+1) 82 [.p (.agg x.pv)] g=some (.p (.bool (g6c x)),g):=by
 rw [b0a T82,run_pure rfl rfl rfl]
 simp only [g6c,nzI,nzS,nzA]
 cases h0:(x.tag==[])
 ·simp -implicitDefEqProofs (disch:=omega) only [Rx,simprocAttr,F82,GOp.pv,b0b,hk,h0]
 cases h1:(x.key==[])
 ·simp -implicitDefEqProofs (disch:=omega) only [Rx,simprocAttr,F82,GOp.pv,b0b,hk,h0,h1]
 by_cases h2:0<(x.attrs.length:Int)
 ·simp -implicitDefEqProofs (disch:=omega) only [Rx,simprocAttr,F82,GOp.pv,b0b,hk,h0,h1,h2]
 cases h3:(x.up==0)
 ·simp -implicitDefEqProofs (disch:=omega) only [Rx,simprocAttr,F82,GOp.pv,b0b,hk,h0,h1,h2,h3]
 cases h4:(x.before==0)
 ·simp -implicitDefEqProofs (disch:=omega) only [Rx,simprocAttr,F82,GOp.pv,b0b,hk,h0,h1,h2,h3,h4]
 cases h5:(x.name==[])
 ·simp -implicitDefEqProofs (disch:=omega) only [Rx,simprocAttr,F82,GOp.pv,b0b,hk,h0,h1,h2,h3,h4,h5]
 cases h6:(x.text==[])
 ·simp -implicitDefEqProofs (disch:=omega) only [Rx,simprocAttr,F82,GOp.pv,b0b,hk,h0,h1,h2,h3,h4,h5,h6]
 simp -implicitDefEqProofs (disch:=omega) only [Rx,simprocAttr,F82,GOp.pv,b0b,hk,h0,h1,h2,h3,h4,h5,h6]
theorem h1f (x:GOp) (hk:x.kind=5) (g:List AObj) (n:Nat):b0f T (n+1) 82 [.p (.agg x.pv)] g=some (.p (.bool (g6b x)),g):=by
 rw [b0a T82,run_pure rfl rfl rfl]
 simp only [g6b,nzI,nzS,nzA]
 cases h0:(x.tag==[])
 ·simp -implicitDefEqProofs (disch:=omega) only [Rx,simprocAttr,F82,GOp.pv,b0b,hk,h0]
 cases h1:(x.key==[])
 ·simp -implicitDefEqProofs (disch:=omega) only [Rx,simprocAttr,F82,GOp.pv,b0b,hk,h0,h1]
 by_cases h2:0<(x.attrs.length:Int)
 ·simp -implicitDefEqProofs (disch:=omega) only [Rx,simprocAttr,F82,GOp.pv,b0b,hk,h0,h1,h2]
 cases h3:(x.up==0)
 ·simp -implicitDefEqProofs (disch:=omega) only [Rx,simprocAttr,F82,GOp.pv,b0b,hk,h0,h1,h2,h3]
 cases h4:(x.before==0)
 ·simp -implicitDefEqProofs (disch:=omega) only [Rx,simprocAttr,F82,GOp.pv,b0b,hk,h0,h1,h2,h3,h4]
 simp -implicitDefEqProofs (disch:=omega) only [Rx,simprocAttr,F82,GOp.pv,b0b,hk,h0,h1,h2,h3,h4]
end Go.TA.Tryz


end
section
/- Does an operation have a field that its kind does not use? The document's answer. -/
namespace Go.TA.Tryz
theorem h1e (x:GOp) (hk:x.kind=6) (g:List AObj) (n:Nat):b0f T (n+1) 82 [.p (.agg x.pv)] g=some (.p (.bool (g6a x)),g):=by
 rw [b0a T82,run_pure rfl rfl rfl]
 simp only [g6a,nzI,nzS,nzA]
 cases h0:(x.tag==[])
 ·simp -implicitDefEqProofs (disch:=omega) only [Rx,simprocAttr,F82,GOp.pv,b0b,hk,h0]
 cases h1:(x.key==[])
 ·simp -implicitDefEqProofs (disch:=omega) only [Rx,simprocAttr,F82,GOp.pv,b0b,hk,h0,h1]
 by_cases h2:0<(x.attrs.length:Int)
 ·simp -implicitDefEqProofs (disch:=omega) only [Rx,simprocAttr,F82,GOp.pv,b0b,hk,h0,h1,h2]
 cases h3:(x.up==0)
 ·simp -implicitDefEqProofs (disch:=omega) only [Rx,simprocAttr,F82,GOp.pv,b0b,hk,h0,h1,h2,h3]
 cases h4:(x.before==0)
 ·simp -implicitDefEqProofs (disch:=omega) only [Rx,simprocAttr,F82,GOp.pv,b0b,hk,h0,h1,h2,h3,h4]
 cases h5:(x.text==[])
 ·simp -implicitDefEqProofs (disch:=omega) only [Rx,simprocAttr,F82,GOp.pv,b0b,hk,h0,h1,h2,h3,h4,h5]
 simp -implicitDefEqProofs (disch:=omega) only [Rx,simprocAttr,F82,GOp.pv,b0b,hk,h0,h1,h2,h3,h4,h5]
theorem h1d (x:GOp) (hk:x.kind=7) (g:List AObj) (n:Nat):b0f T (n+1) 82 [.p (.agg x.pv)] g=some (.p (.bool (g5z x)),g):=by
 rw [b0a T82,run_pure rfl rfl rfl]
 simp only [g5z,nzI,nzS,nzA]
 cases h0:(x.tag==[])
 ·simp -implicitDefEqProofs (disch:=omega) only [Rx,simprocAttr,F82,GOp.pv,b0b,hk,h0]
 cases h1:(x.key==[])
 ·simp -implicitDefEqProofs (disch:=omega) only [Rx,simprocAttr,F82,GOp.pv,b0b,hk,h0,h1]
 by_cases h2:0<(x.attrs.length:Int)
 ·simp -implicitDefEqProofs (disch:=omega) only [Rx,simprocAttr,F82,GOp.pv,b0b,hk,h0,h1,h2]
 cases h3:(x.up==0)
 ·simp -implicitDefEqProofs (disch:=omega) only [Rx,simprocAttr,F82,GOp.pv,b0b,hk,h0,h1,h2,h3]
 cases h4:(x.before==0)
 ·simp -implicitDefEqProofs (disch:=omega) only [Rx,simprocAttr,F82,GOp.pv,b0b,hk,h0,h1,h2,h3,h4]
 cases h5:(x.name==[])
 ·simp -implicitDefEqProofs (disch:=omega) only [Rx,simprocAttr,F82,GOp.pv,b0b,hk,h0,h1,h2,h3,h4,h5]
 simp -implicitDefEqProofs (disch:=omega) only [Rx,simprocAttr,F82,GOp.pv,b0b,hk,h0,h1,h2,h3,h4,h5]
end Go.TA.Tryz


end
section
/- Does an operation have a field that its kind does not use? The document's answer. -/
namespace Go.TA.Tryz
theorem h6n (x:GOp) (h1:1≤x.kind) (h7:x.kind≤7) (g:List AObj) (n:Nat):b0f T (n+1) 82 [.p (.agg x.pv)] g=some (.p (.bool (b5v x)),g):=by
 by_cases k1:x.kind=1
 ·rw [h1k x k1];simp [b5v,k1]
 by_cases k2:x.kind=2
 ·rw [h1i x k2];simp [b5v,k2]
 by_cases k3:x.kind=3
 ·rw [h1h x k3];simp [b5v,k3]
 by_cases k4:x.kind=4
 ·rw [h1g x k4];simp [b5v,k4]
 by_cases k5:x.kind=5
 ·rw [h1f x k5];simp [b5v,k5]
 by_cases k6:x.kind=6
 ·rw [h1e x k6];simp [b5v,k6]
 by_cases k7:x.kind=7
 ·rw [h1d x k7];simp [b5v,k7]
 omega
end Go.TA.Tryz


end
section
/- Whether an operation is what its kind uses of it: by texts, as the program does it. -/
namespace Go.TA.Tryz
def d8a (b:Bool):Ex × St:=if b=true then (.exit 0,⟨[],[],[]⟩) else (.ret,⟨[(4,.p (.bool false))],[],[]⟩)
theorem g4d (b:Bool):(d8a b).1 ≠ .normal:=by cases b <;> simp [d8a]
theorem d5x (a b : List Attr) (g : List AObj) {n m : Nat} (ha : a.length < n) (hn : n ≤ 1048577) (hm : n ≤ m) :
    b0f T (m+1) 101 [.p (b0b a),.p (b0b b)] g=some (.p (.bool (decide (a=b))),g):=by
  rw [b0a T101,run_pure rfl rfl rfl]
  by_cases hlen:a.length=b.length
  · have hloop:b0t (b0f T m) m (.loop d9n) ⟨[(0,.p (.list (a.map Attr.pv))),(1,.p (.list (b.map Attr.pv))),(12,.p (.int .i64 a.length)),(13,.p (.int .i64 0))],[],[]⟩=some (d8a (decide (a.drop 0=b.drop 0))):=by
      refine b1k (σ := Nat) (S:=fun i=>⟨[(0,.p (.list (a.map Attr.pv))),(1,.p (.list (b.map Attr.pv))),(12,.p (.int .i64 a.length)),(13,.p (.int .i64 i))],[],[]⟩) (I:=fun i=>i≤a.length) (μ := fun i=>a.length - i) (Φ := fun i=>d8a (decide (a.drop i=b.drop i))) ?_ 0 (by omega) (by omega)
      intro i hi
      by_cases h:i<a.length
      · obtain ⟨x,hx⟩:=b0m h
        obtain ⟨y,hy⟩:=b0m (l:=b) (i:=i) (by omega)
        have hgx:=b0s (f:=Attr.pv) hx
        have hgy:=b0s (f:=Attr.pv) hy
        have hdx:a.drop i=x::a.drop (i+1):=by rw [List.drop_eq_getElem?_toList_append,hx];rfl
        have hdy:b.drop i=y::b.drop (i+1):=by rw [List.drop_eq_getElem?_toList_append,hy];rfl
        by_cases hxy:x=y
        · subst hxy
          refine .inl ⟨i+1, ?_,by omega,by omega,by rw [hdx,hdy];simp⟩
          simp -implicitDefEqProofs (disch:=omega) only [Rx,simprocAttr,d9n,hgx,hgy,Attr.pv]
        · refine .inr ⟨?_,g4d _⟩
          have e:decide (a.drop i=b.drop i)=false:=by rw [hdx,hdy];simp [hxy]
          have e2:(x.name==y.name && x.value==y.value)=false:=by
            rw [← Bool.not_eq_true,Bool.and_eq_true,beq_iff_eq,beq_iff_eq]
            rintro ⟨h1,h2⟩
            apply hxy
            cases x;cases y;simp only at h1 h2;subst h1 h2;rfl
          rw [e]
          simp -implicitDefEqProofs (disch:=omega) only [Rx,simprocAttr,d9n,hgx,hgy,Attr.pv,e2,d8a]
      · have e:decide (a.drop i=b.drop i)=true:=by rw [List.drop_eq_nil_of_le (by omega),List.drop_eq_nil_of_le (by omega)];simp
        refine .inr ⟨?_,g4d _⟩
        rw [e]
        simp -implicitDefEqProofs (disch:=omega) only [Rx,simprocAttr,d9n,d8a]
    rw [List.drop_zero,List.drop_zero] at hloop
    have hl2:((a.length:Int)==(b.length:Int))=true:=by simp [hlen]
    cases hd:decide (a=b) with
    | false =>
      rw [hd] at hloop
      simp only [d8a,Bool.false_eq_true,if_false] at hloop
      simp -implicitDefEqProofs (disch:=omega) only [Rx,simprocAttr,F101,b0b,hl2,hloop]
    | true =>
      rw [hd] at hloop
      simp only [d8a,if_true] at hloop
      simp -implicitDefEqProofs (disch:=omega) only [Rx,simprocAttr,F101,b0b,hl2,hloop]
  · have hl2:((a.length:Int)==(b.length:Int))=false:=by rw [beq_eq_false_iff_ne];omega
    have hd:decide (a=b)=false:=by rw [decide_eq_false_iff_not];intro hh;exact hlen (by rw [hh])
    rw [hd]
    simp -implicitDefEqProofs (disch:=omega) only [Rx,simprocAttr,F101,b0b,hl2]
def hOk (n:Int):Bool:=decide (0≤n) && decide (n≤4294967295)
theorem g6p (k:Int) (g:List AObj) (n:Nat):b0f T (n+1) 65 [.p (.int .i64 k)] g=some (.p (.bool (hOk k)),g):=by
 rw [b0a T65,run_pure rfl rfl rfl]
 by_cases h1:0≤k
 ·by_cases h2:k≤4294967295
  ·simp -implicitDefEqProofs (disch:=omega) only [Rx,simprocAttr,F65,hOk,h1,h2]
  ·simp -implicitDefEqProofs (disch:=omega) only [Rx,simprocAttr,F65,hOk,h1,h2]
 ·simp -implicitDefEqProofs (disch:=omega) only [Rx,simprocAttr,F65,hOk,h1]
theorem h6j (k:Int) (g:List AObj) (n:Nat):b0f T (n+1) 81 [.p (.int .i64 k)] g=some (.p (.bool (!hOk k)),g):=by
 rw [b0a T81,run_pure rfl rfl rfl]
 by_cases h1:k<0
 ·have h1':¬ 0≤k:=by omega
  simp -implicitDefEqProofs (disch:=omega) only [Rx,simprocAttr,F81,hOk,h1,h1']
 ·have h1':0≤k:=by omega
  by_cases h2:4294967295<k
  ·have h2':¬ k≤4294967295:=by omega
   simp -implicitDefEqProofs (disch:=omega) only [Rx,simprocAttr,F81,hOk,h1,h1',h2,h2']
  ·have h2':k≤4294967295:=by omega
   simp -implicitDefEqProofs (disch:=omega) only [Rx,simprocAttr,F81,hOk,h1,h1',h2,h2']
theorem c7v (k:Int) (h1 : -9223372036854775808≤k) (h2:k≤9223372036854775807) (g:List AObj) (n:Nat):b0f T (n+1) 103 [.p (.int .i64 k)] g=some (.p (.str (Lib.itoa k)),g):=by
 rw [b5t T103]
 simp [g5t,h1,h2]
theorem g1u:∀ (u:Nat),1≤u→Lib.decDigits u≠[48]:=by
 intro u hu h
 by_cases h10:u<10
 ·rw [Lib.decDigits_one h10] at h
  injection h with h _
  have:(UInt8.ofNat (48+u)).toNat=48:=by rw [h];rfl
  rw [UInt8.toNat_ofNat'] at this
  omega
 ·have hl:=Lib.decDigits_length u
  rw [h] at hl
  rw [Lib.nDigits,dif_neg h10] at hl
  have:1≤Lib.nDigits (u / 10):=by
   rw [Lib.nDigits]
   split <;> omega
  simp at hl
  omega
theorem c9p {k:Int} (h:0≤k):(Lib.itoa k==Lib.itoa 0)=(k==0):=by
 have e0:Lib.itoa 0=[48]:=by
  have:Lib.itoa 0=Lib.decDigits 0:=by simp [Lib.itoa]
  rw [this,Lib.decDigits_one (by omega)]
  rfl
 rw [e0]
 by_cases hk:k=0
 ·subst hk;rw [e0];rfl
 ·have hne:Lib.itoa k≠[48]:=by
   have:Lib.itoa k=Lib.decDigits k.toNat:=by unfold Lib.itoa;rw [if_neg (by omega)]
   rw [this]
   exact g1u _ (by omega)
  rw [Bool.eq_iff_iff,beq_iff_eq,beq_iff_eq]
  exact ⟨fun h=>absurd h hne,fun h=>absurd h hk⟩
def d5w (k:Int):Prop:=0≤k∧k≤4294967295
structure d0o (x:GOp):Prop where
 kind:d5w x.kind
 node:d5w x.node
 up:d5w x.up
 before:d5w x.before
theorem h0w (x:GOp) (hx:d0o x) (g:List AObj) (n:Nat):b0f T (n+2) 102 [.p (.agg x.pv)] g=some (.p (.agg [.str (Lib.itoa x.kind),.str (Lib.itoa x.node),.str (Lib.itoa x.up),.str (Lib.itoa x.before),.str x.tag,.str x.key,.str x.name,.str x.text,.str []]),g):=by
 rw [b0a T102,run_pure rfl rfl rfl]
 have h1:=fun g=>c7v x.kind (by have:=hx.kind.1;omega) (by have:=hx.kind.2;omega) g n
 have h2:=fun g=>c7v x.node (by have:=hx.node.1;omega) (by have:=hx.node.2;omega) g n
 have h3:=fun g=>c7v x.up (by have:=hx.up.1;omega) (by have:=hx.up.2;omega) g n
 have h4:=fun g=>c7v x.before (by have:=hx.before.1;omega) (by have:=hx.before.2;omega) g n
 simp -implicitDefEqProofs (disch:=omega) only [Rx,simprocAttr,F102,GOp.pv,b0b,h1,h2,h3,h4]
def c8o (x y:GOp):Bool:=decide (x.attrs=y.attrs) && ((Lib.itoa x.kind==Lib.itoa y.kind) && ((Lib.itoa x.node==Lib.itoa y.node) && ((Lib.itoa x.up==Lib.itoa y.up) && ((Lib.itoa x.before==Lib.itoa y.before) && ((x.tag==y.tag) && ((x.key==y.key) && ((x.name==y.name) && (x.text==y.text))))))))
theorem g5x (x y:GOp) (hx:d0o x) (hy:d0o y) (g:List AObj) {n:Nat} (hl:x.attrs.length<n+1) (hb:x.attrs.length≤1048576):b0f T (n+3) 66 [.p (.agg x.pv),.p (.agg y.pv)] g=some (.p (.bool (c8o x y)),g):=by
 rw [b0a T66,run_pure rfl rfl rfl]
 have he:=fun g=>d5x x.attrs y.attrs g (n:=x.attrs.length+1) (m:=n+1) (by omega) (by omega) (by omega)
 have o1:=fun g=>h0w x hx g n
 have o2:=fun g=>h0w y hy g n
 simp only [GOp.pv,b0b] at he o1 o2
 by_cases ha:x.attrs=y.attrs
 ·have ha':decide (x.attrs=y.attrs)=true:=by simpa using ha
  rw [ha'] at he
  simp only [c8o,ha']
  simp -implicitDefEqProofs (disch:=omega) only [Rx,simprocAttr,F66,GOp.pv,b0b,he,o1,o2,b9h,Nat.zero_add]
 ·have ha':decide (x.attrs=y.attrs)=false:=by simpa using ha
  rw [ha'] at he
  simp only [c8o,ha']
  simp -implicitDefEqProofs (disch:=omega) only [Rx,simprocAttr,F66,GOp.pv,b0b,he]
end Go.TA.Tryz


end
section
/- What is wrong with an operation: the document's answer. -/
namespace Go.TA.Tryz
def b2c (x:GOp):Bool:=(x.kind==1) && !b2i false x.tag
def b1g (x:GOp):Bool:=((x.kind==5) || (x.kind==6)) && !b2i true x.name
def b0u (x:GOp):Int:=if x.kind<1 then 6 else if 7<x.kind then 6 else if hOk x.node=false then 5 else if hOk x.up=false then 5 else if hOk x.before=false then 5 else if b5v x=true then 2 else if b2c x=true then 7 else if b1g x=true then 8 else if 65536<(x.key.length:Int) then 3 else if 65536<(x.text.length:Int) then 3 else b2o x.attrs
theorem d6o (x:GOp) (hs:b1u x.attrs) (g:List AObj) {n:Nat} (hl:x.attrs.length<n) (hn:1048576<n):b0f T (n+37) 51 [.p (.agg x.pv)] g=some (.p (.int .i64 (b0u x)),g):=by
 rw [b0a T51,run_pure rfl rfl rfl]
 have ov:=fun (k:Int) g=>h6j k g (n+35)
 have nt:=fun s g=>b2m s false g (n+1)
 have nn:=fun s g=>b2m s true g (n+1)
 have at_:=fun g=>g2d x.attrs hs g (n:=n) (by omega) hn
 by_cases k1:x.kind<1
 ·have e:b0u x=6:=by simp [b0u,b2c,b1g,k1]
  rw [e]
  simp -implicitDefEqProofs (disch:=omega) only [Rx,simprocAttr,F51,GOp.pv,b0b,k1]
 by_cases k7:7<x.kind
 ·have e:b0u x=6:=by simp [b0u,b2c,b1g,k1,k7]
  rw [e]
  simp -implicitDefEqProofs (disch:=omega) only [Rx,simprocAttr,F51,GOp.pv,b0b,k1,k7]
 cases hnode:hOk x.node
 ·have e:b0u x=5:=by simp [b0u,b2c,b1g,k1,k7,hnode]
  rw [e]
  simp -implicitDefEqProofs (disch:=omega) only [Rx,simprocAttr,F51,GOp.pv,b0b,ov,k1,k7,hnode]
 cases hup:hOk x.up
 ·have e:b0u x=5:=by simp [b0u,b2c,b1g,k1,k7,hnode,hup]
  rw [e]
  simp -implicitDefEqProofs (disch:=omega) only [Rx,simprocAttr,F51,GOp.pv,b0b,ov,k1,k7,hnode,hup]
 cases hbefore:hOk x.before
 ·have e:b0u x=5:=by simp [b0u,b2c,b1g,k1,k7,hnode,hup,hbefore]
  rw [e]
  simp -implicitDefEqProofs (disch:=omega) only [Rx,simprocAttr,F51,GOp.pv,b0b,ov,k1,k7,hnode,hup,hbefore]
 have no:=fun g=>h6n x (by omega) (by omega) g (n+35)
 simp only [GOp.pv,b0b] at no
 cases hn:b5v x
 rotate_left
 ·have e:b0u x=2:=by simp [b0u,b2c,b1g,k1,k7,hnode,hup,hbefore,hn]
  rw [e]
  simp -implicitDefEqProofs (disch:=omega) only [Rx,simprocAttr,F51,GOp.pv,b0b,ov,no,k1,k7,hnode,hup,hbefore,hn]
 cases e1:(x.kind==1)
 rotate_left
 ·have e1':x.kind=1:=by simpa using e1
  have e5:(x.kind==5)=false:=by rw [e1'];rfl
  have e6:(x.kind==6)=false:=by rw [e1'];rfl
  cases t1:b2i false x.tag
  ·have e:b0u x=7:=by simp [b0u,b2c,b1g,k1,k7,hnode,hup,hbefore,hn,e1,e5,e6,t1]
   rw [e]
   simp -implicitDefEqProofs (disch:=omega) only [Rx,simprocAttr,F51,GOp.pv,b0b,ov,no,nt,k1,k7,hnode,hup,hbefore,hn,e1,t1]
  by_cases l1:65536<(x.key.length:Int)
  ·have e:b0u x=3:=by simp [b0u,b2c,b1g,k1,k7,hnode,hup,hbefore,hn,e1,e5,e6,t1,l1]
   rw [e]
   simp -implicitDefEqProofs (disch:=omega) only [Rx,simprocAttr,F51,GOp.pv,b0b,ov,no,nt,k1,k7,hnode,hup,hbefore,hn,e1,e5,e6,t1,l1]
  by_cases l2:65536<(x.text.length:Int)
  ·have e:b0u x=3:=by simp [b0u,b2c,b1g,k1,k7,hnode,hup,hbefore,hn,e1,e5,e6,t1,l1,l2]
   rw [e]
   simp -implicitDefEqProofs (disch:=omega) only [Rx,simprocAttr,F51,GOp.pv,b0b,ov,no,nt,k1,k7,hnode,hup,hbefore,hn,e1,e5,e6,t1,l1,l2]
  have e:b0u x=b2o x.attrs:=by simp [b0u,b2c,b1g,k1,k7,hnode,hup,hbefore,hn,e1,e5,e6,t1,l1,l2]
  rw [e]
  simp -implicitDefEqProofs (disch:=omega) only [Rx,simprocAttr,F51,GOp.pv,b0b,ov,no,nt,at_,k1,k7,hnode,hup,hbefore,hn,e1,e5,e6,t1,l1,l2]
 cases e5:(x.kind==5)
 rotate_left
 ·cases t2:b2i true x.name
  ·have e:b0u x=8:=by simp [b0u,b2c,b1g,k1,k7,hnode,hup,hbefore,hn,e1,e5,t2]
   rw [e]
   simp -implicitDefEqProofs (disch:=omega) only [Rx,simprocAttr,F51,GOp.pv,b0b,ov,no,nn,k1,k7,hnode,hup,hbefore,hn,e1,e5,t2]
  by_cases l1:65536<(x.key.length:Int)
  ·have e:b0u x=3:=by simp [b0u,b2c,b1g,k1,k7,hnode,hup,hbefore,hn,e1,e5,t2,l1]
   rw [e]
   simp -implicitDefEqProofs (disch:=omega) only [Rx,simprocAttr,F51,GOp.pv,b0b,ov,no,nn,k1,k7,hnode,hup,hbefore,hn,e1,e5,t2,l1]
  by_cases l2:65536<(x.text.length:Int)
  ·have e:b0u x=3:=by simp [b0u,b2c,b1g,k1,k7,hnode,hup,hbefore,hn,e1,e5,t2,l1,l2]
   rw [e]
   simp -implicitDefEqProofs (disch:=omega) only [Rx,simprocAttr,F51,GOp.pv,b0b,ov,no,nn,k1,k7,hnode,hup,hbefore,hn,e1,e5,t2,l1,l2]
  have e:b0u x=b2o x.attrs:=by simp [b0u,b2c,b1g,k1,k7,hnode,hup,hbefore,hn,e1,e5,t2,l1,l2]
  rw [e]
  simp -implicitDefEqProofs (disch:=omega) only [Rx,simprocAttr,F51,GOp.pv,b0b,ov,no,nn,at_,k1,k7,hnode,hup,hbefore,hn,e1,e5,t2,l1,l2]
 cases e6:(x.kind==6)
 rotate_left
 ·cases t2:b2i true x.name
  ·have e:b0u x=8:=by simp [b0u,b2c,b1g,k1,k7,hnode,hup,hbefore,hn,e1,e5,e6,t2]
   rw [e]
   simp -implicitDefEqProofs (disch:=omega) only [Rx,simprocAttr,F51,GOp.pv,b0b,ov,no,nn,k1,k7,hnode,hup,hbefore,hn,e1,e5,e6,t2]
  by_cases l1:65536<(x.key.length:Int)
  ·have e:b0u x=3:=by simp [b0u,b2c,b1g,k1,k7,hnode,hup,hbefore,hn,e1,e5,e6,t2,l1]
   rw [e]
   simp -implicitDefEqProofs (disch:=omega) only [Rx,simprocAttr,F51,GOp.pv,b0b,ov,no,nn,k1,k7,hnode,hup,hbefore,hn,e1,e5,e6,t2,l1]
  by_cases l2:65536<(x.text.length:Int)
  ·have e:b0u x=3:=by simp [b0u,b2c,b1g,k1,k7,hnode,hup,hbefore,hn,e1,e5,e6,t2,l1,l2]
   rw [e]
   simp -implicitDefEqProofs (disch:=omega) only [Rx,simprocAttr,F51,GOp.pv,b0b,ov,no,nn,k1,k7,hnode,hup,hbefore,hn,e1,e5,e6,t2,l1,l2]
  have e:b0u x=b2o x.attrs:=by simp [b0u,b2c,b1g,k1,k7,hnode,hup,hbefore,hn,e1,e5,e6,t2,l1,l2]
  rw [e]
  simp -implicitDefEqProofs (disch:=omega) only [Rx,simprocAttr,F51,GOp.pv,b0b,ov,no,nn,at_,k1,k7,hnode,hup,hbefore,hn,e1,e5,e6,t2,l1,l2]
 by_cases l1:65536<(x.key.length:Int)
 ·have e:b0u x=3:=by simp [b0u,b2c,b1g,k1,k7,hnode,hup,hbefore,hn,e1,e5,e6,l1]
  rw [e]
  simp -implicitDefEqProofs (disch:=omega) only [Rx,simprocAttr,F51,GOp.pv,b0b,ov,no,k1,k7,hnode,hup,hbefore,hn,e1,e5,e6,l1]
 by_cases l2:65536<(x.text.length:Int)
 ·have e:b0u x=3:=by simp [b0u,b2c,b1g,k1,k7,hnode,hup,hbefore,hn,e1,e5,e6,l1,l2]
  rw [e]
  simp -implicitDefEqProofs (disch:=omega) only [Rx,simprocAttr,F51,GOp.pv,b0b,ov,no,k1,k7,hnode,hup,hbefore,hn,e1,e5,e6,l1,l2]
 have e:b0u x=b2o x.attrs:=by simp [b0u,b2c,b1g,k1,k7,hnode,hup,hbefore,hn,e1,e5,e6,l1,l2]
 rw [e]
 simp -implicitDefEqProofs (disch:=omega) only [Rx,simprocAttr,F51,GOp.pv,b0b,ov,no,at_,k1,k7,hnode,hup,hbefore,hn,e1,e5,e6,l1,l2]
end Go.TA.Tryz


end
section
/- What an operation does, if it may be. -/
namespace Go.TA.Tryz
noncomputable def doE (S:MS) (x:GOp):Int × MS:=if b0u x=0 then doM S x else (b0u x,S)
section
variable {R:Nat} {S:MS}
theorem h3k (hS:S.Ok R) (x:GOp) (hx:x.attrs.length≤1048577):(doE S x).2.Ok (R+R+1)∧S.N≤(doE S x).2.N∧(doE S x).2.N≤S.N+1:=by
 unfold doE
 split
 ·exact h3i hS x hx
 ·exact ⟨hS.more (by omega),by simp,by simp⟩
end
noncomputable def runM:MS→List GOp→Nat→Nat × Int × MS
 | S,[],i=>(i,0,S)
 | S,x::l,i=>if (doE S x).1=0 then runM (doE S x).2 l (i+1) else (i,(doE S x).1,(doE S x).2)
def bnd (R:Nat):Nat→Nat
 | 0=>R
 | k+1=>bnd R k+bnd R k+1
theorem b9w (R:Nat):∀ {i j:Nat},i≤j→bnd R i≤bnd R j:=by
  intro i j h
  induction j with
  | zero => have : i = 0 := by omega
            subst this;exact Nat.le_refl _
  | succ j ih =>
    by_cases e:i=j+1
    · subst e;exact Nat.le_refl _
    · have:=ih (by omega)
      simp only [bnd];omega
theorem d6f {L:List GOp} {i:Nat} {x:GOp} (hx:L[i]? = some x) (S:MS):runM S (L.drop i) i=if (doE S x).1=0 then runM (doE S x).2 (L.drop (i+1)) (i+1) else (i,(doE S x).1,(doE S x).2):=by
 have:L.drop i=x::L.drop (i+1):=by rw [List.drop_eq_getElem?_toList_append,hx];rfl
 rw [this,runM]
end Go.TA.Tryz


end
section
/- The rows of all below a node. Plain. -/
namespace Go.TA
def rowM (S:MS) (k up:Int):GRow:=⟨k,up,(S.st k.toNat).tag,(S.st k.toNat).key,(S.st k.toNat).text,(S.st k.toNat).attrs⟩
def b1t (S:MS):Nat→List GRow→Int→Int→List GRow
 | 0,out,_,_=>out
 | d+1,out,h,up=>(S.kd h.toNat).foldl (fun out k=>b1t S d (out++[rowM S k up]) k ((out.length:Int)+1)) out
def j4k (S:MS) (d:Nat) (up:Int) (out:List GRow) (k:Int):List GRow:=b1t S d (out++[rowM S k up]) k ((out.length:Int)+1)
def outI (S:MS) (d:Nat) (out:List GRow) (h:Nat) (up:Int) (i:Nat):List GRow:=((S.kd h).take i).foldl (j4k S d up) out
theorem b8x (S:MS) (d:Nat) (out:List GRow) (h:Nat) (up:Int):outI S d out h up 0=out:=rfl
theorem b6b {S:MS} {d:Nat} {out:List GRow} {h:Nat} {up:Int} {i:Nat} {k:Int} (hk:(S.kd h)[i]? = some k):outI S d out h up (i+1)=b1t S d (outI S d out h up i++[rowM S k up]) k (((outI S d out h up i).length:Int)+1):=by
 unfold outI
 rw [List.take_add_one,hk,List.foldl_append]
 rfl
theorem b7p (S:MS) (d:Nat) (out:List GRow) (h:Nat) (up:Int):outI S d out h up (S.kd h).length=b1t S (d+1) out (h:Int) up:=by
 unfold outI
 rw [List.take_length,b1t,Int.toNat_natCast]
 rfl
structure PreO (S:MS) (out:List GRow) (h:Nat):Prop where
 nodup:(out.map GRow.id).Nodup
 rng:∀ x ∈ out,∃ c:Nat,x.id=(c:Int)∧c<S.N
 away:∀ x ∈ out,∀ c:Nat,x.id=(c:Int)→c≠h→¬ Below S (h:Int) (c:Int)
structure d1c (S:MS) (out:List GRow) (h:Nat) (out':List GRow):Prop where
 nodup:(out'.map GRow.id).Nodup
 rng:∀ x ∈ out',∃ c:Nat,x.id=(c:Int)∧c<S.N
 more:∃ more,out'=out++more∧∀ x ∈ more,∃ c:Nat,x.id=(c:Int)∧c<S.N∧c≠h∧Below S (h:Int) (c:Int)
theorem d1c.len {S:MS} {out out':List GRow} {h:Nat} (p:d1c S out h out'):out'.length≤S.N:=by
 have:=c0v S.N (out'.map GRow.id) p.nodup (fun k hk=>by
  obtain ⟨x,hx,rfl⟩:=List.mem_map.1 hk
  exact p.rng x hx)
 rwa [List.length_map] at this
section
variable {R:Nat} {S:MS} (hS:S.Ok R)
include hS
theorem d2h {h c:Nat} (hc:c<S.N) (hu:(S.st c).up=(h:Int)):c≠h:=by
 obtain ⟨r,_,hr⟩:=hS.rank
 have:=hr c h hc hu
 intro e;subst e;omega
theorem g1d {out : List GRow} {h i : Nat} {out1 : List GRow} {c : Nat} (up : Int) (hh : h < S.N) (hp : PreO S out h) (h1 : d1c S out h out1) (hm : ∀ more, out1 = out ++ more → ∀ x ∈ more, ∃ j, j < i ∧ ∃ k, (S.kd h)[j]? = some k ∧ Below S k x.id) (hk : (S.kd h)[i]? = some (c : Int)) (hc : c < S.N) (hu : (S.st c).up = (h : Int)) : PreO S (out1 ++ [rowM S (c : Int) up]) c := by
  have hkm:=List.mem_of_getElem? hk
  obtain ⟨more,hmore,hmo⟩:=h1.more
  have hst:=d2h hS hc hu
  have hmm:=hm more hmore
  have hkb:∀ y:Int,Below S (c:Int) y→Below S (h:Int) y:=fun y hb=>c0y hS hh hkm hb
  have hap:∀ x ∈ more,¬ Below S (c:Int) x.id:=fun x hx hb=>by
    obtain ⟨j,hj,k,hk',hb'⟩:=hmm x hx
    have:=d2g hS hh hkm (List.mem_of_getElem? hk') hb hb'
    subst this
    have hjl:=(List.getElem?_eq_some_iff.1 hk').1
    have:=(List.getElem?_inj hjl (hS.nodup h hh)).1 (hk'.trans hk.symm)
    omega
  refine ⟨?_, ?_, ?_⟩
  · rw [List.map_append,List.nodup_append]
    refine ⟨h1.nodup,by simp,fun a ha b hb => ?_⟩
    simp only [List.map_cons,List.map_nil,List.mem_singleton,rowM] at hb
    subst hb
    obtain ⟨x,hx,rfl⟩:=List.mem_map.1 ha
    intro e
    rw [hmore] at hx
    rcases List.mem_append.1 hx with hx | hx
    · exact hp.away x hx c e hst (hkb _ .here)
    · exact hap x hx (by rw [e];exact .here)
  · intro x hx
    rcases List.mem_append.1 hx with hx | hx
    · exact h1.rng x hx
    · simp at hx;subst hx;exact ⟨c,rfl,hc⟩
  · intro x hx y hy hne hb
    rcases List.mem_append.1 hx with hx | hx
    · rw [hmore] at hx
      rcases List.mem_append.1 hx with hx | hx
      · refine hp.away x hx y hy (fun e => ?_) (hkb _ hb)
        subst e
        obtain ⟨r,_,hr⟩:=hS.rank
        have:=c1z hS hr hb y rfl hh
        have:=hr c y hc hu
        omega
      · exact hap x hx (by rw [hy];exact hb)
    · simp at hx
      subst hx
      simp only [rowM] at hy
      omega
theorem h0q {out : List GRow} {d h i : Nat} {up : Int} (hh : h < S.N) (hp : PreO S out h) (hi : i < (S.kd h).length)
    (ih:d1c S out h (outI S d out h up i)∧∀ more,outI S d out h up i=out++more→∀ x ∈ more,∃ j,j<i∧∃ k,(S.kd h)[j]? = some k∧Below S k x.id)
    (hb:∀ (out:List GRow) (c:Nat) (up:Int),c<S.N→PreO S out c→d1c S out c (b1t S d out (c:Int) up)) :
    d1c S out h (outI S d out h up (i+1))∧∀ more,outI S d out h up (i+1)=out++more→∀ x ∈ more,∃ j,j<i+1∧∃ k,(S.kd h)[j]? = some k∧Below S k x.id:=by
  obtain ⟨h1,h2⟩:=ih
  obtain ⟨k,hk⟩:∃ k,(S.kd h)[i]? = some k:=⟨_,List.getElem?_eq_getElem (by omega)⟩
  have hkm:=List.mem_of_getElem? hk
  obtain ⟨c,rfl,hc,_,hu⟩:=hS.kids h hh k hkm
  have hpre:=g1d hS up hh hp h1 h2 hk hc hu
  have hpost:=hb _ c (((outI S d out h up i).length:Int)+1) hc hpre
  rw [← b6b hk] at hpost
  obtain ⟨more1,e1,m1⟩:=h1.more
  obtain ⟨more2,e2,m2⟩:=hpost.more
  have e3:outI S d out h up (i+1)=out++(more1++[rowM S (c:Int) up]++more2):=by rw [e2,e1];simp
  have hstr:=d2h hS hc hu
  refine ⟨⟨hpost.nodup,hpost.rng,_,e3,fun x hx => ?_⟩,fun more hm x hx => ?_⟩
  · rcases List.mem_append.1 hx with hx | hx
    · rcases List.mem_append.1 hx with hx | hx
      · exact m1 x hx
      · simp at hx;subst hx
        exact ⟨c,rfl,hc,hstr,c0y hS hh hkm .here⟩
    · obtain ⟨y,hy,hyN,_,hyb⟩:=m2 x hx
      refine ⟨y,hy,hyN,fun e => ?_,c0y hS hh hkm hyb⟩
      subst e
      obtain ⟨r,_,hr⟩:=hS.rank
      have:=c1z hS hr hyb y rfl hh
      have:=hr c y hc hu
      omega
  · have:more=more1++[rowM S (c:Int) up]++more2:=by
      rw [e3] at hm
      exact (List.append_cancel_left hm).symm
    subst this
    rcases List.mem_append.1 hx with hx | hx
    · rcases List.mem_append.1 hx with hx | hx
      · obtain ⟨j,hj,r⟩:=h2 more1 e1 x hx
        exact ⟨j,by omega,r⟩
      · simp at hx;subst hx
        exact ⟨i,by omega,_,hk,.here⟩
    · obtain ⟨y,hy,_,_,hyb⟩:=m2 x hx
      exact ⟨i,by omega,_,hk,by rw [hy];exact hyb⟩
theorem d6r {out:List GRow} {d h:Nat} {up:Int} (hp:PreO S out h):d1c S out h (outI S d out h up 0)∧∀ more,outI S d out h up 0=out++more→∀ x ∈ more,∃ j,j<0∧∃ k,(S.kd h)[j]? = some k∧Below S k x.id:=by
 have _:=hS
 refine ⟨⟨hp.nodup,hp.rng,[],by simp [b8x],by simp⟩,fun more hm x hx => ?_⟩
 rw [b8x] at hm
 have:more=[]:=by simpa using hm
 subst this;simp at hx
theorem c2a:∀ (d:Nat) (out:List GRow) (h:Nat) (up:Int),h<S.N→PreO S out h→d1c S out h (b1t S d out (h:Int) up)
  | 0,out,h,up,hh,hp=>⟨hp.nodup,hp.rng,[],by simp [b1t],by simp⟩
  | d + 1, out, h, up, hh, hp => by
    rw [← b7p]
    have key:∀ i,i≤(S.kd h).length→d1c S out h (outI S d out h up i)∧∀ more,outI S d out h up i=out++more→∀ x ∈ more,∃ j,j<i∧∃ k,(S.kd h)[j]? = some k∧Below S k x.id:=by
      intro i
      induction i with
      | zero=>exact fun _=>d6r hS hp
      | succ i ih=>exact fun hi=>h0q hS hh hp (by omega) (ih (by omega)) (fun out c up hc hp=>c2a d out c up hc hp)
    exact (key _ (Nat.le_refl _)).1
theorem g3f {out:List GRow} {d h:Nat} {up:Int} (hh:h<S.N) (hp:PreO S out h):∀ i,i≤(S.kd h).length→d1c S out h (outI S d out h up i)∧∀ more,outI S d out h up i=out++more→∀ x ∈ more,∃ j,j<i∧∃ k,(S.kd h)[j]? = some k∧Below S k x.id:=by
 intro i
 induction i with
 | zero=>exact fun _=>d6r hS hp
 | succ i ih=>exact fun hi=>h0q hS hh hp (by omega) (ih (by omega)) (fun out c up hc hp=>c2a hS d out c up hc hp)
end
end Go.TA


end
section
/- The document's answer in memory: its living nodes in a row. Plain. -/
namespace Go.TA
def b3y (sz:Nat) (xs:List (List AV)) (o:AObj):Prop:=o = .cells sz xs∨∃ ps:List (List PV),o = .pcells sz ps∧xs=ps.map (fun c=>c.map AV.p)
theorem g0o (c:List PV):b5c (c.map AV.p)=some c:=by
 induction c with
 | nil=>rfl
 | cons a c ih=>simp [b5c,ih]
theorem c5w {c:List AV} {ps:List PV} (h:b5c c=some ps):c=ps.map AV.p:=by
  induction c generalizing ps with
  | nil=>simp [b5c] at h;subst h;rfl
  | cons a c ih =>
    cases a <;> simp [b5c] at h
    obtain ⟨qs,h1,rfl⟩:=h
    rw [ih h1];rfl
theorem g0w (c:List PV):b4q (c.map AV.p) = .p (.agg c):=by simp [b4q,g0o]
theorem d4h (ps:List (List PV)) (i:Nat):(ps.map (fun c=>c.map AV.p)).getD i []=(ps.getD i []).map AV.p:=by
 simp only [List.getD_eq_getElem?_getD,List.getElem?_map]
 cases ps[i]? <;> rfl
theorem h1x {c:List PV} {j:Nat} (hj:j<c.length):(c.map AV.p).getD j .bot = .p (c.getD j .nilp):=by
 simp only [List.getD_eq_getElem?_getD,List.getElem?_map,List.getElem?_eq_getElem hj];rfl
theorem d3r {α : Type} (v : α) (l:List α) {j:Nat} (hj:j<l.length):over j [v] l=l.set j v:=by
 unfold over
 split
 ·rename_i h
  obtain ⟨rfl,h2⟩:=h
  match l,h2 with
  | [a],_=>rfl
 ·rw [List.set_eq_take_append_cons_drop,if_pos hj];simp
theorem g9s {α : Type} (l:List α):sub 0 l.length l=l:=by simp [sub]
section
variable {sz:Nat} {xs:List (List AV)} {o:AObj} (h:b3y sz xs o)
include h
theorem b3y.idx {n:Nat} (hn:xs.length=n) (s:St) (z:Bool) (k:Nat) (i:Int) (h0:0≤i) (hi:i<(n:Int)):d4q s z k sz n i o=some (.ptr z k sz n i.toNat 0,s):=by
 rcases h with rfl | ⟨ps,rfl,rfl⟩
 ·simp [d4q,hn,h0,hi]
 ·rw [List.length_map] at hn;simp [d4q,hn,h0,hi]
theorem b3y.rd1 {n:Nat} (hn:xs.length=n) {i j:Nat} {c:List AV} (hi:i<n) (hc:xs.getD i []=c) (hl:c.length=sz) (hj:j+1≤sz):o.rd 1 n i j sz false=some (c.getD j .bot):=by
 rcases h with rfl | ⟨ps,rfl,rfl⟩
 ·rw [AObj.rd,if_pos ⟨rfl,hn,hi,hj⟩,hc];simp
 ·rw [List.length_map] at hn
  rw [d4h] at hc
  rw [AObj.rd,if_pos ⟨rfl,hn,hi,hj⟩]
  subst hc
  rw [List.length_map] at hl
  rw [h1x (by omega)]
  simp
theorem b3y.rdA {n:Nat} (hn:xs.length=n) {i:Nat} {c:List AV} (hi:i<n) (hc:xs.getD i []=c) (hl:c.length=sz):o.rd sz n i 0 sz true=some (b4q c):=by
 rcases h with rfl | ⟨ps,rfl,rfl⟩
 ·rw [AObj.rd,if_pos ⟨rfl,hn,hi,by omega⟩,hc]
  have:=g9s c
  rw [hl] at this
  simp [this]
 ·rw [List.length_map] at hn
  rw [d4h] at hc
  rw [AObj.rd,if_pos ⟨rfl,hn,hi,by omega⟩]
  subst hc
  rw [List.length_map] at hl
  have:=g9s (ps.getD i [])
  rw [hl] at this
  rw [this,g0w]
  simp
theorem b3y.wr1 {n : Nat} (hn : xs.length = n) {i j : Nat} {c : List AV} (hi : i < n) (hc : xs.getD i [] = c) (hl : c.length = sz) (hj : j + 1 ≤ sz) (v : AV) : ∃ o', o.wr n i j sz [v] = some o' ∧ b3y sz (xs.set i (c.set j v)) o' := by
  rcases h with rfl | ⟨ps,rfl,rfl⟩
  · refine ⟨_,by rw [AObj.wr,if_pos ⟨rfl,hn,hi,hj⟩],.inl ?_⟩
    rw [hc,d3r v c (by omega)]
  · rw [List.length_map] at hn
    rw [d4h] at hc
    have hpl:(ps.getD i []).length=sz:=by rw [← hl, ← hc,List.length_map]
    rw [AObj.wr,if_pos ⟨rfl,hn,hi,hj⟩]
    cases hp:b5c [v] with
    | none =>
      refine ⟨_,rfl,.inl ?_⟩
      rw [d3r v _ (by rw [List.length_map];omega),hc]
    | some qs =>
      have:=c5w hp
      match qs,this with
      | [w], e =>
        simp only [List.map_cons,List.map_nil,List.cons.injEq,and_true] at e
        subst e
        refine ⟨_,rfl,.inr ⟨_,rfl, ?_⟩⟩
        rw [d3r w _ (by omega),List.map_set,List.map_set,hc]
theorem b3y.app {n bytes:Nat} (hn:xs.length=n) (hb:(n+1)*bytes≤140737488355328∧n+1≤140737488355328) {c:List AV} (hl:c.length=sz) (hc:b0p c=true):∃ o',(∀ (s:St) (k:Nat),b2p s true k n sz bytes o (.lit [c])=some (.own true k (n+1),s.putObj true k o'))∧b3y sz (xs++[c]) o':=by
  have hk:c0t true [c]=true:=by simp [c0t,hc]
  rcases h with rfl | ⟨ps,rfl,rfl⟩
  · refine ⟨.cells sz (xs++[c]),fun s k => ?_,.inl rfl⟩
    simp only [b2p,hn,List.length_singleton,List.length_append,List.all_cons,List.all_nil,hl,beq_self_eq_true,Bool.and_self,hb,and_self,if_true,hk]
  · rw [List.length_map] at hn
    cases hp:b5c c with
    | some qs =>
      refine ⟨.pcells sz (ps++[qs]),fun s k => ?_,.inr ⟨_,rfl, ?_⟩⟩
      · simp only [b2p,hn,List.length_singleton,List.length_append,List.all_cons,List.all_nil,hl,beq_self_eq_true,Bool.and_self,hb,and_self,if_true,b6i,hp]
      · rw [c5w hp];simp
    | none =>
      refine ⟨.cells sz (ps.map (fun c=>c.map AV.p)++[c]),fun s k => ?_,.inl rfl⟩
      simp only [b2p,hn,List.length_singleton,List.length_append,List.length_map,List.all_cons,List.all_nil,hl,beq_self_eq_true,Bool.and_self,hb,and_self,if_true,b6i,hp,hk]
end
theorem b3y.nil (sz:Nat):b3y sz [] (.pcells sz []):=.inr ⟨[],rfl,rfl⟩
theorem d5j (c:List AV):(b4q c).cells=some c:=by
 unfold b4q
 cases h:b5c c with
 | some ps=>rw [c5w h];rfl
 | none=>rfl
def b0h (S:MS):List Nat:=(List.range S.N).filter fun h=>(S.st h).live
theorem b1m {S:MS} {h:Nat}:h ∈ b0h S↔h<S.N∧(S.st h).live=true:=by simp [b0h]
theorem g0z (S:MS):(b0h S).Nodup:=List.nodup_range.filter _
theorem c9m (S:MS):(b0h S).length≤S.N:=by
 have:=List.length_filter_le (fun h=>(S.st h).live) (List.range S.N)
 simpa [b0h] using this
theorem b7v {S:MS} {h:Int} (hl:b1j S h=true):∃ c:Nat,h=(c:Int)∧c ∈ b0h S:=by
 obtain ⟨c,h1,h2,h3⟩:=b5f hl
 exact ⟨c,h1,b1m.2 ⟨h2,h3⟩⟩
theorem h2c {S : MS} {c : Nat} : b1j S (c : Int) = true ↔ c ∈ b0h S := by
  rw [b1m]
  exact ⟨fun h => by obtain ⟨d, h1, h2, h3⟩ := b5f h; have : d = c := by omega
                     subst this;exact ⟨h2,h3⟩,fun h=>j0u h.1 h.2⟩
def posL (L:List Nat) (id:Int):Int:=if L.findIdx (fun h:Nat=>(h:Int)==id)<L.length then (L.findIdx (fun h:Nat=>(h:Int)==id):Int) else -1
theorem b4p {L:List Nat} {c:Nat} (h:c ∈ L):∃ i:Nat,posL L (c:Int)=(i:Int)∧L[i]? = some c:=by
 have h1:L.findIdx (fun h:Nat=>(h:Int)==(c:Int))<L.length:=List.findIdx_lt_length_of_exists ⟨c,h,by simp⟩
 refine ⟨_,by rw [posL,if_pos h1], ?_⟩
 have:=List.findIdx_getElem (xs:=L) (p:=fun h:Nat=>(h:Int)==(c:Int)) (w:=h1)
 rw [List.getElem?_eq_getElem h1]
 simp only [beq_iff_eq] at this
 congr 1;omega
theorem h6f {L:List Nat} {id:Int} (h:∀ c ∈ L,(c:Int)≠id):posL L id = -1:=by
 rw [posL,if_neg]
 intro h1
 have:=List.findIdx_getElem (xs:=L) (p:=fun h:Nat=>(h:Int)==id) (w:=h1)
 simp only [beq_iff_eq] at this
 exact h _ (List.getElem_mem h1) this
theorem c4b {S:MS} {id:Int} (h:b1j S id=false):posL (b0h S) id = -1:=h6f fun c hc e=>by
 rw [← e,h2c.2 hc] at h;cases h
def nAV (h:Nat) (s:b3p) (k:AV):List AV:=[.p (.int .i64 h),.p (.int .i64 s.up),k,.p (.str s.tag),.p (.str s.key),.p (.str s.text),.p (.list (s.attrs.map Attr.pv))]
def b3j (L:List Nat) (st:Nat→b3p) (av:Nat→AV):List (List AV):=L.map fun h=>nAV h (st h) (av h)
section
variable {L:List Nat} {st:Nat→b3p} {av:Nat→AV}
theorem b2b:(b3j L st av).length=L.length:=by simp [b3j]
theorem c3w {i c:Nat} (h:L[i]? = some c):(b3j L st av).getD i []=nAV c (st c) (av c):=by
 rw [List.getD_eq_getElem?_getD,b3j,List.getElem?_map,h];rfl
theorem d6i (hn:L.Nodup) {i c:Nat} (h:L[i]? = some c) (s:b3p) (a:AV):(b3j L st av).set i (nAV c s a)=b3j L (upd st c s) (upd av c a):=by
 apply List.ext_getElem
 ·simp [b3j]
 ·intro k h1 h2
  have hk:k<L.length:=by simpa [b3j] using h2
  obtain ⟨hi,e⟩:=List.getElem?_eq_some_iff.1 h
  rw [List.getElem_set]
  simp only [b3j,List.getElem_map]
  by_cases e2:i=k
  ·subst e2;rw [if_pos rfl,e,b0l,b0l]
  ·rw [if_neg e2]
   have:L[k]≠c:=fun e3=>e2 ((List.getElem_inj hn).1 (e.trans e3.symm))
   rw [b0k this,b0k this]
theorem d1u {c:Nat} (h:c ∉ L) (s:b3p) (a:AV):b3j L st av++[nAV c s a]=b3j (L++[c]) (upd st c s) (upd av c a):=by
 simp only [b3j,List.map_append,List.map_cons,List.map_nil,b0l]
 congr 1
 apply List.map_congr_left
 intro k hk
 have:k≠c:=fun e=>h (e ▸ hk)
 rw [b0k this,b0k this]
theorem c2s {st':Nat→b3p} {av':Nat→AV} (h:∀ k ∈ L,st k=st' k∧av k=av' k):b3j L st av=b3j L st' av':=by
 unfold b3j
 apply List.map_congr_left
 intro k hk
 rw [(h k hk).1,(h k hk).2]
end
inductive KG (g:List AObj):AV→List Int→Prop
 | none:KG g .nils []
 | own {r:Nat} {ks:List Int}:g[r]? = some (.pcells 1 (b0j ks))→KG g (.own true r ks.length) ks
 | list {ks:List Int}:KG g (.p (.list (b0j ks))) ks
theorem KG.inv {g:List AObj} {a:AV} {ks:List Int} (h:KG g a ks):(a = .nils∧ks=[])∨(∃ r,a = .own true r ks.length∧g[r]? = some (.pcells 1 (b0j ks)))∨a = .p (.list (b0j ks)):=by
 cases h with
 | none=>exact .inl ⟨rfl,rfl⟩
 | own h=>exact .inr (.inl ⟨_,rfl,h⟩)
 | list=>exact .inr (.inr rfl)
theorem KG.keep {g g':List AObj} {a:AV} {ks:List Int} (h:KG g a ks) (hg:∀ r,b1z a=some r→g'[r]? = g[r]?):KG g' a ks:=by
 cases h with
 | none=>exact .none
 | own h=>exact .own (by rw [hg _ rfl];exact h)
 | list=>exact .list
theorem KG.ref_lt {g:List AObj} {a:AV} {ks:List Int} (h:KG g a ks) {r:Nat} (hr:b1z a=some r):r<g.length:=by
  cases h with
  | none=>cases hr
  | own h =>
    simp only [b1z,Option.some.injEq] at hr
    subst hr
    exact (List.getElem?_eq_some_iff.1 h).1
  | list=>cases hr
theorem KG.noLocal {g:List AObj} {a:AV} {ks:List Int} (h:KG g a ks):noLocal a=true:=by
 cases h <;> simp [Go.TA.noLocal]
abbrev DP (p:Nat):AV:=.ptr true p 2 1 0 0
structure DC (L:List Nat) (st:Nat→b3p) (nx:Int) (av:Nat→AV) (p q:Nat) (g:List AObj):Prop where
 obj:g[p]? = some (.cells 2 [[.own true q L.length,.p (.int .i64 nx)]])
 row:∃ o,g[q]? = some o∧b3y 7 (b3j L st av) o
 pq:p≠q
 nodup:L.Nodup
structure DM (L:List Nat) (st:Nat→b3p) (kd:Nat→List Int) (nx:Int) (av:Nat→AV) (p q:Nat) (g:List AObj):Prop where
 core:DC L st nx av p q g
 kids:∀ h,h ∈ L→KG g (av h) (kd h)
 away:∀ h,h ∈ L→b1z (av h)≠some p∧b1z (av h)≠some q
 disj:∀ h h',h ∈ L→h' ∈ L→h≠h'→b1z (av h)=none∨b1z (av h)≠b1z (av h')
structure DFr (L:List Nat) (av:Nat→AV) (p q:Nat) (g:List AObj) (L':List Nat) (av':Nat→AV) (q':Nat) (g':List AObj):Prop where
 len:g.length≤g'.length
 keep:∀ j,j<g.length→j≠p→j≠q→(∀ h,h ∈ L→b1z (av h)≠some j)→g'[j]? = g[j]?
 row:q'=q∨g.length≤q'
 refs:∀ h,h ∈ L'→∀ j,b1z (av' h)=some j→j<g.length→∃ h0,h0 ∈ L∧b1z (av h0)=some j
theorem DFr.refl (L:List Nat) (av:Nat→AV) (p q:Nat) (g:List AObj):DFr L av p q g L av q g:=⟨Nat.le_refl _,fun _ _ _ _ _=>rfl,.inl rfl,fun h hh j hj _=>⟨h,hh,hj⟩⟩
theorem DFr.trans {L L' L'':List Nat} {av av' av'':Nat→AV} {p q q' q'':Nat} {g g' g'':List AObj} (h1:DFr L av p q g L' av' q' g') (h2:DFr L' av' p q' g' L'' av'' q'' g''):DFr L av p q g L'' av'' q'' g'' where
 len:=Nat.le_trans h1.len h2.len
 keep j hj hp hq hn:=by
  rw [h2.keep j (Nat.lt_of_lt_of_le hj h1.len) hp (by rcases h1.row with e | e <;> omega) (fun h hh e=>by
   obtain ⟨h0,hh0,e0⟩:=h1.refs h hh j e hj
   exact hn h0 hh0 e0)]
  exact h1.keep j hj hp hq hn
 row:=by
  rcases h1.row with e | e <;> rcases h2.row with e2 | e2
  ·exact .inl (e2.trans e)
  ·exact .inr (Nat.le_trans h1.len e2)
  ·exact .inr (by omega)
  ·exact .inr (Nat.le_trans h1.len e2)
 refs h hh j hj hl:=by
  obtain ⟨h1',hh1,e1⟩:=h2.refs h hh j hj (Nat.lt_of_lt_of_le hl h1.len)
  exact h1.refs h1' hh1 j e1 hl
section
variable {L:List Nat} {st:Nat→b3p} {kd:Nat→List Int} {nx:Int} {av:Nat→AV} {p q:Nat} {g:List AObj}
theorem c5k {o:AObj} (hr:b3y 7 (b3j L st av) o) {i c:Nat} (hi:L[i]? = some c) {j:Nat} (hj:j+1≤7) (v:AV):∃ o',o.wr L.length i j 7 [v]=some o'∧b3y 7 ((b3j L st av).set i ((nAV c (st c) (av c)).set j v)) o' :=
 hr.wr1 b2b (List.getElem?_eq_some_iff.1 hi).1 (c3w hi) rfl hj v
theorem c8r (hn:L.Nodup) {i c:Nat} (hi:L[i]? = some c) (v:AV):(b3j L st av).set i ((nAV c (st c) (av c)).set 2 v)=b3j L st (upd av c v):=by
 have:=d6i (st:=st) (av:=av) hn hi (st c) v
 simp only [nAV] at this ⊢
 simp only [List.set_cons_succ,List.set_cons_zero]
 rw [this]
 refine c2s fun k _=>⟨?_,rfl⟩
 by_cases e:k=c
 ·subst e;rw [b0l]
 ·rw [b0k e]
theorem c3v (hn:L.Nodup) {i c:Nat} (hi:L[i]? = some c) (s:b3p):(b3j L st av).set i (nAV c s (av c))=b3j L (upd st c s) av:=by
 rw [d6i hn hi]
 refine c2s fun k _=>⟨rfl, ?_⟩
 by_cases e:k=c
 ·subst e;rw [b0l]
 ·rw [b0k e]
def c4m (g:List AObj):AV→List AObj
 | .own true r _=>g.set r .dead
 | _=>g
theorem h2g (g:List AObj) (a:AV):(c4m g a).length=g.length:=by unfold c4m;split <;> simp
theorem c4l {g:List AObj} {a:AV} {j:Nat} (h:b1z a≠some j):(c4m g a)[j]? = g[j]? := by
 unfold c4m
 split
 ·rename_i r m
  rw [List.getElem?_set,if_neg]
  intro e;subst e;exact h rfl
 ·rfl
theorem DC.set (h:DC L st nx av p q g) {st':Nat→b3p} {av':Nat→AV} {o':AObj} (hr:b3y 7 (b3j L st' av') o'):DC L st' nx av' p q (g.set q o') where
 obj:=by rw [List.getElem?_set,if_neg (fun e=>h.pq e.symm)];exact h.obj
 row:=by
  obtain ⟨o,ho,_⟩:=h.row
  exact ⟨o',by rw [List.getElem?_set,if_pos rfl,if_pos (List.getElem?_eq_some_iff.1 ho).1],hr⟩
 pq:=h.pq
 nodup:=h.nodup
theorem DC.kill (h:DC L st nx av p q g) {a:AV} (h1:b1z a≠some p) (h2:b1z a≠some q):DC L st nx av p q (c4m g a) where
 obj:=by rw [c4l h1];exact h.obj
 row:=by rw [c4l h2];exact h.row
 pq:=h.pq
 nodup:=h.nodup
theorem DC.more (h:DC L st nx av p q g) (r:List AObj):DC L st nx av p q (g++r) where
 obj:=by rw [List.getElem?_append_left (List.getElem?_eq_some_iff.1 h.obj).1];exact h.obj
 row:=by
  obtain ⟨o,h1,h2⟩:=h.row
  exact ⟨o,by rw [List.getElem?_append_left (List.getElem?_eq_some_iff.1 h1).1];exact h1,h2⟩
 pq:=h.pq
 nodup:=h.nodup
theorem DM.fix (h : DM L st kd nx av p q g) {c : Nat} (hc : c ∈ L) (ks : List Int) {o' : AObj} (hr : b3y 7 (b3j L st (upd av c (.p (.list (b0j ks))))) o') : DM L st (upd kd c ks) nx (upd av c (.p (.list (b0j ks)))) p q ((c4m g (av c)).set q o') where
  core:=(h.core.kill (h.away c hc).1 (h.away c hc).2).set hr
  kids k hk:=by
    by_cases e:k=c
    · subst e;rw [b0l,b0l];exact .list
    · rw [b0k e,b0k e]
      refine (h.kids k hk).keep fun r hr => ?_
      rw [List.getElem?_set,if_neg (fun e=>(h.away k hk).2 (by rw [e];exact hr)),c4l]
      intro e2
      rcases h.disj k c hk hc e with h1 | h1
      · rw [h1] at hr;cases hr
      · exact h1 (by rw [hr,e2])
  away k hk:=by
    by_cases e:k=c
    · subst e;rw [b0l];simp [b1z]
    · rw [b0k e];exact h.away k hk
  disj k k' hk hk' hne:=by
    by_cases e:k=c
    · subst e;left;rw [b0l];rfl
    · rw [b0k e]
      by_cases e':k'=c
      · subst e'
        rw [b0l]
        cases hr:b1z (av k) with
        | none=>exact .inl rfl
        | some q=>exact .inr (by simp [b1z])
      · rw [b0k e'];exact h.disj k k' hk hk' hne
theorem DFr.fix (h:DM L st kd nx av p q g) {c:Nat} (hc:c ∈ L) (ks:List (List PV)) (o':AObj):DFr L av p q g L (upd av c (.p (.list ks))) q ((c4m g (av c)).set q o') where
 len:=by rw [List.length_set,h2g];exact Nat.le_refl _
 keep j hj hp hq hn:=by rw [List.getElem?_set,if_neg (fun e=>hq e.symm),c4l (hn c hc)]
 row:=.inl rfl
 refs k hk j hj _:=by
  by_cases e:k=c
  ·subst e;rw [b0l] at hj;cases hj
  ·rw [b0k e] at hj;exact ⟨k,hk,hj⟩
theorem DM.node (h:DM L st kd nx av p q g) (st':Nat→b3p) {o':AObj} (hr:b3y 7 (b3j L st' av) o'):DM L st' kd nx av p q (g.set q o') where
 core:=h.core.set hr
 kids k hk:=(h.kids k hk).keep fun r hr=>by rw [List.getElem?_set,if_neg (fun e=>(h.away k hk).2 (by rw [e];exact hr))]
 away:=h.away
 disj:=h.disj
theorem DFr.node (o':AObj):DFr L av p q g L av q (g.set q o') where
 len:=by rw [List.length_set];exact Nat.le_refl _
 keep j hj hp hq hn:=by rw [List.getElem?_set,if_neg (fun e=>hq e.symm)]
 row:=.inl rfl
 refs k hk j hj _:=⟨k,hk,hj⟩
end
theorem KG.frz {g:List AObj} {a:AV} {ks:List Int} (h:KG g a ks) (fr:List (Nat × AV)) (l:List (Nat × AObj)):Go.TA.frz ⟨fr,l,g⟩ a=some (.list (b0j ks),⟨fr,l,c4m g a⟩):=by
 cases h with
 | none=>rfl
 | own h=>simp only [Go.TA.frz,St.obj,if_true,h,b0v,St.putObj,c4m]
 | list=>rfl
def inL (l:List Int) (h b:Int):List Int:=(l.flatMap fun k=>if k=b then [h,k] else [k])++if b=0 then [h] else []
theorem g3w {l:List Int} {h b:Int} (hb:b ∉ l):(l.flatMap fun k=>if k=b then [h,k] else [k])=l:=by
  induction l with
  | nil=>rfl
  | cons a l ih =>
    simp only [List.mem_cons,not_or] at hb
    rw [List.flatMap_cons,if_neg (fun e=>hb.1 e.symm),ih hb.2];rfl
theorem g3x {l : List Int} {h b : Int} (hn : l.Nodup) (h0 : (0 : Int) ∉ l) (hb : b = 0 ∨ b ∈ l) : inL l h b = insI l h b := by
  unfold inL insI
  by_cases e:b=0
  · subst e
    rw [g3w h0,if_pos rfl,if_pos rfl,List.take_length,List.drop_length]
  · have hm:b ∈ l:=by rcases hb with h1 | h1;exact absurd h1 e;exact h1
    rw [if_neg e,if_neg e,List.append_nil]
    induction l with
    | nil=>simp at hm
    | cons a l ih =>
      rw [List.nodup_cons] at hn
      simp only [List.mem_cons,not_or] at h0
      rw [List.flatMap_cons]
      by_cases ea:a=b
      · subst ea
        rw [if_pos rfl,g3w hn.1]
        simp
      · have hm':b ∈ l:=by rcases List.mem_cons.1 hm with h1 | h1;exact absurd h1.symm ea;exact h1
        rw [if_neg ea,ih hn.2 h0.2 (.inr hm') hm',List.idxOf_cons]
        have:(a==b)=false:=by simpa using ea
        rw [this]
        simp
theorem g6t {f:Int→List Int} {l:List Int} {i:Nat} {x:Int} (h:l[i]? = some x):(l.take (i+1)).flatMap f=(l.take i).flatMap f++f x:=by
 rw [List.take_add_one,h];simp
theorem j3k (l:List Int) (h b:Int):(l.flatMap fun k=>if k=b then [h,k] else [k]).length≤2*l.length:=by
  induction l with
  | nil=>simp
  | cons a l ih =>
    rw [List.flatMap_cons,List.length_append,List.length_cons]
    have:(if a=b then [h,a] else [a]).length≤2:=by split <;> simp
    omega
end Go.TA


end
section
/- A machine's rows, and its loose nodes. Plain. -/
namespace Go.TA
def b2j (S:MS) (R:Nat):List GRow:=b1t S (R+1) [] 0 0
theorem d3p {S:MS}:PreO S [] 0:=⟨by simp,by simp,by simp⟩
theorem c0k {R:Nat} {S:MS} (hS:S.Ok R) (R':Nat):(b2j S R').length≤S.N:=(c2a hS (R'+1) [] 0 0 hS.pos d3p).len
def b3r (S:MS):List Int:=((b0h S).filter fun h:Nat => !(h==0) && decide ((S.st h).up<0)).map fun h:Nat=>(h:Int)
end Go.TA


end
section
/- An operation that is done by one machine is done by the other, under its handles. -/
namespace Go.TA
section
variable {R:Nat} {φ : Nat→Nat} {M S:MS}
theorem Sim.dom (hS:Sim φ M S) {h:Int} (hl:b1j M h=true):Dom M h:=by
 obtain ⟨n,h1,h2,_⟩:=b5a hl
 exact .inr ⟨n,h1,h2⟩
theorem Sim.liveI (hS:Sim φ M S) {h:Int} (h0:0≤h):b1j S (img φ h)=b1j M h:=by
 obtain ⟨n,rfl⟩:∃ n:Nat,h=(n:Int):=⟨h.toNat,by omega⟩
 exact hS.live n
theorem Sim.upI (hS:Sim φ M S) {h:Int} (hl:b1j M h=true):Go.TA.upOf S (img φ h)=img φ (Go.TA.upOf M h):=by
 obtain ⟨n,h1,rfl,_⟩:=b5a hl
 rw [b2n]
 exact hS.upOf h1
theorem Sim.nodeI (hS:Sim φ M S) {h:Int} (hl:b1j M h=true):(img φ h).toNat = φ h.toNat∧h.toNat<M.N∧(φ h.toNat:Int)=img φ h:=by
 obtain ⟨n,h1,rfl,_⟩:=b5a hl
 rw [b2n]
 simp [h1]
def Used (M:MS) (h:Int):Prop:=h=0∨b1j M h=true
theorem Sim.do2 (hS:Sim φ M S) (hM:M.Ok R) (x:GOp) (h:(b2s M x).1=0):((b2s S (b0i (img φ) x)).1=0∧Sim φ (b2s M x).2 (b2s S (b0i (img φ) x)).2)∧b1j M x.node=true∧b1j M x.up=true∧b1j M x.before=true:=by
 unfold b2s at h
 split at h
 ·simp at h
 rename_i c1
 split at h
 ·simp at h
 rename_i c2
 split at h
 ·simp at h
 rename_i c3
 split at h
 ·simp at h
 rename_i c4
 simp only [Bool.not_eq_false,Bool.and_eq_true] at c1
 obtain ⟨l1,l2,l3⟩:=c1
 refine ⟨?_,l1,l2,l3⟩
 obtain ⟨n1,n2,n3⟩:=hS.nodeI l1
 obtain ⟨u1,u2,u3⟩:=hS.nodeI l2
 have p1:=hS.dom l1
 have p2:=hS.dom l2
 have p3:=hS.dom l3
 have z1:0≤x.node:=by obtain ⟨k,_,e,_⟩:=b5a l1;omega
 have z2:0≤x.up:=by obtain ⟨k,_,e,_⟩:=b5a l2;omega
 have z3:0≤x.before:=by obtain ⟨k,_,e,_⟩:=b5a l3;omega
 have s1:(b1j S (img φ x.node) && (b1j S (img φ x.up) && b1j S (img φ x.before)))≠false:=by rw [hS.liveI z1,hS.liveI z2,hS.liveI z3,l1,l2,l3];decide
 have s2:¬ 0≤Go.TA.upOf S (img φ x.node):=by
  rw [hS.upI l1]
  have:Go.TA.upOf M x.node<0:=by omega
  simp only [img,if_pos this]
  exact c2
 have s3:¬ b2t S (img φ x.up) (img φ x.node)=true:=fun q=>c3 (b2y.2 (by
  have:=b2y.1 q
  rw [← n3, ← u3,hS.below hM n2 u2] at this
  rwa [show ((x.node.toNat:Nat):Int)=x.node by omega,show ((x.up.toNat:Nat):Int)=x.up by omega] at this))
 have s4:¬ (img φ x.before≠0∧Go.TA.upOf S (img φ x.before)≠img φ x.up):=fun ⟨q1,q2⟩=>c4 ⟨fun e=>q1 ((hS.img0 p3).2 e),fun e=>q2 (by rw [hS.upI l3,e])⟩
 have eM:b2s M x=(0,b2h M x.node.toNat x.up.toNat x.before):=by
  unfold b2s
  rw [if_neg (by rw [l1,l2,l3];decide),if_neg c2,if_neg c3,if_neg c4]
 have eS:b2s S (b0i (img φ) x)=(0,b2h S (φ x.node.toNat) (φ x.up.toNat) (img φ x.before)):=by
  unfold b2s
  rw [if_neg (show ¬ (b1j S (b0i (img φ) x).node && (b1j S (b0i (img φ) x).up && b1j S (b0i (img φ) x).before))=false from s1),if_neg (show ¬ 0≤Go.TA.upOf S (b0i (img φ) x).node from s2),if_neg (show ¬ b2t S (b0i (img φ) x).up (b0i (img φ) x).node=true from s3),if_neg (show ¬ ((b0i (img φ) x).before≠0∧Go.TA.upOf S (b0i (img φ) x).before≠(b0i (img φ) x).up) from s4)]
  show (0,b2h S (img φ x.node).toNat (img φ x.up).toNat (img φ x.before))=_
  rw [n1,u1]
 rw [eM,eS]
 exact ⟨rfl,hS.place hM n2 u2 p3⟩
theorem Sim.do3 (hS:Sim φ M S) (hM:M.Ok R) (x:GOp) (h:(b6t M x).1=0):((b6t S (b0i (img φ) x)).1=0∧Sim φ (b6t M x).2 (b6t S (b0i (img φ) x)).2)∧b1j M x.node=true∧b1j M x.before=true:=by
 unfold b6t at h
 split at h
 ·simp at h
 rename_i c1
 split at h
 ·simp at h
 rename_i c2
 split at h
 ·simp at h
 rename_i c3
 simp only [Bool.not_eq_false,Bool.and_eq_true] at c1
 obtain ⟨l1,l3⟩:=c1
 refine ⟨?_,l1,l3⟩
 obtain ⟨n1,n2,n3⟩:=hS.nodeI l1
 have p1:=hS.dom l1
 have p3:=hS.dom l3
 have z1:0≤x.node:=by obtain ⟨k,_,e,_⟩:=b5a l1;omega
 have z3:0≤x.before:=by obtain ⟨k,_,e,_⟩:=b5a l3;omega
 have hup:Dom M (Go.TA.upOf M x.node):=by
  have:=d2o hM n2
  rwa [show ((x.node.toNat:Nat):Int)=x.node by omega] at this
 have hupb:Dom M (Go.TA.upOf M x.before):=by
  obtain ⟨k,hk,e,_⟩:=b5a l3
  rw [e]
  exact d2o hM hk
 obtain ⟨p,hp,ep⟩:∃ p:Nat,p<M.N∧Go.TA.upOf M x.node=(p:Int):=by
  rcases hup with e | e
  ·omega
  ·exact e
 have s1:(b1j S (img φ x.node) && b1j S (img φ x.before))≠false:=by rw [hS.liveI z1,hS.liveI z3,l1,l3];decide
 have eU:Go.TA.upOf S (img φ x.node)=(φ p:Int):=by rw [hS.upI l1,ep,b2n]
 have s2:¬ Go.TA.upOf S (img φ x.node)<0:=by omega
 have s3:¬ (img φ x.before=img φ x.node∨(img φ x.before≠0∧Go.TA.upOf S (img φ x.before)≠Go.TA.upOf S (img φ x.node))):=by
  rintro (q | ⟨q1,q2⟩)
  ·exact c3 (.inl (hS.img_inj p3 p1 q))
  ·exact c3 (.inr ⟨fun e=>q1 ((hS.img0 p3).2 e),fun e=>q2 (by rw [hS.upI l3,hS.upI l1,e])⟩)
 have eM:b6t M x=(0,b2h (b2f M x.node.toNat) x.node.toNat p x.before):=by
  unfold b6t
  rw [if_neg (by rw [l1,l3];decide),if_neg c2,if_neg c3,ep,Int.toNat_natCast]
 have eS:b6t S (b0i (img φ) x)=(0,b2h (b2f S (φ x.node.toNat)) (φ x.node.toNat) (φ p) (img φ x.before)):=by
  unfold b6t
  rw [if_neg (show ¬ (b1j S (b0i (img φ) x).node && b1j S (b0i (img φ) x).before)=false from s1),if_neg (show ¬ Go.TA.upOf S (b0i (img φ) x).node<0 from s2),if_neg (show ¬ ((b0i (img φ) x).before=(b0i (img φ) x).node∨((b0i (img φ) x).before≠0∧Go.TA.upOf S (b0i (img φ) x).before≠Go.TA.upOf S (b0i (img φ) x).node)) from s3)]
  show (0,b2h (b2f S (img φ x.node).toNat) (img φ x.node).toNat (Go.TA.upOf S (img φ x.node)).toNat (img φ x.before))=_
  rw [eU,n1,Int.toNat_natCast]
 rw [eM,eS]
 refine ⟨rfl, ?_⟩
 have hT:=hS.take hM n2
 have hl:(M.st x.node.toNat).live=true:=by
  obtain ⟨k,_,e,hk⟩:=b5a l1
  rw [e];simpa using hk
 obtain ⟨hTok,_⟩:=hM.take n2 hl
 have hN:(b2f M x.node.toNat).N=M.N:=b5i _ _
 refine hT.place hTok (by rw [hN];exact n2) (by rw [hN];exact hp) ?_
 rcases p3 with e | ⟨k,hk,e⟩
 ·exact .inl e
 ·exact .inr ⟨k,by rw [hN];exact hk,e⟩
theorem Sim.change (hS:Sim φ M S) {n:Nat} (hn:n<M.N) (x:GOp):(b3i S (φ n) (b0i (img φ) x)).1=(b3i M n x).1∧Sim φ (b3i M n x).2 (b3i S (φ n) (b0i (img φ) x)).2:=by
 have ea:(S.st (φ n)).attrs=(M.st n).attrs:=by rw [hS.node n hn]
 have e1:(b0i (img φ) x).kind=x.kind:=rfl
 have e2:(b0i (img φ) x).name=x.name:=rfl
 have e3:(b0i (img φ) x).text=x.text:=rfl
 unfold b3i
 rw [ea,e1,e2,e3]
 by_cases k5:x.kind=5
 ·rw [if_pos k5,if_pos k5]
  split
  ·exact ⟨rfl,hS⟩
  ·exact ⟨rfl,hS.setM hn _⟩
 rw [if_neg k5,if_neg k5]
 by_cases k6:x.kind=6
 ·rw [if_pos k6,if_pos k6]
  split
  ·exact ⟨rfl,hS.setM hn _⟩
  ·exact ⟨rfl,hS⟩
 rw [if_neg k6,if_neg k6]
 by_cases k7:x.kind=7
 ·rw [if_pos k7,if_pos k7]
  exact ⟨rfl,hS.textM hn _⟩
 ·rw [if_neg k7,if_neg k7]
  exact ⟨rfl,hS⟩
theorem Sim.doM (hS:Sim φ M S) (hM:M.Ok R) (x:GOp) (h:(Go.TA.doM M x).1=0) :
    ((Go.TA.doM S (b0i (img φ) x)).1=0∧Sim φ (Go.TA.doM M x).2 (Go.TA.doM S (b0i (img φ) x)).2)∧(x.kind=1∨(x.node≠0∧b1j M x.node=true∧(x.kind=2→b1j M x.up=true∧b1j M x.before=true)∧(x.kind=3→b1j M x.before=true))):=by
  by_cases k1:x.kind=1
  · have eM:Go.TA.doM M x=(0,M.create x):=by unfold Go.TA.doM;rw [if_pos k1]
    have eS:Go.TA.doM S (b0i (img φ) x)=(0,S.create (b0i (img φ) x)):=by unfold Go.TA.doM;rw [if_pos (show (b0i (img φ) x).kind=1 from k1)]
    rw [eM,eS]
    exact ⟨⟨rfl,hS.create rfl rfl rfl rfl⟩,.inl k1⟩
  have k1':¬ (b0i (img φ) x).kind=1:=k1
  by_cases n0:x.node=0
  · unfold Go.TA.doM at h
    rw [if_neg k1,if_pos n0] at h
    simp at h
  have nz:b1j M x.node=true→¬ (b0i (img φ) x).node=0:=fun l q=>n0 ((hS.img0 (hS.dom l)).1 q)
  by_cases k2:x.kind=2
  · have eM:Go.TA.doM M x=b2s M x:=by unfold Go.TA.doM;rw [if_neg k1,if_neg n0,if_pos k2]
    rw [eM] at h ⊢
    obtain ⟨q,l1,l2,l3⟩:=hS.do2 hM x h
    have eS:Go.TA.doM S (b0i (img φ) x)=b2s S (b0i (img φ) x):=by unfold Go.TA.doM;rw [if_neg k1',if_neg (nz l1),if_pos (show (b0i (img φ) x).kind=2 from k2)]
    rw [eS]
    exact ⟨q,.inr ⟨n0,l1,fun _=>⟨l2,l3⟩,fun e=>by omega⟩⟩
  have k2':¬ (b0i (img φ) x).kind=2:=k2
  by_cases k3:x.kind=3
  · have eM:Go.TA.doM M x=b6t M x:=by unfold Go.TA.doM;rw [if_neg k1,if_neg n0,if_neg k2,if_pos k3]
    rw [eM] at h ⊢
    obtain ⟨q,l1,l3⟩:=hS.do3 hM x h
    have eS:Go.TA.doM S (b0i (img φ) x)=b6t S (b0i (img φ) x):=by unfold Go.TA.doM;rw [if_neg k1',if_neg (nz l1),if_neg k2',if_pos (show (b0i (img φ) x).kind=3 from k3)]
    rw [eS]
    exact ⟨q,.inr ⟨n0,l1,fun e=>by omega,fun _=>l3⟩⟩
  have k3':¬ (b0i (img φ) x).kind=3:=k3
  cases l1:b1j M x.node with
  | false =>
    unfold Go.TA.doM at h
    rw [if_neg k1,if_neg n0,if_neg k2,if_neg k3,if_pos l1] at h
    simp at h
  | true=>
  obtain ⟨n1,n2,n3⟩:=hS.nodeI l1
  have z1:0≤x.node:=by obtain ⟨k,_,e,_⟩:=b5a l1;omega
  have l1':¬ b1j S (b0i (img φ) x).node=false:=by
    show ¬ b1j S (img φ x.node)=false
    rw [hS.liveI z1,l1];decide
  have hl:(M.st x.node.toNat).live=true:=by
    obtain ⟨k,_,e,hk⟩:=b5a l1
    rw [e];simpa using hk
  by_cases k4:x.kind=4
  · have eM:Go.TA.doM M x=(0,Go.TA.endM (b2f M x.node.toNat) x.node):=by unfold Go.TA.doM;rw [if_neg k1,if_neg n0,if_neg k2,if_neg k3,if_neg (by rw [l1];decide),if_pos k4]
    have eS:Go.TA.doM S (b0i (img φ) x)=(0,Go.TA.endM (b2f S (φ x.node.toNat)) (φ x.node.toNat:Int)):=by
      unfold Go.TA.doM
      rw [if_neg k1',if_neg (nz l1),if_neg k2',if_neg k3',if_neg l1',if_pos (show (b0i (img φ) x).kind=4 from k4)]
      show (0,Go.TA.endM (b2f S (img φ x.node).toNat) (img φ x.node))=_
      rw [n1,n3]
    rw [eM,eS]
    refine ⟨⟨rfl, ?_⟩,.inr ⟨n0,rfl,fun e=>by omega,fun e=>by omega⟩⟩
    obtain ⟨hTok,_⟩:=hM.take n2 hl
    have:=(hS.take hM n2).endM hTok (h:=x.node.toNat) (by rw [b5i];exact n2)
    rwa [show ((x.node.toNat:Nat):Int)=x.node by omega] at this
  · have eM:Go.TA.doM M x=b3i M x.node.toNat x:=by unfold Go.TA.doM;rw [if_neg k1,if_neg n0,if_neg k2,if_neg k3,if_neg (by rw [l1];decide),if_neg k4]
    have eS:Go.TA.doM S (b0i (img φ) x)=b3i S (φ x.node.toNat) (b0i (img φ) x):=by
      unfold Go.TA.doM
      rw [if_neg k1',if_neg (nz l1),if_neg k2',if_neg k3',if_neg l1',if_neg (show ¬ (b0i (img φ) x).kind=4 from k4)]
      show b3i S (img φ x.node).toNat _=_
      rw [n1]
    rw [eM] at h ⊢
    rw [eS]
    obtain ⟨q1,q2⟩:=hS.change n2 x
    exact ⟨⟨by rw [q1];exact h,q2⟩,.inr ⟨n0,rfl,fun e=>by omega,fun e=>by omega⟩⟩
end
end Go.TA


end
section
/- Of a machine's rows: which stand below which. Plain. -/
namespace Go.TA
def b4i (l:List GRow) (p:Int):List Int:=(l.filter fun x=>x.up==p).map GRow.id
theorem b8u (l k:List GRow) (p:Int):b4i (l++k) p=b4i l p++b4i k p:=by simp [b4i]
theorem c2t {l:List GRow} {p:Int} (h:∀ x ∈ l,x.up≠p):b4i l p=[]:=by
 rw [b4i,List.filter_eq_nil_iff.2 (fun x hx=>by simpa using h x hx)]
 rfl
theorem c5s {S:MS} {k u p:Int}:b4i [rowM S k u] p=if u=p then [k] else []:=by
 unfold b4i
 by_cases e:u=p
 ·simp [e,rowM]
 ·simp [e,rowM]
structure Out (S:MS) (n:Nat) (up:Int) (more:List GRow):Prop where
 ups:∀ x ∈ more,x.up=up∨((n:Int)<x.up∧x.up≤(n:Int)+more.length)
 full:∀ (i:Nat) (x:GRow),more[i]? = some x→b4i more ((n:Int)+i+1)=S.kd x.id.toNat
theorem Out.nil (S:MS) (n:Nat) (up:Int):Out S n up []:=⟨fun x hx=>by simp at hx,fun i x hx=>by simp at hx⟩
theorem h6k {S : MS} {n : Nat} {up : Int} (hup : up ≤ (n : Int)) {more more2 : List GRow} {c : Nat} (h1 : Out S n up more) (h2 : Out S (n + more.length + 1) ((n : Int) + more.length + 1) more2) (hk : b4i more2 ((n : Int) + more.length + 1) = S.kd c) :
    Out S n up (more++[rowM S (c:Int) up]++more2):=by
  have hl:(more++[rowM S (c:Int) up]++more2).length=more.length+1+more2.length:=by simp;omega
  refine ⟨fun x hx => ?_,fun i x hx => ?_⟩
  · rw [hl]
    rcases List.mem_append.1 hx with hx | hx
    · rcases List.mem_append.1 hx with hx | hx
      · rcases h1.ups x hx with h | ⟨h,h'⟩
        · exact .inl h
        · exact .inr ⟨h,by push_cast;omega⟩
      · simp only [List.mem_singleton] at hx
        subst hx;exact .inl rfl
    · rcases h2.ups x hx with h | ⟨h,h'⟩
      · exact .inr ⟨by omega,by rw [h];push_cast;omega⟩
      · exact .inr ⟨by push_cast at h;omega,by push_cast at h' ⊢;omega⟩
  · have n1:∀ p:Int,(n:Int)<p→p≤(n:Int)+more.length→b4i [rowM S (c:Int) up] p=[]∧b4i more2 p=[]:=fun p hp hp'=>by
      refine ⟨by rw [c5s,if_neg (by omega)],c2t fun y hy e => ?_⟩
      rcases h2.ups y hy with h | ⟨h,_⟩
      · omega
      · push_cast at h;omega
    have n2:∀ p:Int,(n:Int)+more.length<p→b4i more p=[]∧b4i [rowM S (c:Int) up] p=[]:=fun p hp=>by
      refine ⟨c2t fun y hy e => ?_,by rw [c5s,if_neg (by omega)]⟩
      rcases h1.ups y hy with h | ⟨_,h⟩ <;> omega
    rw [b8u,b8u]
    by_cases hi:i<more.length
    · rw [List.append_assoc,List.getElem?_append_left hi] at hx
      obtain ⟨a,b⟩:=n1 ((n:Int)+i+1) (by omega) (by omega)
      rw [a,b,h1.full i x hx];simp
    · by_cases e:i=more.length
      · subst e
        have hx':x=rowM S (c:Int) up:=by
          rw [List.append_assoc,List.getElem?_append_right (Nat.le_refl _),Nat.sub_self] at hx
          simpa using hx.symm
        obtain ⟨a,b⟩:=n2 ((n:Int)+more.length+1) (by omega)
        rw [a,b,hk,hx'];simp [rowM]
      · have hx':more2[i - (more.length+1)]? = some x:=by
          rw [List.getElem?_append_right (by simp;omega)] at hx
          simpa using hx
        obtain ⟨a,b⟩:=n2 ((n:Int)+i+1) (by omega)
        have:=h2.full _ x hx'
        rw [a,b, ← this]
        simp only [List.nil_append]
        congr 1
        push_cast
        omega
section
variable {R:Nat} {S:MS}
theorem d8v (hS : S.Ok R) {r : Nat → Nat} (hr1 : ∀ c, c < S.N → r c ≤ R) (hr2 : ∀ c p : Nat, c < S.N → (S.st c).up = (p : Int) → r p < r c) :
    ∀ (d:Nat) (out:List GRow) (h:Nat) (up:Int),h<S.N→R<r h+d→up≤(out.length:Int)→∃ more,b1t S d out (h:Int) up=out++more∧Out S out.length up more∧b4i more up=S.kd h
  | 0,out,h,up,hh,hR,hup=>by have:=hr1 h hh;omega
  | d + 1, out, h, up, hh, hR, hup => by
    rw [← b7p]
    have key:∀ i,i≤(S.kd h).length→∃ more,outI S d out h up i=out++more∧Out S out.length up more∧b4i more up=(S.kd h).take i:=by
      intro i
      induction i with
      | zero=>exact fun _=>⟨[],by simp [b8x],Out.nil _ _ _,by simp [b4i]⟩
      | succ i ih =>
        intro hi
        obtain ⟨more,e1,o1,t1⟩:=ih (by omega)
        obtain ⟨k,hk⟩:∃ k,(S.kd h)[i]? = some k:=⟨_,List.getElem?_eq_getElem (by omega)⟩
        obtain ⟨c,rfl,hc,_,hu⟩:=hS.kids h hh k (List.mem_of_getElem? hk)
        have hrc:=hr2 c h hc hu
        have hl:(out++more++[rowM S (c:Int) up]).length=out.length+more.length+1:=by simp;omega
        obtain ⟨more2,e2,o2,t2⟩:=d8v hS hr1 hr2 d (out++more++[rowM S (c:Int) up]) c ((out.length:Int)+more.length+1) hc (by omega) (by rw [hl];push_cast;omega)
        rw [hl] at o2
        rw [b6b hk,e1]
        refine ⟨more++[rowM S (c:Int) up]++more2, ?_,h6k hup o1 o2 t2, ?_⟩
        · have:(((out++more).length:Nat):Int)+1=(out.length:Int)+more.length+1:=by simp
          rw [this,e2];simp
        · have n2:b4i more2 up=[]:=c2t fun y hy e=>by
            rcases o2.ups y hy with h | ⟨h,_⟩
            · omega
            · push_cast at h;omega
          rw [b8u,b8u,t1,c5s,if_pos rfl,n2,List.append_nil,List.take_add_one,hk]
          rfl
    obtain ⟨more,e,o,t⟩:=key _ (Nat.le_refl _)
    exact ⟨more,e,o,by rw [t,List.take_length]⟩
theorem d3a (hS : S.Ok R) {r : Nat → Nat} (hr1 : ∀ c, c < S.N → r c ≤ R) (hr2 : ∀ c p : Nat, c < S.N → (S.st c).up = (p : Int) → r p < r c) :
    ∀ (d d':Nat) (out:List GRow) (h:Nat) (up:Int),h<S.N→R<r h+d→R<r h+d'→b1t S d out (h:Int) up=b1t S d' out (h:Int) up
  | 0,d',out,h,up,hh,hR,hR'=>by have:=hr1 h hh;omega
  | d+1,0,out,h,up,hh,hR,hR'=>by have:=hr1 h hh;omega
  | d + 1, d' + 1, out, h, up, hh, hR, hR' => by
    rw [← b7p, ← b7p]
    have key:∀ i,i≤(S.kd h).length→outI S d out h up i=outI S d' out h up i:=by
      intro i
      induction i with
      | zero=>exact fun _=>rfl
      | succ i ih =>
        intro hi
        obtain ⟨k,hk⟩:∃ k,(S.kd h)[i]? = some k:=⟨_,List.getElem?_eq_getElem (by omega)⟩
        obtain ⟨c,rfl,hc,_,hu⟩:=hS.kids h hh k (List.mem_of_getElem? hk)
        have hrc:=hr2 c h hc hu
        rw [b6b hk,b6b hk,ih (by omega)]
        exact d3a hS hr1 hr2 d d' _ c _ hc (by omega) (by omega)
    exact key _ (Nat.le_refl _)
theorem d1t (hS:S.Ok R) {R':Nat} (h:R≤R'):b2j S R'=b2j S R:=by
 obtain ⟨r,hr1,hr2⟩:=hS.rank
 exact d3a hS hr1 hr2 (R'+1) (R+1) [] 0 0 hS.pos (by omega) (by omega)
theorem g5p (hS:S.Ok R):b4i (b2j S R) 0=S.kd 0∧∀ (i:Nat) (x:GRow),(b2j S R)[i]? = some x→b4i (b2j S R) ((i:Int)+1)=S.kd x.id.toNat:=by
 obtain ⟨r,hr1,hr2⟩:=hS.rank
 obtain ⟨more,e,o,t⟩:=d8v hS hr1 hr2 (R+1) [] 0 0 hS.pos (by omega) (by simp)
 have e':b2j S R=more:=by simpa [b2j] using e
 rw [e']
 refine ⟨t,fun i x hx => ?_⟩
 have:=o.full i x hx
 simpa using this
end
end Go.TA


end
