/- Part 11 of 16 of a proof; joined from CruNames02, CruCmp, CruAttrs09, CruAttrsP, CruAlone, CruTree, CruOpsUsed, CruOpsNone3, CruOpsNone5, CruOpsNone7, CruOpsNone, CruOpsSame, CruOps25, CruDoE, MBelow, RMem, MRowsP, CruSimDo, KidsM, MS0. The machine of rows. Plain. -/
import Derived.Test.YtnjblmbobmbgkaaGreatDoorCr1
import Derived.Test.YtnjblmbobmbgkaaGreatDoorCr10
import Derived.Test.YtnjblmbobmbgkaaGreatDoorCr6
import Derived.Test.YtnjblmbobmbgkaaGreatDoorCr7
set_option linter.unusedSimpArgs false
set_option linter.unusedVariables false
section
/- Tags and names: what the document's answer says of them. -/
set_option maxRecDepth 100000
set_option maxHeartbeats 1000000
namespace Go.TA.Tryz
theorem d6w (c : UInt8) (more : Bool) (g : List AObj) (n : Nat) : b0g T (n + 1) 99 [.p (.int .u8 c.toNat), .p (.bool more)] g = some (.p (.bool (b2t more c)), g) := by
  rw [b0a T99,run_pure rfl rfl rfl]
  by_cases h5:(c.toNat:Int)=45
  · simp -implicitDefEqProofs (disch:=omega) only [Rx,simprocAttr,F99,b2t,b3h,b4v,h5]
  have e5:((c.toNat:Int)==45)=false:=by simpa using h5
  by_cases h1:(97:Int)≤c.toNat
  · by_cases h2:(c.toNat:Int)≤122
    · simp -implicitDefEqProofs (disch:=omega) only [Rx,simprocAttr,F99,b2t,b3h,b4v,h1,h2]
    · have h3:(48:Int)≤c.toNat:=by omega
      have h4:¬ (c.toNat:Int)≤57:=by omega
      have e6:((c.toNat:Int)==58)=false:=by simp;omega
      have e7:((c.toNat:Int)==46)=false:=by simp;omega
      cases more
      · simp -implicitDefEqProofs (disch:=omega) only [Rx,simprocAttr,F99,b2t,b3h,b4v,h1,h2,h3,h4,e5,e6,e7]
      · simp -implicitDefEqProofs (disch:=omega) only [Rx,simprocAttr,F99,b2t,b3h,b4v,h1,h2,h3,h4,e5,e6,e7]
  · by_cases h3:(48:Int)≤c.toNat
    · by_cases h4:(c.toNat:Int)≤57
      · simp -implicitDefEqProofs (disch:=omega) only [Rx,simprocAttr,F99,b2t,b3h,b4v,h1,h3,h4]
      · have e7:((c.toNat:Int)==46)=false:=by simp;omega
        cases more
        · simp -implicitDefEqProofs (disch:=omega) only [Rx,simprocAttr,F99,b2t,b3h,b4v,h1,h3,h4,e5,e7]
        · by_cases h6:(c.toNat:Int)=58
          · simp -implicitDefEqProofs (disch:=omega) only [Rx,simprocAttr,F99,b2t,b3h,b4v,h6]
          · have e6:((c.toNat:Int)==58)=false:=by simpa using h6
            simp -implicitDefEqProofs (disch:=omega) only [Rx,simprocAttr,F99,b2t,b3h,b4v,h1,h3,h4,e5,e6,e7]
    · have e6:((c.toNat:Int)==58)=false:=by simp;omega
      cases more
      · simp -implicitDefEqProofs (disch:=omega) only [Rx,simprocAttr,F99,b2t,b3h,b4v,h1,h3,e5,e6]
      · by_cases h7:(c.toNat:Int)=46
        · simp -implicitDefEqProofs (disch:=omega) only [Rx,simprocAttr,F99,b2t,b3h,b4v,h7]
        · have e7:((c.toNat:Int)==46)=false:=by simpa using h7
          simp -implicitDefEqProofs (disch:=omega) only [Rx,simprocAttr,F99,b2t,b3h,b4v,h1,h3,e5,e6,e7]
theorem d6m {n N:Nat} (s:Bs) (more:Bool) (hs:s.length≤32) (hN:32<N) (i:Nat) (hi:i≤s.length) :
    b0s (b0g T (n+1)) N (.loop h3h) ⟨[(0,.p (.str s)),(1,.p (.bool more)),(5,.p (.int .i64 i))],[],[]⟩=some (outB ((s.drop i).all (b2t more))):=by
  refine b1q (σ := Nat) (S:=fun i=>⟨[(0,.p (.str s)),(1,.p (.bool more)),(5,.p (.int .i64 i))],[],[]⟩) (I:=fun i=>i≤s.length) (μ := fun i=>s.length - i)
    (Φ := fun i=>outB ((s.drop i).all (b2t more))) ?_ i hi (by omega)
  intro i hi
  by_cases h:i<s.length
  · obtain ⟨c,hc⟩:=b0p h
    have hg:=c7i hc
    have k1:(i:Int)<(s.length:Int):=by omega
    rw [b8x hc]
    cases hb:b2t more c with
    | true =>
      refine .inl ⟨i+1, ?_,by omega,by omega,by simp [hb]⟩
      simp -implicitDefEqProofs (disch:=omega) only [Rx,simprocAttr,h3h,k1,hg,d6w,hb]
    | false =>
      refine .inr ⟨?_,by simp [hb,outB]⟩
      have eF:outB ((c::s.drop (i+1)).all (b2t more))=(.ret,⟨[(4,.p (.bool false))],[],[]⟩):=by simp [outB,hb]
      rw [eF]
      simp -implicitDefEqProofs (disch:=omega) only [Rx,simprocAttr,h3h,k1,hg,d6w,hb]
  · refine .inr ⟨?_,by rw [List.drop_eq_nil_of_le (by omega)];simp [outB]⟩
    have k1:¬ (i:Int)<(s.length:Int):=by omega
    rw [List.drop_eq_nil_of_le (by omega)]
    simp -implicitDefEqProofs (disch:=omega) only [Rx,simprocAttr,h3h,k1,outB]
theorem b2k (s : Bs) (more : Bool) (g : List AObj) (n : Nat) : b0g T (n + 35) 63 [.p (.str s), .p (.bool more)] g = some (.p (.bool (b2g more s)), g) := by
  rw [b0a T63,run_pure rfl rfl rfl]
  cases s with
  | nil=>simp -implicitDefEqProofs (disch:=omega) only [Rx,simprocAttr,F63,b2g,Int.natCast_zero]
  | cons c r =>
    have k0:¬ ((r.length:Int)+1<1):=by omega
    by_cases h32:(c::r).length≤32
    · have k1:¬ (32<(r.length:Int)+1):=by simp at h32;omega
      have hl:=d6m (n:=n+33) (N:=n+34) (c::r) more h32 (by omega) 1 (by simp)
      simp only [Int.natCast_one] at hl
      by_cases h1:(97:Int)≤c.toNat
      · by_cases h2:(c.toNat:Int)≤122
        · have h1':¬ ((c.toNat:Int)<97):=by omega
          have h2':¬ (122<(c.toNat:Int)):=by omega
          have e:b2g more (c::r)=r.all (b2t more):=by simp [b2g,b3h,h1,h2];simp at h32;omega
          rw [e]
          cases hb:r.all (b2t more) with
          | true =>
            have hl':outB (((c::r).drop 1).all (b2t more))=(.exit 0,⟨[],[],[]⟩):=by simp [outB,hb]
            rw [hl'] at hl
            simp -implicitDefEqProofs (disch:=omega) only [Rx,simprocAttr,F63,k0,k1,h1',h2',hl]
          | false =>
            have hl':outB (((c::r).drop 1).all (b2t more))=(.ret,⟨[(4,.p (.bool false))],[],[]⟩):=by simp [outB,hb]
            rw [hl'] at hl
            simp -implicitDefEqProofs (disch:=omega) only [Rx,simprocAttr,F63,k0,k1,h1',h2',hl]
        · have h1':¬ ((c.toNat:Int)<97):=by omega
          have h2':122<(c.toNat:Int):=by omega
          have e:b2g more (c::r)=false:=by simp [b2g,b3h,h2]
          rw [e]
          simp -implicitDefEqProofs (disch:=omega) only [Rx,simprocAttr,F63,k0,k1,h1',h2']
      · have h1':(c.toNat:Int)<97:=by omega
        have e:b2g more (c::r)=false:=by simp [b2g,b3h,h1]
        rw [e]
        simp -implicitDefEqProofs (disch:=omega) only [Rx,simprocAttr,F63,k0,k1,h1']
    · have k1:32<(r.length:Int)+1:=by simp at h32;omega
      have e:b2g more (c::r)=false:=by simp [b2g];simp at h32;omega
      rw [e]
      simp -implicitDefEqProofs (disch:=omega) only [Rx,simprocAttr,F63,k0,k1]
end Go.TA.Tryz


end
section
/- Which text is ahead. -/
set_option maxRecDepth 100000
set_option maxHeartbeats 1000000
namespace Go.TA.Tryz
def cmpB:Bs→Bs→Int
 | [],[]=>0
 | [],_::_ => -1
 | _::_,[]=>1
 | a::x,b::y=>if (a.toNat:Int)<b.toNat then -1 else if (b.toNat:Int)<a.toNat then 1 else cmpB x y
theorem c9o : ∀ {x y : Bs}, x ≠ y → (0 < cmpB x y ↔ (b3b x y || x == y) = false)
  | [],[],h=>absurd rfl h
  | [],b::y,h=>by simp [cmpB,b3b]
  | a::x,[],h=>by simp [cmpB,b3b]
  | a :: x, b :: y, h => by
    have e1:(a<b)=((a.toNat:Int)<b.toNat):=by rw [UInt8.lt_iff_toNat_lt];simp
    simp only [cmpB,b3b]
    by_cases h1:(a.toNat:Int)<b.toNat
    · simp [h1,e1]
    · by_cases h2:(b.toNat:Int)<a.toNat
      · have hne:a≠b:=fun e=>by subst e;omega
        have hne':¬ (a::x=b::y):=fun e=>hne (by injection e)
        simp [h1,h2,e1,hne]
      · have he:a=b:=UInt8.toNat_inj.1 (by omega)
        subst he
        have hxy:x≠y:=fun e=>h (by rw [e])
        have:=c9o hxy
        simp only [h1,if_false,this,e1]
        simp [h1]
def b8y (a b:Bs) (r:Int):Ex × St:=if r = -1 then (.ret,⟨[(4,.p (.int .i64 (-1)))],[],[]⟩) else if r=1 then (.ret,⟨[(4,.p (.int .i64 1))],[],[]⟩) else (.exit 0,⟨[(0,.p (.str a)),(1,.p (.str b))],[],[]⟩)
def part:Bs→Bs→Int
 | a::x,b::y=>if (a.toNat:Int)<b.toNat then -1 else if (b.toNat:Int)<a.toNat then 1 else part x y
 | _,_=>0
theorem g3m:∀ (x y:Bs),cmpB x y=if part x y=0 then (if x.length<y.length then -1 else if y.length<x.length then 1 else 0) else part x y
  | [],[]=>by simp [cmpB,part]
  | [],_::_=>by simp [cmpB,part]
  | _::_,[]=>by simp [cmpB,part]
  | a :: x, b :: y => by
    simp only [cmpB,part,g3m x y,List.length_cons]
    split
    · simp
    · split
      · simp
      · simp
theorem h6p {n N : Nat} (a b : Bs) (hN : b.length < N) (hb : b.length ≤ 1048577) :
    b0s (b0g T n) N (.loop c6u) ⟨[(0,.p (.str a)),(1,.p (.str b)),(5,.p (.int .i64 ((0:Nat):Int)))],[],[]⟩=some (b8y a b (part a b)):=by
  refine b1q (C:=b0g T n) (N:=N) (B:=c6u) (σ := Nat) (S:=fun i=>⟨[(0,.p (.str a)),(1,.p (.str b)),(5,.p (.int .i64 i))],[],[]⟩) (I:=fun i=>i≤a.length∧i≤b.length) (μ := fun i=>b.length - i)
    (Φ := fun i=>b8y a b (part (a.drop i) (b.drop i))) ?_ 0 ⟨by omega,by omega⟩ (by omega)
  rintro i ⟨hia,hib⟩
  by_cases h:i<a.length
  · have k1:(i:Int)<(a.length:Int):=by omega
    obtain ⟨x,hx⟩:=b0p h
    have gx:=c7i hx
    by_cases h':i<b.length
    · have k2:(i:Int)<(b.length:Int):=by omega
      obtain ⟨y,hy⟩:=b0p h'
      have gy:=c7i hy
      rw [b8x hx,b8x hy]
      by_cases c1:(x.toNat:Int)<y.toNat
      · refine .inr ⟨?_,by simp [part,c1,b8y]⟩
        have e:part (x::a.drop (i+1)) (y::b.drop (i+1)) = -1:=by simp [part,c1]
        rw [e]
        simp -implicitDefEqProofs (disch:=omega) only [Rx,simprocAttr,c6u,k1,k2,gx,gy,c1,b8y]
      · by_cases c2:(y.toNat:Int)<x.toNat
        · refine .inr ⟨?_,by simp [part,c1,c2,b8y]⟩
          have e:part (x::a.drop (i+1)) (y::b.drop (i+1))=1:=by simp [part,c1,c2]
          rw [e]
          simp -implicitDefEqProofs (disch:=omega) only [Rx,simprocAttr,c6u,k1,k2,gx,gy,c1,c2,b8y]
        · refine .inl ⟨i+1, ?_,⟨by omega,by omega⟩,by omega,by simp [part,c1,c2]⟩
          simp -implicitDefEqProofs (disch:=omega) only [Rx,simprocAttr,c6u,k1,k2,gx,gy,c1,c2]
    · have k2:¬ (i:Int)<(b.length:Int):=by omega
      have e:part (a.drop i) (b.drop i)=0:=by rw [b8x hx,List.drop_eq_nil_of_le (by omega:b.length≤i)];rfl
      refine .inr ⟨?_,by rw [e];simp [b8y]⟩
      rw [e]
      simp -implicitDefEqProofs (disch:=omega) only [Rx,simprocAttr,c6u,k1,k2,b8y]
  · have k1:¬ (i:Int)<(a.length:Int):=by omega
    have e:part (a.drop i) (b.drop i)=0:=by rw [List.drop_eq_nil_of_le (by omega:a.length≤i)];rfl
    refine .inr ⟨?_,by rw [e];simp [b8y]⟩
    rw [e]
    simp -implicitDefEqProofs (disch:=omega) only [Rx,simprocAttr,c6u,k1,b8y]
theorem part_cases:∀ (x y:Bs),part x y = -1∨part x y=1∨part x y=0
  | [],[]=>by simp [part]
  | [],_::_=>by simp [part]
  | _::_,[]=>by simp [part]
  | a :: x, b :: y => by
    simp only [part]
    split
    · simp
    · split
      · simp
      · exact part_cases x y
theorem h2g (a b : Bs) (g : List AObj) {n : Nat} (ha : b.length < n) (hb : b.length ≤ 1048577) : b0g T (n + 1) 100 [.p (.str a), .p (.str b)] g = some (.p (.int .i64 (cmpB a b)), g) := by
  rw [b0a T100,run_pure rfl rfl rfl,g3m]
  have hl:=h6p (n:=n) (N:=n) a b ha hb
  simp only [Int.natCast_zero] at hl
  rcases part_cases a b with h | h | h
  · rw [h] at hl ⊢
    simp only [b8y] at hl
    simp -implicitDefEqProofs (disch:=omega) only [Rx,simprocAttr,F100,hl]
  · rw [h] at hl ⊢
    simp only [b8y] at hl
    simp -implicitDefEqProofs (disch:=omega) only [Rx,simprocAttr,F100,hl]
  · rw [h] at hl ⊢
    simp only [b8y] at hl
    by_cases c1:a.length<b.length
    · have k1:(a.length:Int)<(b.length:Int):=by omega
      simp -implicitDefEqProofs (disch:=omega) only [Rx,simprocAttr,F100,hl,k1,c1]
    · have k1:¬ (a.length:Int)<(b.length:Int):=by omega
      by_cases c2:b.length<a.length
      · have k2:(b.length:Int)<(a.length:Int):=by omega
        simp -implicitDefEqProofs (disch:=omega) only [Rx,simprocAttr,F100,hl,k1,c1,k2,c2]
      · have k2:¬ (b.length:Int)<(a.length:Int):=by omega
        simp -implicitDefEqProofs (disch:=omega) only [Rx,simprocAttr,F100,hl,k1,c1,k2,c2]
end Go.TA.Tryz


end
section
/- What is wrong with attributes: the document's answer. -/
set_option maxRecDepth 100000
set_option maxHeartbeats 8000000
namespace Go.TA.Tryz
def b1u (p : List Attr) (i : Nat) (a : Attr) : Int :=
  if i=64 then 12 else if b2g true a.name=false then 8 else if 65536<(a.value.length:Int) then 3 else match p with
    | []=>0
    | b::_=>if b.name=a.name then 10 else if 0<cmpB b.name a.name then 9 else 0
def b1e:List Attr→Nat→List Attr→Int × Int
 | _,_,[]=>(0,0)
 | p,i,a::l=>if b1u p i a=0 then b1e [a] (i+1) l else (i,b1u p i a)
def b2m (l:List Attr):Int:=(b1e [] 0 l).2
def b2i (l:List Attr):Nat→List Attr
 | 0=>[]
 | i+1=>(l[i]?).toList
def b5i (r:Int × Int):Ex × St:=if r.2=0 then (.exit 0,⟨[],[],[]⟩) else (.ret,⟨[(2,.p (.int .i64 r.1)),(3,.p (.int .i64 r.2))],[],[]⟩)
theorem g3p {l:List Attr} {i:Nat} {a:Attr} (h:l[i]? = some a):b1e (b2i l i) i (l.drop i)=if b1u (b2i l i) i a=0 then b1e (b2i l (i+1)) (i+1) (l.drop (i+1)) else ((i:Int),b1u (b2i l i) i a):=by
 have e:b2i l (i+1)=[a]:=by simp [b2i,h]
 rw [b8x h,e]
 simp only [b1e]
theorem h6z {n N : Nat} (l : List Attr) (hs : b1t l) (hN : l.length < N) (hn : 1048576 < n) :
    b0s (b0g T (n+35)) N (.loop c4x) ⟨[(0,.p (.list (l.map Attr.pv))),(6,.p (.int .i64 l.length)),(7,.p (.int .i64 ((0:Nat):Int)))],[],[]⟩=some (b5i (b1e [] 0 l)):=by
  refine b1q (C:=b0g T (n+35)) (N:=N) (B:=c4x) (σ := Nat) (S:=fun i=>⟨[(0,.p (.list (l.map Attr.pv))),(6,.p (.int .i64 l.length)),(7,.p (.int .i64 i))],[],[]⟩) (I:=fun i=>i≤l.length∧i≤64) (μ := fun i=>l.length - i)
    (Φ := fun i=>b5i (b1e (b2i l i) i (l.drop i))) ?_ 0 ⟨by omega,by omega⟩ (by omega)
  rintro i ⟨hi,hi64⟩
  by_cases h:i<l.length
  · have k1:(i:Int)<(l.length:Int):=by omega
    obtain ⟨a,ha⟩:=b0p h
    have ga:=b0u (f:=Attr.pv) ha
    have hsa:=hs a (List.mem_of_getElem? ha)
    rw [g3p ha]
    have bad:∀ e:Int,b1u (b2i l i) i a=e→e≠0→b0s (b0g T (n+35)) N c4x ⟨[(0,.p (.list (l.map Attr.pv))),(6,.p (.int .i64 l.length)),(7,.p (.int .i64 i))],[],[]⟩=some (.ret,⟨[(2,.p (.int .i64 i)),(3,.p (.int .i64 e))],[],[]⟩) →
        (∃ s',b0s (b0g T (n+35)) N c4x ⟨[(0,.p (.list (l.map Attr.pv))),(6,.p (.int .i64 l.length)),(7,.p (.int .i64 i))],[],[]⟩=some (.normal,(fun (i:Nat)=>(⟨[(0,.p (.list (l.map Attr.pv))),(6,.p (.int .i64 l.length)),(7,.p (.int .i64 i))],[],[]⟩:St)) s')∧(s'≤l.length∧s'≤64)∧l.length - s'<l.length - i∧b5i (if b1u (b2i l i) i a=0 then b1e (b2i l (i+1)) (i+1) (l.drop (i+1)) else ((i:Int),b1u (b2i l i) i a))=b5i (b1e (b2i l s') s' (l.drop s'))) ∨
        (b0s (b0g T (n+35)) N c4x ⟨[(0,.p (.list (l.map Attr.pv))),(6,.p (.int .i64 l.length)),(7,.p (.int .i64 i))],[],[]⟩=some (b5i (if b1u (b2i l i) i a=0 then b1e (b2i l (i+1)) (i+1) (l.drop (i+1)) else ((i:Int),b1u (b2i l i) i a)))∧(b5i (if b1u (b2i l i) i a=0 then b1e (b2i l (i+1)) (i+1) (l.drop (i+1)) else ((i:Int),b1u (b2i l i) i a))).1 ≠ .normal):=fun e he h0 hr=>by
      refine .inr ?_
      rw [he,if_neg h0]
      simp only [b5i,h0,if_false]
      exact ⟨hr,by simp⟩
    by_cases h64:i=64
    · refine bad 12 (by simp [b1u,h64]) (by decide) ?_
      have k2:((i:Int)==64)=true:=by simp;omega
      simp -implicitDefEqProofs (disch:=omega) only [Rx,simprocAttr,c4x,k1,k2]
    have k2:((i:Int)==64)=false:=by simp;omega
    cases hnm:b2g true a.name with
    | false =>
      refine bad 8 (by simp [b1u,h64,hnm]) (by decide) ?_
      simp -implicitDefEqProofs (disch:=omega) only [Rx,simprocAttr,c4x,k1,k2,ga,Attr.pv,b2k,hnm]
    | true=>
    by_cases hlong:65536<(a.value.length:Int)
    · refine bad 3 (by simp [b1u,h64,hnm,hlong]) (by decide) ?_
      simp -implicitDefEqProofs (disch:=omega) only [Rx,simprocAttr,c4x,k1,k2,ga,Attr.pv,b2k,hnm,hlong]
    cases i with
    | zero =>
      have e:b1u (b2i l 0) 0 a=0:=by simp [b1u,hnm,hlong,b2i]
      rw [e,if_pos rfl]
      refine .inl ⟨1, ?_,⟨by omega,by omega⟩,by omega,rfl⟩
      simp only [Int.natCast_zero,Int.natCast_one] at k1 k2 ⊢
      have k3:(0:Int)<(l.length:Int):=k1
      have ga0:(l.map Attr.pv).getD 0 []=Attr.pv a:=ga
      have e0:Int.toNat 0=0:=rfl
      simp -implicitDefEqProofs (disch:=omega) only [Rx,simprocAttr,c4x,k3,ga0,e0,Attr.pv,b2k,hnm,hlong]
    | succ j =>
      obtain ⟨b,hb⟩:=b0p (show j<l.length by omega)
      have gb:=b0u (f:=Attr.pv) hb
      have hsb:=hs b (List.mem_of_getElem? hb)
      have ep:b2i l (j+1)=[b]:=by simp [b2i,hb]
      have k3:(0:Int)<(j:Int)+1:=by omega
      have k4:(j:Int)<(l.length:Int):=by omega
      simp only [Int.natCast_add,Int.natCast_one] at k1 k2
      have k5:((j:Int)+1).toNat=j+1:=by omega
      have hc:=fun g=>h2g (n:=n+34) b.name a.name g (by omega) (by omega)
      by_cases heq:b.name=a.name
      · refine bad 10 (by simp [b1u,h64,hnm,hlong,ep,heq]) (by decide) ?_
        have heq':(b.name==a.name)=true:=by simpa using heq
        simp -implicitDefEqProofs (disch:=omega) only [Rx,simprocAttr,c4x,k1,k2,k3,k4,k5,ga,gb,Attr.pv,b2k,hnm,hlong,heq']
      · have heq':(b.name==a.name)=false:=by simpa using heq
        by_cases hgt:0<cmpB b.name a.name
        · refine bad 9 (by simp [b1u,h64,hnm,hlong,ep,heq,hgt]) (by decide) ?_
          simp -implicitDefEqProofs (disch:=omega) only [Rx,simprocAttr,c4x,k1,k2,k3,k4,k5,ga,gb,Attr.pv,b2k,hnm,hlong,heq',hc,hgt]
        · have e:b1u (b2i l (j+1)) (j+1) a=0:=by simp [b1u,h64,hnm,hlong,ep,heq,hgt]
          rw [e,if_pos rfl]
          refine .inl ⟨j+1+1, ?_,⟨by omega,by omega⟩,by omega,rfl⟩
          simp -implicitDefEqProofs (disch:=omega) only [Rx,simprocAttr,c4x,k1,k2,k3,k4,k5,ga,gb,Attr.pv,b2k,hnm,hlong,heq',hc,hgt]
  · have k1:¬ (i:Int)<(l.length:Int):=by omega
    have e:l.drop i=[]:=List.drop_eq_nil_of_le (by omega)
    refine .inr ⟨?_,by rw [e];simp [b1e,b5i]⟩
    rw [e]
    simp -implicitDefEqProofs (disch:=omega) only [Rx,simprocAttr,c4x,k1,b1e,b5i]
theorem g1k (l : List Attr) (hs : b1t l) (g : List AObj) {n : Nat} (hl : l.length < n + 35) (hn : 1048576 < n) : b0g T (n + 36) 64 [.p (.list (l.map Attr.pv))] g = some (.tuple [.p (.int .i64 (b1e [] 0 l).1), .p (.int .i64 (b2m l))], g) := by
  rw [b0a T64,run_pure rfl rfl rfl]
  have hloop:=h6z (n:=n) (N:=n+35) l hs hl hn
  simp only [Int.natCast_zero] at hloop
  unfold b2m
  have h1:(b1e [] 0 l).2=0→(b1e [] 0 l).1=0:=by
    have key:∀ (p:List Attr) (i:Nat) (l:List Attr),(b1e p i l).2=0→(b1e p i l).1=0:=by
      intro p i l
      induction l generalizing p i with
      | nil=>simp [b1e]
      | cons a l ih =>
        simp only [b1e]
        split
        · exact ih _ _
        · rename_i h;intro h';exact absurd h' h
    exact key [] 0 l
  generalize b1e [] 0 l=r at hloop h1
  obtain ⟨x,e⟩:=r
  simp only [b5i] at hloop h1 ⊢
  by_cases h:e=0
  · rw [if_pos h] at hloop
    rw [h1 h,h]
    simp -implicitDefEqProofs (disch:=omega) only [Rx,simprocAttr,F64,hloop]
  · rw [if_neg h] at hloop
    simp -implicitDefEqProofs (disch:=omega) only [Rx,simprocAttr,F64,hloop]
end Go.TA.Tryz


end
section
/- What is wrong with attributes: the program. -/
set_option maxRecDepth 100000
set_option maxHeartbeats 8000000
namespace Go.TA.Tryz
theorem j0r {n N : Nat} (l : List Attr) (hN : l.length < N) :
    b0s (b0g T (n+36)) N (.loop c4w) ⟨[(0,.p (.list (l.map Attr.pv))),(7,.p (.list (l.map Attr.pv))),(8,.p (.int .i64 l.length)),(9,.p (.int .i64 ((0:Nat):Int)))],[],[]⟩=some (b5i (b1e [] 0 l)):=by
  refine b1q (C:=b0g T (n+36)) (N:=N) (B:=c4w) (σ := Nat) (S:=fun i=>⟨[(0,.p (.list (l.map Attr.pv))),(7,.p (.list (l.map Attr.pv))),(8,.p (.int .i64 l.length)),(9,.p (.int .i64 i))],[],[]⟩) (I:=fun i=>i≤l.length∧i≤64) (μ := fun i=>l.length - i)
    (Φ := fun i=>b5i (b1e (b2i l i) i (l.drop i))) ?_ 0 ⟨by omega,by omega⟩ (by omega)
  rintro i ⟨hi,hi64⟩
  by_cases h:i<l.length
  · have k1 : (i : Int) < (l.length : Int) := by omega
    obtain ⟨a,ha⟩:=b0p h
    have ga:=b0u (f:=Attr.pv) ha
    rw [g3p ha]
    have bad:∀ e:Int,b1u (b2i l i) i a=e→e≠0→b0s (b0g T (n+36)) N c4w ⟨[(0,.p (.list (l.map Attr.pv))),(7,.p (.list (l.map Attr.pv))),(8,.p (.int .i64 l.length)),(9,.p (.int .i64 i))],[],[]⟩=some (.ret,⟨[(2,.p (.int .i64 i)),(3,.p (.int .i64 e))],[],[]⟩) →
        (∃ s',b0s (b0g T (n+36)) N c4w ⟨[(0,.p (.list (l.map Attr.pv))),(7,.p (.list (l.map Attr.pv))),(8,.p (.int .i64 l.length)),(9,.p (.int .i64 i))],[],[]⟩=some (.normal,(fun (i:Nat)=>(⟨[(0,.p (.list (l.map Attr.pv))),(7,.p (.list (l.map Attr.pv))),(8,.p (.int .i64 l.length)),(9,.p (.int .i64 i))],[],[]⟩:St)) s')∧(s'≤l.length∧s'≤64)∧l.length - s'<l.length - i∧b5i (if b1u (b2i l i) i a=0 then b1e (b2i l (i+1)) (i+1) (l.drop (i+1)) else ((i:Int),b1u (b2i l i) i a))=b5i (b1e (b2i l s') s' (l.drop s'))) ∨
        (b0s (b0g T (n+36)) N c4w ⟨[(0,.p (.list (l.map Attr.pv))),(7,.p (.list (l.map Attr.pv))),(8,.p (.int .i64 l.length)),(9,.p (.int .i64 i))],[],[]⟩=some (b5i (if b1u (b2i l i) i a=0 then b1e (b2i l (i+1)) (i+1) (l.drop (i+1)) else ((i:Int),b1u (b2i l i) i a)))∧(b5i (if b1u (b2i l i) i a=0 then b1e (b2i l (i+1)) (i+1) (l.drop (i+1)) else ((i:Int),b1u (b2i l i) i a))).1 ≠ .normal):=fun e he h0 hr=>by
      refine .inr ?_
      rw [he,if_neg h0]
      simp only [b5i,h0,if_false]
      exact ⟨hr,by simp⟩
    by_cases h64:i=64
    · refine bad 12 (by simp [b1u,h64]) (by decide) ?_
      have k2:((i:Int)==64)=true:=by simp;omega
      simp -implicitDefEqProofs (disch:=omega) only [Rx,simprocAttr,c4w,k1,k2,ga,Attr.pv]
    have k2:((i:Int)==64)=false:=by simp;omega
    cases hnm:b2g true a.name with
    | false =>
      refine bad 8 (by simp [b1u,h64,hnm]) (by decide) ?_
      simp -implicitDefEqProofs (disch:=omega) only [Rx,simprocAttr,c4w,k1,k2,ga,Attr.pv,b9f,hnm]
    | true=>
    by_cases hlong:(a.value.length:Int)≤65536
    rotate_left
    · refine bad 3 (by simp [b1u,h64,hnm];omega) (by decide) ?_
      simp -implicitDefEqProofs (disch:=omega) only [Rx,simprocAttr,c4w,k1,k2,ga,Attr.pv,b9f,hnm,b7i,hlong]
    have hlong':¬ (65536<(a.value.length:Int)):=by omega
    cases i with
    | zero =>
      have e:b1u (b2i l 0) 0 a=0:=by simp [b1u,hnm,hlong',b2i]
      rw [e,if_pos rfl]
      refine .inl ⟨1, ?_,⟨by omega,by omega⟩,by omega,rfl⟩
      simp only [Int.natCast_zero,Int.natCast_one] at k1 k2 ⊢
      have k3:(0:Int)<(l.length:Int):=k1
      have ga0:(l.map Attr.pv).getD 0 []=Attr.pv a:=ga
      have e0:Int.toNat 0=0:=rfl
      simp -implicitDefEqProofs (disch:=omega) only [Rx,simprocAttr,c4w,k3,ga0,e0,Attr.pv,b9f,hnm,b7i,hlong]
    | succ j =>
      obtain ⟨b,hb⟩:=b0p (show j<l.length by omega)
      have gb:=b0u (f:=Attr.pv) hb
      have ep:b2i l (j+1)=[b]:=by simp [b2i,hb]
      have k3:(0:Int)<(j:Int)+1:=by omega
      have k4:(j:Int)<(l.length:Int):=by omega
      simp only [Int.natCast_add,Int.natCast_one] at k1 k2
      have k5:((j:Int)+1).toNat=j+1:=by omega
      by_cases heq:b.name=a.name
      · refine bad 10 (by simp [b1u,h64,hnm,hlong',ep,heq]) (by decide) ?_
        have heq':(b.name==a.name)=true:=by simpa using heq
        simp -implicitDefEqProofs (disch:=omega) only [Rx,simprocAttr,c4w,k1,k2,k3,k4,k5,ga,gb,Attr.pv,b9f,hnm,b7i,hlong,heq']
      · have heq':(b.name==a.name)=false:=by simpa using heq
        have hcmp:=c9o heq
        by_cases hgt:0<cmpB b.name a.name
        · refine bad 9 (by simp [b1u,h64,hnm,hlong',ep,heq,hgt]) (by decide) ?_
          have hl:b3b b.name a.name=false:=by have:=hcmp.1 hgt;rw [heq',Bool.or_false] at this;exact this
          simp -implicitDefEqProofs (disch:=omega) only [Rx,simprocAttr,c4w,k1,k2,k3,k4,k5,ga,gb,Attr.pv,b9f,hnm,b7i,hlong,heq',binS,hl]
        · have e:b1u (b2i l (j+1)) (j+1) a=0:=by simp [b1u,h64,hnm,hlong',ep,heq,hgt]
          have hl:b3b b.name a.name=true:=by
            cases h:b3b b.name a.name
            · exact absurd (hcmp.2 (by rw [h,heq'];rfl)) hgt
            · rfl
          rw [e,if_pos rfl]
          refine .inl ⟨j+1+1, ?_,⟨by omega,by omega⟩,by omega,rfl⟩
          simp -implicitDefEqProofs (disch:=omega) only [Rx,simprocAttr,c4w,k1,k2,k3,k4,k5,ga,gb,Attr.pv,b9f,hnm,b7i,hlong,heq',binS,hl]
  · have k1:¬ (i:Int)<(l.length:Int):=by omega
    have e:l.drop i=[]:=List.drop_eq_nil_of_le (by omega)
    refine .inr ⟨?_,by rw [e];simp [b1e,b5i]⟩
    rw [e]
    simp -implicitDefEqProofs (disch:=omega) only [Rx,simprocAttr,c4w,k1,b1e,b5i]
theorem h7w (l : List Attr) (g : List AObj) {n : Nat} (hl : l.length < n + 36) : b0g T (n + 37) 71 [.p (.list (l.map Attr.pv))] g = some (.tuple [.p (.int .i64 (b1e [] 0 l).1), .p (.int .i64 (b2m l))], g) := by
  rw [b0a T71,run_pure rfl rfl rfl]
  have hloop:=j0r (n:=n) (N:=n+36) l hl
  simp only [Int.natCast_zero] at hloop
  unfold b2m
  have h1:(b1e [] 0 l).2=0→(b1e [] 0 l).1=0:=by
    have key:∀ (p:List Attr) (i:Nat) (l:List Attr),(b1e p i l).2=0→(b1e p i l).1=0:=by
      intro p i l
      induction l generalizing p i with
      | nil=>simp [b1e]
      | cons a l ih =>
        simp only [b1e]
        split
        · exact ih _ _
        · rename_i h;intro h';exact absurd h' h
    exact key [] 0 l
  generalize b1e [] 0 l=r at hloop h1
  obtain ⟨x,e⟩:=r
  simp only [b5i] at hloop h1 ⊢
  by_cases h:e=0
  · rw [if_pos h] at hloop
    rw [h1 h,h]
    simp -implicitDefEqProofs (disch:=omega) only [Rx,simprocAttr,F71,hloop]
  · rw [if_neg h] at hloop
    simp -implicitDefEqProofs (disch:=omega) only [Rx,simprocAttr,F71,hloop]
end Go.TA.Tryz


end
section
/- What is wrong with a node alone. -/
set_option maxRecDepth 100000
set_option maxHeartbeats 8000000
namespace Go.TA.Tryz
def b1x (x:GRow):Int:=if b2g false x.tag=false then 7 else if 65536<(x.key.length:Int) then 3 else if 65536<(x.text.length:Int) then 3 else b2m x.attrs
def b0z (x:GRow) (ks:List (List PV)):List PV:=[.str x.tag,.str x.key,.str x.text,.list (x.attrs.map Attr.pv),.list ks]
theorem h2u (x:GRow) (ks:List (List PV)) (hs:b1t x.attrs) (g:List AObj) {n:Nat} (hl:x.attrs.length<n) (hn:1048576<n) :
    b0g T (n+37) 40 [.p (.agg (b0z x ks))] g=some (.p (.int .i64 (b1x x)),g):=by
  rw [b0a T40,run_pure rfl rfl rfl]
  have ha:=fun g=>g1k x.attrs hs g (n:=n) (by omega) hn
  cases h1:b2g false x.tag with
  | false =>
    have e:b1x x=7:=by simp [b1x,h1]
    rw [e]
    simp -implicitDefEqProofs (disch:=omega) only [Rx,simprocAttr,F40,b0z,b2k,h1]
  | true=>
  by_cases h2:65536<(x.key.length:Int)
  · have e:b1x x=3:=by simp [b1x,h1,h2]
    rw [e]
    simp -implicitDefEqProofs (disch:=omega) only [Rx,simprocAttr,F40,b0z,b2k,h1,h2]
  by_cases h3:65536<(x.text.length:Int)
  · have e:b1x x=3:=by simp [b1x,h1,h2,h3]
    rw [e]
    simp -implicitDefEqProofs (disch:=omega) only [Rx,simprocAttr,F40,b0z,b2k,h1,h2,h3]
  have e:b1x x=b2m x.attrs:=by simp [b1x,h1,h2,h3]
  rw [e]
  simp -implicitDefEqProofs (disch:=omega) only [Rx,simprocAttr,F40,b0z,b2k,h1,h2,h3,ha]
theorem g7r (x:GRow) (ks:List (List PV)) (g:List AObj) {n:Nat} (hl:x.attrs.length<n) :
    b0g T (n+38) 130 [.p (.agg (b0z x ks))] g=some (.p (.int .i64 (b1x x)),g):=by
  rw [b0a T130,run_pure rfl rfl rfl]
  have ha:=fun g=>h7w x.attrs g (n:=n) (by omega)
  cases h1:b2g false x.tag with
  | false =>
    have e:b1x x=7:=by simp [b1x,h1]
    rw [e]
    simp -implicitDefEqProofs (disch:=omega) only [Rx,simprocAttr,F130,b0z,c7v,h1]
  | true=>
  by_cases h2:(x.key.length:Int)≤65536
  rotate_left
  · have e:b1x x=3:=by simp [b1x,h1];omega
    rw [e]
    simp -implicitDefEqProofs (disch:=omega) only [Rx,simprocAttr,F130,b0z,c7v,h1,b7i,h2]
  by_cases h3:(x.text.length:Int)≤65536
  rotate_left
  · have e:b1x x=3:=by simp [b1x,h1];omega
    rw [e]
    simp -implicitDefEqProofs (disch:=omega) only [Rx,simprocAttr,F130,b0z,c7v,h1,b7i,h2,h3]
  have e:b1x x=b2m x.attrs:=by
    have h2':¬ 65536<(x.key.length:Int):=by omega
    have h3':¬ 65536<(x.text.length:Int):=by omega
    simp [b1x,h1,h2',h3']
  rw [e]
  simp -implicitDefEqProofs (disch:=omega) only [Rx,simprocAttr,F130,b0z,c7v,h1,b7i,h2,h3,ha]
end Go.TA.Tryz


end
section
/- The tree of rows, as the program builds it. -/
set_option maxRecDepth 100000
set_option maxHeartbeats 8000000
namespace Go.TA.Tryz
theorem h2t (l:List Attr):((l.map Attr.pv).all fun x=>x.length==2)=true:=by simp [List.all_eq_true,Attr.pv]
theorem b8z:∀ (l:List Attr),PV.sameLL (l.map Attr.pv) (l.map Attr.pv)=true
 | []=>rfl
 | a::l=>by simp [PV.sameLL,PV.sameL,PV.same,Attr.pv,b8z l]
theorem b6j (l:List Attr) (h:l.length≤1048577) (g:List AObj) (n:Nat):b0g T (n+1) 37 [.p (.list (l.map Attr.pv))] g=some (.own true g.length l.length,g++[.pcells 2 (l.map Attr.pv)]):=by
 rw [b5j T37]
 have h2:=h2t l
 have h3:l.length*4096≤140737488355328:=by omega
 simp only [b6x,thaw,c0w,c6d,h2,List.length_map,h3,and_self,if_true]
mutual
inductive BT (l:List GRow):Nat→Nat→List PV→Prop
 | mk {a b:Nat} {x:GRow} {ks:List (List PV)}:l[a]? = some x→BTs l a b ks→BT l a b (b0z x ks)
inductive BTs (l:List GRow):Nat→Nat→List (List PV)→Prop
 | nil {a:Nat}:BTs l a (a+1) []
 | snoc {a m b:Nat} {ks:List (List PV)} {k:List PV} {y:GRow}:BTs l a m ks→l[m]? = some y→y.up=(a:Int)+1→BT l m b k→BTs l a b (ks++[k])
end
mutual
theorem BT.lt {l:List GRow} {a b:Nat} {p:List PV}:BT l a b p→a<b∧b≤l.length
  | .mk hx h => by
    have:=BTs.lt h (List.getElem?_eq_some_iff.1 hx).1
    omega
theorem BTs.lt {l:List GRow} {a b:Nat} {ks:List (List PV)}:BTs l a b ks→a<l.length→a+1≤b∧b≤l.length∧ks.length+a+1≤b
  | .nil,ha=>⟨Nat.le_refl _,ha,by simp⟩
  | .snoc h _ _ h2, ha => by
    have h3:=BTs.lt h ha
    have h4:=BT.lt h2
    simp only [List.length_append,List.length_singleton]
    omega
end
theorem BT.len {l:List GRow} {a b:Nat} {p:List PV} (h:BT l a b p):p.length=5:=by
 cases h with
 | mk _ _=>rfl
theorem BTs.at {l:List GRow} {a b:Nat} {ks:List (List PV)} (h:BTs l a b ks):∀ (i:Nat) k,ks[i]? = some k→∃ m m' y,BTs l a m (ks.take i)∧l[m]? = some y∧y.up=(a:Int)+1∧BT l m m' k∧BTs l a m' (ks.take (i+1))∧m'≤b:=by
  match h with
  | .nil=>intro i k hk;simp at hk
  | .snoc (m := m) (ks := ks0) (k := k0) (y := y) h1 hy hu h2 =>
    intro i k hk
    by_cases hi:i<ks0.length
    · rw [List.getElem?_append_left hi] at hk
      obtain ⟨m1,m2,y1,q1,q2,q3,q4,q5,q6⟩:=BTs.at h1 i k hk
      have:=BT.lt h2
      refine ⟨m1,m2,y1, ?_,q2,q3,q4, ?_,by omega⟩
      · rw [List.take_append_of_le_length (by omega)];exact q1
      · rw [List.take_append_of_le_length (by omega)];exact q5
    · have hlt:=(List.getElem?_eq_some_iff.1 hk).1
      simp only [List.length_append,List.length_singleton] at hlt
      obtain rfl:i=ks0.length:=by omega
      rw [List.getElem?_append_right (Nat.le_refl _),Nat.sub_self] at hk
      simp only [List.getElem?_cons_zero,Option.some.injEq] at hk
      subst hk
      refine ⟨m,b,y, ?_,hy,hu,h2, ?_,Nat.le_refl _⟩
      · rw [List.take_append_of_le_length (Nat.le_refl _),List.take_length];exact h1
      · rw [List.take_of_length_le (by simp)];exact .snoc h1 hy hu h2
mutual
theorem BT.uniq {l:List GRow} {a b b':Nat} {p p':List PV}:BT l a b p→BT l a b' p'→p=p'→b=b'
  | .mk hx h, .mk hx' h', e => by
    simp only [b0z,List.cons.injEq,PV.list.injEq,and_true] at e
    exact BTs.uniq h h' e.2.2.2.2
theorem BTs.uniq {l:List GRow} {a b b':Nat} {ks ks':List (List PV)}:BTs l a b ks→BTs l a b' ks'→ks=ks'→b=b'
  | .nil,.nil,_=>rfl
  | .nil,.snoc _ _ _ _,e=>by simp at e
  | .snoc _ _ _ _,.nil,e=>by simp at e
  | .snoc h1 _ _ h2, .snoc h1' _ _ h2', e => by
    obtain ⟨e1,e2⟩:=List.append_inj' e rfl
    have e3:=BTs.uniq h1 h1' e1
    subst e3
    exact BT.uniq h2 h2' (by simpa using e2)
end
def g0i (ks:List (List PV)):AV:=match ks with
 | [] => .nils
 | _::_ => .own true 0 ks.length
theorem h0v (r:List Nat) (ks:List (List PV)):mentions r (g0i ks)=false:=by cases ks <;> simp [g0i,mentions]
def g0h (ks:List (List PV)):List AObj:=match ks with
 | []=>[]
 | _::_=>[.pcells 5 ks]
def c4q (x:GRow) (ks:List (List PV)):List (Nat × AObj):=[(4,.pcells 5 [[.str [],.str [],.str [],.list [],.list []]]),(7,.cells 5 [[.p (.str x.tag),.p (.str x.key),.p (.str x.text),.p (.list (x.attrs.map Attr.pv)),g0i ks]]),(1000,.pcells 5 [])]
def c6q (l:List GRow) (a:Nat) (x:GRow) (nx:Nat) (ks:List (List PV)):St:=⟨[(0,.p (.list (l.map GRow.pv))),(1,.p (.int .i64 a)),(4,.ptr false 4 5 1 0 0),(7,.ptr false 7 5 1 0 0),(8,.p (.int .i64 nx))],c4q x ks,g0h ks⟩
def j4e (l:List GRow) (a:Nat) (x:GRow) (r:Ex × St):Prop:=∃ nx ks,BTs l a nx ks∧(∀ y,l[nx]? = some y→y.up≠(a:Int)+1)∧r=(.exit 0,⟨[(4,.ptr false 4 5 1 0 0),(7,.ptr false 7 5 1 0 0),(8,.p (.int .i64 nx))],c4q x ks,g0h ks⟩)
end Go.TA.Tryz


end
section
/- An operation with the fields alone that its kind uses. -/
set_option maxRecDepth 100000
set_option maxHeartbeats 8000000
namespace Go.TA.Tryz
theorem g8e (x:GOp) (hk:x.kind=1) (g:List AObj) (n:Nat):b0g T (n+1) 67 [.p (.agg x.pv)] g=some (.p (.agg (h4d x).pv),g):=by
 rw [b0a T67,run_pure rfl rfl rfl]
 simp -implicitDefEqProofs (disch:=omega) only [Rx,simprocAttr,F67,GOp.pv,b0b,h4d,hk,b8z]
theorem g8d (x:GOp) (hk:x.kind=2) (g:List AObj) (n:Nat):b0g T (n+1) 67 [.p (.agg x.pv)] g=some (.p (.agg (h4c x).pv),g):=by
 rw [b0a T67,run_pure rfl rfl rfl]
 simp -implicitDefEqProofs (disch:=omega) only [Rx,simprocAttr,F67,GOp.pv,b0b,h4c,hk]
theorem g8c (x:GOp) (hk:x.kind=3) (g:List AObj) (n:Nat):b0g T (n+1) 67 [.p (.agg x.pv)] g=some (.p (.agg (h4b x).pv),g):=by
 rw [b0a T67,run_pure rfl rfl rfl]
 simp -implicitDefEqProofs (disch:=omega) only [Rx,simprocAttr,F67,GOp.pv,b0b,h4b,hk]
theorem g8b (x:GOp) (hk:x.kind=4) (g:List AObj) (n:Nat):b0g T (n+1) 67 [.p (.agg x.pv)] g=some (.p (.agg (h4a x).pv),g):=by
 rw [b0a T67,run_pure rfl rfl rfl]
 simp -implicitDefEqProofs (disch:=omega) only [Rx,simprocAttr,F67,GOp.pv,b0b,h4a,hk]
theorem g8a (x:GOp) (hk:x.kind=5) (g:List AObj) (n:Nat):b0g T (n+1) 67 [.p (.agg x.pv)] g=some (.p (.agg (h3z x).pv),g):=by
 rw [b0a T67,run_pure rfl rfl rfl]
 simp -implicitDefEqProofs (disch:=omega) only [Rx,simprocAttr,F67,GOp.pv,b0b,h3z,hk]
theorem g7z (x:GOp) (hk:x.kind=6) (g:List AObj) (n:Nat):b0g T (n+1) 67 [.p (.agg x.pv)] g=some (.p (.agg (h3y x).pv),g):=by
 rw [b0a T67,run_pure rfl rfl rfl]
 simp -implicitDefEqProofs (disch:=omega) only [Rx,simprocAttr,F67,GOp.pv,b0b,h3y,hk]
theorem g7y (x:GOp) (hk:x.kind=7) (g:List AObj) (n:Nat):b0g T (n+1) 67 [.p (.agg x.pv)] g=some (.p (.agg (h3x x).pv),g):=by
 rw [b0a T67,run_pure rfl rfl rfl]
 simp -implicitDefEqProofs (disch:=omega) only [Rx,simprocAttr,F67,GOp.pv,b0b,h3x,hk]
theorem h3w (x:GOp) (h1:1≤x.kind) (h7:x.kind≤7) (g:List AObj) (n:Nat):b0g T (n+1) 67 [.p (.agg x.pv)] g=some (.p (.agg (b5e x).pv),g):=by
 by_cases k1:x.kind=1
 ·rw [g8e x k1];simp [b5e,k1]
 by_cases k2:x.kind=2
 ·rw [g8d x k2];simp [b5e,k2]
 by_cases k3:x.kind=3
 ·rw [g8c x k3];simp [b5e,k3]
 by_cases k4:x.kind=4
 ·rw [g8b x k4];simp [b5e,k4]
 by_cases k5:x.kind=5
 ·rw [g8a x k5];simp [b5e,k5]
 by_cases k6:x.kind=6
 ·rw [g7z x k6];simp [b5e,k6]
 by_cases k7:x.kind=7
 ·rw [g7y x k7];simp [b5e,k7]
 omega
end Go.TA.Tryz


end
section
/- Does an operation have a field that its kind does not use? The document's answer. -/
set_option maxRecDepth 100000
set_option maxHeartbeats 8000000
namespace Go.TA.Tryz
theorem h0b (x:GOp) (hk:x.kind=1) (g:List AObj) (n:Nat):b0g T (n+1) 82 [.p (.agg x.pv)] g=some (.p (.bool (g4z x)),g):=by
 rw [b0a T82,run_pure rfl rfl rfl]
 simp only [g4z,nzI,nzS,nzA]
 cases h0:(x.node==0)
 ·simp -implicitDefEqProofs (disch:=omega) only [Rx,simprocAttr,F82,GOp.pv,b0b,hk,h0]
 cases h1:(x.up==0)
 ·simp -implicitDefEqProofs (disch:=omega) only [Rx,simprocAttr,F82,GOp.pv,b0b,hk,h0,h1]
 cases h2:(x.before==0)
 ·simp -implicitDefEqProofs (disch:=omega) only [Rx,simprocAttr,F82,GOp.pv,b0b,hk,h0,h1,h2]
 cases h3:(x.name==[])
 ·simp -implicitDefEqProofs (disch:=omega) only [Rx,simprocAttr,F82,GOp.pv,b0b,hk,h0,h1,h2,h3]
 simp -implicitDefEqProofs (disch:=omega) only [Rx,simprocAttr,F82,GOp.pv,b0b,hk,h0,h1,h2,h3]
theorem g9z (x:GOp) (hk:x.kind=2) (g:List AObj) (n:Nat):b0g T (n+1) 82 [.p (.agg x.pv)] g=some (.p (.bool (h0a x)),g):=by
 rw [b0a T82,run_pure rfl rfl rfl]
 simp only [h0a,nzI,nzS,nzA]
 cases h0:(x.tag==[])
 ·simp -implicitDefEqProofs (disch:=omega) only [Rx,simprocAttr,F82,GOp.pv,b0b,hk,h0]
 cases h1:(x.key==[])
 ·simp -implicitDefEqProofs (disch:=omega) only [Rx,simprocAttr,F82,GOp.pv,b0b,hk,h0,h1]
 by_cases h2:0<(x.attrs.length:Int)
 ·simp -implicitDefEqProofs (disch:=omega) only [Rx,simprocAttr,F82,GOp.pv,b0b,hk,h0,h1,h2]
 cases h3:(x.name==[])
 ·simp -implicitDefEqProofs (disch:=omega) only [Rx,simprocAttr,F82,GOp.pv,b0b,hk,h0,h1,h2,h3]
 cases h4:(x.text==[])
 ·simp -implicitDefEqProofs (disch:=omega) only [Rx,simprocAttr,F82,GOp.pv,b0b,hk,h0,h1,h2,h3,h4]
 simp -implicitDefEqProofs (disch:=omega) only [Rx,simprocAttr,F82,GOp.pv,b0b,hk,h0,h1,h2,h3,h4]
theorem g9y (x:GOp) (hk:x.kind=3) (g:List AObj) (n:Nat):b0g T (n+1) 82 [.p (.agg x.pv)] g=some (.p (.bool (g4y x)),g):=by
 rw [b0a T82,run_pure rfl rfl rfl]
 simp only [g4y,nzI,nzS,nzA]
 cases h0:(x.tag==[])
 ·simp -implicitDefEqProofs (disch:=omega) only [Rx,simprocAttr,F82,GOp.pv,b0b,hk,h0]
 cases h1:(x.key==[])
 ·simp -implicitDefEqProofs (disch:=omega) only [Rx,simprocAttr,F82,GOp.pv,b0b,hk,h0,h1]
 by_cases h2:0<(x.attrs.length:Int)
 ·simp -implicitDefEqProofs (disch:=omega) only [Rx,simprocAttr,F82,GOp.pv,b0b,hk,h0,h1,h2]
 cases h3:(x.up==0)
 ·simp -implicitDefEqProofs (disch:=omega) only [Rx,simprocAttr,F82,GOp.pv,b0b,hk,h0,h1,h2,h3]
 cases h4:(x.name==[])
 ·simp -implicitDefEqProofs (disch:=omega) only [Rx,simprocAttr,F82,GOp.pv,b0b,hk,h0,h1,h2,h3,h4]
 cases h5:(x.text==[])
 ·simp -implicitDefEqProofs (disch:=omega) only [Rx,simprocAttr,F82,GOp.pv,b0b,hk,h0,h1,h2,h3,h4,h5]
 simp -implicitDefEqProofs (disch:=omega) only [Rx,simprocAttr,F82,GOp.pv,b0b,hk,h0,h1,h2,h3,h4,h5]
end Go.TA.Tryz


end
section
/- Does an operation have a field that its kind does not use? The document's answer. -/
set_option maxRecDepth 100000
set_option maxHeartbeats 8000000
namespace Go.TA.Tryz
theorem g9x (x:GOp) (hk:x.kind=4) (g:List AObj) (n:Nat):b0g T (n+1) 82 [.p (.agg x.pv)] g=some (.p (.bool (g4x x)),g):=by
 rw [b0a T82,run_pure rfl rfl rfl]
 simp only [g4x,nzI,nzS,nzA]
 cases h0:(x.tag==[])
 ·simp -implicitDefEqProofs (disch:=omega) only [Rx,simprocAttr,F82,GOp.pv,b0b,hk,h0]
 cases h1:(x.key==[])
 ·simp -implicitDefEqProofs (disch:=omega) only [Rx,simprocAttr,F82,GOp.pv,b0b,hk,h0,h1]
 by_cases h2:0<(x.attrs.length:Int)
 ·simp -implicitDefEqProofs (disch:=omega) only [Rx,simprocAttr,F82,GOp.pv,b0b,hk,h0,h1,h2]
 cases h3:(x.up==0)
 ·simp -implicitDefEqProofs (disch:=omega) only [Rx,simprocAttr,F82,GOp.pv,b0b,hk,h0,h1,h2,h3]
 cases h4:(x.before==0)
 ·simp -implicitDefEqProofs (disch:=omega) only [Rx,simprocAttr,F82,GOp.pv,b0b,hk,h0,h1,h2,h3,h4]
 cases h5:(x.name==[])
 ·simp -implicitDefEqProofs (disch:=omega) only [Rx,simprocAttr,F82,GOp.pv,b0b,hk,h0,h1,h2,h3,h4,h5]
 cases h6:(x.text==[])
 ·simp -implicitDefEqProofs (disch:=omega) only [Rx,simprocAttr,F82,GOp.pv,b0b,hk,h0,h1,h2,h3,h4,h5,h6]
 simp -implicitDefEqProofs (disch:=omega) only [Rx,simprocAttr,F82,GOp.pv,b0b,hk,h0,h1,h2,h3,h4,h5,h6]
theorem g9w (x:GOp) (hk:x.kind=5) (g:List AObj) (n:Nat):b0g T (n+1) 82 [.p (.agg x.pv)] g=some (.p (.bool (g4w x)),g):=by
 rw [b0a T82,run_pure rfl rfl rfl]
 simp only [g4w,nzI,nzS,nzA]
 cases h0:(x.tag==[])
 ·simp -implicitDefEqProofs (disch:=omega) only [Rx,simprocAttr,F82,GOp.pv,b0b,hk,h0]
 cases h1:(x.key==[])
 ·simp -implicitDefEqProofs (disch:=omega) only [Rx,simprocAttr,F82,GOp.pv,b0b,hk,h0,h1]
 by_cases h2:0<(x.attrs.length:Int)
 ·simp -implicitDefEqProofs (disch:=omega) only [Rx,simprocAttr,F82,GOp.pv,b0b,hk,h0,h1,h2]
 cases h3:(x.up==0)
 ·simp -implicitDefEqProofs (disch:=omega) only [Rx,simprocAttr,F82,GOp.pv,b0b,hk,h0,h1,h2,h3]
 cases h4:(x.before==0)
 ·simp -implicitDefEqProofs (disch:=omega) only [Rx,simprocAttr,F82,GOp.pv,b0b,hk,h0,h1,h2,h3,h4]
 simp -implicitDefEqProofs (disch:=omega) only [Rx,simprocAttr,F82,GOp.pv,b0b,hk,h0,h1,h2,h3,h4]
end Go.TA.Tryz


end
section
/- Does an operation have a field that its kind does not use? The document's answer. -/
set_option maxRecDepth 100000
set_option maxHeartbeats 8000000
namespace Go.TA.Tryz
theorem g9v (x:GOp) (hk:x.kind=6) (g:List AObj) (n:Nat):b0g T (n+1) 82 [.p (.agg x.pv)] g=some (.p (.bool (g4v x)),g):=by
 rw [b0a T82,run_pure rfl rfl rfl]
 simp only [g4v,nzI,nzS,nzA]
 cases h0:(x.tag==[])
 ·simp -implicitDefEqProofs (disch:=omega) only [Rx,simprocAttr,F82,GOp.pv,b0b,hk,h0]
 cases h1:(x.key==[])
 ·simp -implicitDefEqProofs (disch:=omega) only [Rx,simprocAttr,F82,GOp.pv,b0b,hk,h0,h1]
 by_cases h2:0<(x.attrs.length:Int)
 ·simp -implicitDefEqProofs (disch:=omega) only [Rx,simprocAttr,F82,GOp.pv,b0b,hk,h0,h1,h2]
 cases h3:(x.up==0)
 ·simp -implicitDefEqProofs (disch:=omega) only [Rx,simprocAttr,F82,GOp.pv,b0b,hk,h0,h1,h2,h3]
 cases h4:(x.before==0)
 ·simp -implicitDefEqProofs (disch:=omega) only [Rx,simprocAttr,F82,GOp.pv,b0b,hk,h0,h1,h2,h3,h4]
 cases h5:(x.text==[])
 ·simp -implicitDefEqProofs (disch:=omega) only [Rx,simprocAttr,F82,GOp.pv,b0b,hk,h0,h1,h2,h3,h4,h5]
 simp -implicitDefEqProofs (disch:=omega) only [Rx,simprocAttr,F82,GOp.pv,b0b,hk,h0,h1,h2,h3,h4,h5]
theorem g9u (x:GOp) (hk:x.kind=7) (g:List AObj) (n:Nat):b0g T (n+1) 82 [.p (.agg x.pv)] g=some (.p (.bool (g4u x)),g):=by
 rw [b0a T82,run_pure rfl rfl rfl]
 simp only [g4u,nzI,nzS,nzA]
 cases h0:(x.tag==[])
 ·simp -implicitDefEqProofs (disch:=omega) only [Rx,simprocAttr,F82,GOp.pv,b0b,hk,h0]
 cases h1:(x.key==[])
 ·simp -implicitDefEqProofs (disch:=omega) only [Rx,simprocAttr,F82,GOp.pv,b0b,hk,h0,h1]
 by_cases h2:0<(x.attrs.length:Int)
 ·simp -implicitDefEqProofs (disch:=omega) only [Rx,simprocAttr,F82,GOp.pv,b0b,hk,h0,h1,h2]
 cases h3:(x.up==0)
 ·simp -implicitDefEqProofs (disch:=omega) only [Rx,simprocAttr,F82,GOp.pv,b0b,hk,h0,h1,h2,h3]
 cases h4:(x.before==0)
 ·simp -implicitDefEqProofs (disch:=omega) only [Rx,simprocAttr,F82,GOp.pv,b0b,hk,h0,h1,h2,h3,h4]
 cases h5:(x.name==[])
 ·simp -implicitDefEqProofs (disch:=omega) only [Rx,simprocAttr,F82,GOp.pv,b0b,hk,h0,h1,h2,h3,h4,h5]
 simp -implicitDefEqProofs (disch:=omega) only [Rx,simprocAttr,F82,GOp.pv,b0b,hk,h0,h1,h2,h3,h4,h5]
end Go.TA.Tryz


end
section
/- Does an operation have a field that its kind does not use? The document's answer. -/
set_option maxRecDepth 100000
set_option maxHeartbeats 8000000
namespace Go.TA.Tryz
theorem h4z (x:GOp) (h1:1≤x.kind) (h7:x.kind≤7) (g:List AObj) (n:Nat):b0g T (n+1) 82 [.p (.agg x.pv)] g=some (.p (.bool (b5l x)),g):=by
 by_cases k1:x.kind=1
 ·rw [h0b x k1];simp [b5l,k1]
 by_cases k2:x.kind=2
 ·rw [g9z x k2];simp [b5l,k2]
 by_cases k3:x.kind=3
 ·rw [g9y x k3];simp [b5l,k3]
 by_cases k4:x.kind=4
 ·rw [g9x x k4];simp [b5l,k4]
 by_cases k5:x.kind=5
 ·rw [g9w x k5];simp [b5l,k5]
 by_cases k6:x.kind=6
 ·rw [g9v x k6];simp [b5l,k6]
 by_cases k7:x.kind=7
 ·rw [g9u x k7];simp [b5l,k7]
 omega
end Go.TA.Tryz


end
section
/- Whether an operation is what its kind uses of it: by texts, as the program does it. -/
set_option maxRecDepth 100000
set_option maxHeartbeats 8000000
namespace Go.TA.Tryz
def d7j (b:Bool):Ex × St:=if b=true then (.exit 0,⟨[],[],[]⟩) else (.ret,⟨[(4,.p (.bool false))],[],[]⟩)
theorem g3f (b:Bool):(d7j b).1 ≠ .normal:=by cases b <;> simp [d7j]
theorem d5k (a b : List Attr) (g : List AObj) {n m : Nat} (ha : a.length < n) (hn : n ≤ 1048577) (hm : n ≤ m) :
    b0g T (m+1) 101 [.p (b0b a),.p (b0b b)] g=some (.p (.bool (decide (a=b))),g):=by
  rw [b0a T101,run_pure rfl rfl rfl]
  by_cases hlen:a.length=b.length
  · have hloop:b0s (b0g T m) m (.loop d8u) ⟨[(0,.p (.list (a.map Attr.pv))),(1,.p (.list (b.map Attr.pv))),(12,.p (.int .i64 a.length)),(13,.p (.int .i64 0))],[],[]⟩=some (d7j (decide (a.drop 0=b.drop 0))):=by
      refine b1q (σ := Nat) (S:=fun i=>⟨[(0,.p (.list (a.map Attr.pv))),(1,.p (.list (b.map Attr.pv))),(12,.p (.int .i64 a.length)),(13,.p (.int .i64 i))],[],[]⟩) (I:=fun i=>i≤a.length) (μ := fun i=>a.length - i) (Φ := fun i=>d7j (decide (a.drop i=b.drop i))) ?_ 0 (by omega) (by omega)
      intro i hi
      by_cases h:i<a.length
      · obtain ⟨x,hx⟩:=b0p h
        obtain ⟨y,hy⟩:=b0p (l:=b) (i:=i) (by omega)
        have hgx:=b0u (f:=Attr.pv) hx
        have hgy:=b0u (f:=Attr.pv) hy
        have hdx:a.drop i=x::a.drop (i+1):=by rw [List.drop_eq_getElem?_toList_append,hx];rfl
        have hdy:b.drop i=y::b.drop (i+1):=by rw [List.drop_eq_getElem?_toList_append,hy];rfl
        by_cases hxy:x=y
        · subst hxy
          refine .inl ⟨i+1, ?_,by omega,by omega,by rw [hdx,hdy];simp⟩
          simp -implicitDefEqProofs (disch:=omega) only [Rx,simprocAttr,d8u,hgx,hgy,Attr.pv]
        · refine .inr ⟨?_,g3f _⟩
          have e:decide (a.drop i=b.drop i)=false:=by rw [hdx,hdy];simp [hxy]
          have e2:(x.name==y.name && x.value==y.value)=false:=by
            rw [← Bool.not_eq_true,Bool.and_eq_true,beq_iff_eq,beq_iff_eq]
            rintro ⟨h1,h2⟩
            apply hxy
            cases x;cases y;simp only at h1 h2;subst h1 h2;rfl
          rw [e]
          simp -implicitDefEqProofs (disch:=omega) only [Rx,simprocAttr,d8u,hgx,hgy,Attr.pv,e2,d7j]
      · have e:decide (a.drop i=b.drop i)=true:=by rw [List.drop_eq_nil_of_le (by omega),List.drop_eq_nil_of_le (by omega)];simp
        refine .inr ⟨?_,g3f _⟩
        rw [e]
        simp -implicitDefEqProofs (disch:=omega) only [Rx,simprocAttr,d8u,d7j]
    rw [List.drop_zero,List.drop_zero] at hloop
    have hl2:((a.length:Int)==(b.length:Int))=true:=by simp [hlen]
    cases hd:decide (a=b) with
    | false =>
      rw [hd] at hloop
      simp only [d7j,Bool.false_eq_true,if_false] at hloop
      simp -implicitDefEqProofs (disch:=omega) only [Rx,simprocAttr,F101,b0b,hl2,hloop]
    | true =>
      rw [hd] at hloop
      simp only [d7j,if_true] at hloop
      simp -implicitDefEqProofs (disch:=omega) only [Rx,simprocAttr,F101,b0b,hl2,hloop]
  · have hl2:((a.length:Int)==(b.length:Int))=false:=by rw [beq_eq_false_iff_ne];omega
    have hd:decide (a=b)=false:=by rw [decide_eq_false_iff_not];intro hh;exact hlen (by rw [hh])
    rw [hd]
    simp -implicitDefEqProofs (disch:=omega) only [Rx,simprocAttr,F101,b0b,hl2]
def hOk (n:Int):Bool:=decide (0≤n) && decide (n≤4294967295)
theorem g5j (k:Int) (g:List AObj) (n:Nat):b0g T (n+1) 65 [.p (.int .i64 k)] g=some (.p (.bool (hOk k)),g):=by
 rw [b0a T65,run_pure rfl rfl rfl]
 by_cases h1:0≤k
 ·by_cases h2:k≤4294967295
  ·simp -implicitDefEqProofs (disch:=omega) only [Rx,simprocAttr,F65,hOk,h1,h2]
  ·simp -implicitDefEqProofs (disch:=omega) only [Rx,simprocAttr,F65,hOk,h1,h2]
 ·simp -implicitDefEqProofs (disch:=omega) only [Rx,simprocAttr,F65,hOk,h1]
theorem h4w (k:Int) (g:List AObj) (n:Nat):b0g T (n+1) 81 [.p (.int .i64 k)] g=some (.p (.bool (!hOk k)),g):=by
 rw [b0a T81,run_pure rfl rfl rfl]
 by_cases h1:k<0
 ·have h1':¬ 0≤k:=by omega
  simp -implicitDefEqProofs (disch:=omega) only [Rx,simprocAttr,F81,hOk,h1,h1']
 ·have h1':0≤k:=by omega
  by_cases h2:4294967295<k
  ·have h2':¬ k≤4294967295:=by omega
   simp -implicitDefEqProofs (disch:=omega) only [Rx,simprocAttr,F81,hOk,h1,h1',h2,h2']
  ·have h2':k≤4294967295:=by omega
   simp -implicitDefEqProofs (disch:=omega) only [Rx,simprocAttr,F81,hOk,h1,h1',h2,h2']
theorem c7g (k:Int) (h1 : -9223372036854775808≤k) (h2:k≤9223372036854775807) (g:List AObj) (n:Nat):b0g T (n+1) 103 [.p (.int .i64 k)] g=some (.p (.str (Lib.itoa k)),g):=by
 rw [b5j T103]
 simp [g4q,h1,h2]
theorem g1a:∀ (u:Nat),1≤u→Lib.decDigits u≠[48]:=by
 intro u hu h
 by_cases h10:u<10
 ·rw [Lib.decDigits_one h10] at h
  injection h with h _
  have:(UInt8.ofNat (48+u)).toNat=48:=by rw [h];rfl
  rw [UInt8.toNat_ofNat'] at this
  omega
 ·have hl:=Lib.decDigits_length u
  rw [h] at hl
  rw [Lib.nDigits,dif_neg h10] at hl
  have:1≤Lib.nDigits (u / 10):=by
   rw [Lib.nDigits]
   split <;> omega
  simp at hl
  omega
theorem c9a {k:Int} (h:0≤k):(Lib.itoa k==Lib.itoa 0)=(k==0):=by
 have e0:Lib.itoa 0=[48]:=by
  have:Lib.itoa 0=Lib.decDigits 0:=by simp [Lib.itoa]
  rw [this,Lib.decDigits_one (by omega)]
  rfl
 rw [e0]
 by_cases hk:k=0
 ·subst hk;rw [e0];rfl
 ·have hne:Lib.itoa k≠[48]:=by
   have:Lib.itoa k=Lib.decDigits k.toNat:=by unfold Lib.itoa;rw [if_neg (by omega)]
   rw [this]
   exact g1a _ (by omega)
  rw [Bool.eq_iff_iff,beq_iff_eq,beq_iff_eq]
  exact ⟨fun h=>absurd h hne,fun h=>absurd h hk⟩
def d5j (k:Int):Prop:=0≤k∧k≤4294967295
structure c9z (x:GOp):Prop where
 kind:d5j x.kind
 node:d5j x.node
 up:d5j x.up
 before:d5j x.before
theorem g9o (x:GOp) (hx:c9z x) (g:List AObj) (n:Nat):b0g T (n+2) 102 [.p (.agg x.pv)] g=some (.p (.agg [.str (Lib.itoa x.kind),.str (Lib.itoa x.node),.str (Lib.itoa x.up),.str (Lib.itoa x.before),.str x.tag,.str x.key,.str x.name,.str x.text,.str []]),g):=by
 rw [b0a T102,run_pure rfl rfl rfl]
 have h1:=fun g=>c7g x.kind (by have:=hx.kind.1;omega) (by have:=hx.kind.2;omega) g n
 have h2:=fun g=>c7g x.node (by have:=hx.node.1;omega) (by have:=hx.node.2;omega) g n
 have h3:=fun g=>c7g x.up (by have:=hx.up.1;omega) (by have:=hx.up.2;omega) g n
 have h4:=fun g=>c7g x.before (by have:=hx.before.1;omega) (by have:=hx.before.2;omega) g n
 simp -implicitDefEqProofs (disch:=omega) only [Rx,simprocAttr,F102,GOp.pv,b0b,h1,h2,h3,h4]
def c7y (x y:GOp):Bool:=decide (x.attrs=y.attrs) && ((Lib.itoa x.kind==Lib.itoa y.kind) && ((Lib.itoa x.node==Lib.itoa y.node) && ((Lib.itoa x.up==Lib.itoa y.up) && ((Lib.itoa x.before==Lib.itoa y.before) && ((x.tag==y.tag) && ((x.key==y.key) && ((x.name==y.name) && (x.text==y.text))))))))
theorem g4s (x y:GOp) (hx:c9z x) (hy:c9z y) (g:List AObj) {n:Nat} (hl:x.attrs.length<n+1) (hb:x.attrs.length≤1048576):b0g T (n+3) 66 [.p (.agg x.pv),.p (.agg y.pv)] g=some (.p (.bool (c7y x y)),g):=by
 rw [b0a T66,run_pure rfl rfl rfl]
 have he:=fun g=>d5k x.attrs y.attrs g (n:=x.attrs.length+1) (m:=n+1) (by omega) (by omega) (by omega)
 have o1:=fun g=>g9o x hx g n
 have o2:=fun g=>g9o y hy g n
 simp only [GOp.pv,b0b] at he o1 o2
 by_cases ha:x.attrs=y.attrs
 ·have ha':decide (x.attrs=y.attrs)=true:=by simpa using ha
  rw [ha'] at he
  simp only [c7y,ha']
  simp -implicitDefEqProofs (disch:=omega) only [Rx,simprocAttr,F66,GOp.pv,b0b,he,o1,o2,b8z,Nat.zero_add]
 ·have ha':decide (x.attrs=y.attrs)=false:=by simpa using ha
  rw [ha'] at he
  simp only [c7y,ha']
  simp -implicitDefEqProofs (disch:=omega) only [Rx,simprocAttr,F66,GOp.pv,b0b,he]
end Go.TA.Tryz


end
section
/- What is wrong with an operation: the document's answer. -/
set_option maxRecDepth 100000
set_option maxHeartbeats 8000000
namespace Go.TA.Tryz
def b1z (x:GOp):Bool:=(x.kind==1) && !b2g false x.tag
def b1g (x:GOp):Bool:=((x.kind==5) || (x.kind==6)) && !b2g true x.name
def b0r (x:GOp):Int:=if x.kind<1 then 6 else if 7<x.kind then 6 else if hOk x.node=false then 5 else if hOk x.up=false then 5 else if hOk x.before=false then 5 else if b5l x=true then 2 else if b1z x=true then 7 else if b1g x=true then 8 else if 65536<(x.key.length:Int) then 3 else if 65536<(x.text.length:Int) then 3 else b2m x.attrs
theorem d6a (x:GOp) (hs:b1t x.attrs) (g:List AObj) {n:Nat} (hl:x.attrs.length<n) (hn:1048576<n):b0g T (n+37) 51 [.p (.agg x.pv)] g=some (.p (.int .i64 (b0r x)),g):=by
 rw [b0a T51,run_pure rfl rfl rfl]
 have ov:=fun (k:Int) g=>h4w k g (n+35)
 have nt:=fun s g=>b2k s false g (n+1)
 have nn:=fun s g=>b2k s true g (n+1)
 have at_:=fun g=>g1k x.attrs hs g (n:=n) (by omega) hn
 by_cases k1:x.kind<1
 ·have e:b0r x=6:=by simp [b0r,b1z,b1g,k1]
  rw [e]
  simp -implicitDefEqProofs (disch:=omega) only [Rx,simprocAttr,F51,GOp.pv,b0b,k1]
 by_cases k7:7<x.kind
 ·have e:b0r x=6:=by simp [b0r,b1z,b1g,k1,k7]
  rw [e]
  simp -implicitDefEqProofs (disch:=omega) only [Rx,simprocAttr,F51,GOp.pv,b0b,k1,k7]
 cases hnode:hOk x.node
 ·have e:b0r x=5:=by simp [b0r,b1z,b1g,k1,k7,hnode]
  rw [e]
  simp -implicitDefEqProofs (disch:=omega) only [Rx,simprocAttr,F51,GOp.pv,b0b,ov,k1,k7,hnode]
 cases hup:hOk x.up
 ·have e:b0r x=5:=by simp [b0r,b1z,b1g,k1,k7,hnode,hup]
  rw [e]
  simp -implicitDefEqProofs (disch:=omega) only [Rx,simprocAttr,F51,GOp.pv,b0b,ov,k1,k7,hnode,hup]
 cases hbefore:hOk x.before
 ·have e:b0r x=5:=by simp [b0r,b1z,b1g,k1,k7,hnode,hup,hbefore]
  rw [e]
  simp -implicitDefEqProofs (disch:=omega) only [Rx,simprocAttr,F51,GOp.pv,b0b,ov,k1,k7,hnode,hup,hbefore]
 have no:=fun g=>h4z x (by omega) (by omega) g (n+35)
 simp only [GOp.pv,b0b] at no
 cases hn:b5l x
 rotate_left
 ·have e:b0r x=2:=by simp [b0r,b1z,b1g,k1,k7,hnode,hup,hbefore,hn]
  rw [e]
  simp -implicitDefEqProofs (disch:=omega) only [Rx,simprocAttr,F51,GOp.pv,b0b,ov,no,k1,k7,hnode,hup,hbefore,hn]
 cases e1:(x.kind==1)
 rotate_left
 ·have e1':x.kind=1:=by simpa using e1
  have e5:(x.kind==5)=false:=by rw [e1'];rfl
  have e6:(x.kind==6)=false:=by rw [e1'];rfl
  cases t1:b2g false x.tag
  ·have e:b0r x=7:=by simp [b0r,b1z,b1g,k1,k7,hnode,hup,hbefore,hn,e1,e5,e6,t1]
   rw [e]
   simp -implicitDefEqProofs (disch:=omega) only [Rx,simprocAttr,F51,GOp.pv,b0b,ov,no,nt,k1,k7,hnode,hup,hbefore,hn,e1,t1]
  by_cases l1:65536<(x.key.length:Int)
  ·have e:b0r x=3:=by simp [b0r,b1z,b1g,k1,k7,hnode,hup,hbefore,hn,e1,e5,e6,t1,l1]
   rw [e]
   simp -implicitDefEqProofs (disch:=omega) only [Rx,simprocAttr,F51,GOp.pv,b0b,ov,no,nt,k1,k7,hnode,hup,hbefore,hn,e1,e5,e6,t1,l1]
  by_cases l2:65536<(x.text.length:Int)
  ·have e:b0r x=3:=by simp [b0r,b1z,b1g,k1,k7,hnode,hup,hbefore,hn,e1,e5,e6,t1,l1,l2]
   rw [e]
   simp -implicitDefEqProofs (disch:=omega) only [Rx,simprocAttr,F51,GOp.pv,b0b,ov,no,nt,k1,k7,hnode,hup,hbefore,hn,e1,e5,e6,t1,l1,l2]
  have e:b0r x=b2m x.attrs:=by simp [b0r,b1z,b1g,k1,k7,hnode,hup,hbefore,hn,e1,e5,e6,t1,l1,l2]
  rw [e]
  simp -implicitDefEqProofs (disch:=omega) only [Rx,simprocAttr,F51,GOp.pv,b0b,ov,no,nt,at_,k1,k7,hnode,hup,hbefore,hn,e1,e5,e6,t1,l1,l2]
 cases e5:(x.kind==5)
 rotate_left
 ·cases t2:b2g true x.name
  ·have e:b0r x=8:=by simp [b0r,b1z,b1g,k1,k7,hnode,hup,hbefore,hn,e1,e5,t2]
   rw [e]
   simp -implicitDefEqProofs (disch:=omega) only [Rx,simprocAttr,F51,GOp.pv,b0b,ov,no,nn,k1,k7,hnode,hup,hbefore,hn,e1,e5,t2]
  by_cases l1:65536<(x.key.length:Int)
  ·have e:b0r x=3:=by simp [b0r,b1z,b1g,k1,k7,hnode,hup,hbefore,hn,e1,e5,t2,l1]
   rw [e]
   simp -implicitDefEqProofs (disch:=omega) only [Rx,simprocAttr,F51,GOp.pv,b0b,ov,no,nn,k1,k7,hnode,hup,hbefore,hn,e1,e5,t2,l1]
  by_cases l2:65536<(x.text.length:Int)
  ·have e:b0r x=3:=by simp [b0r,b1z,b1g,k1,k7,hnode,hup,hbefore,hn,e1,e5,t2,l1,l2]
   rw [e]
   simp -implicitDefEqProofs (disch:=omega) only [Rx,simprocAttr,F51,GOp.pv,b0b,ov,no,nn,k1,k7,hnode,hup,hbefore,hn,e1,e5,t2,l1,l2]
  have e:b0r x=b2m x.attrs:=by simp [b0r,b1z,b1g,k1,k7,hnode,hup,hbefore,hn,e1,e5,t2,l1,l2]
  rw [e]
  simp -implicitDefEqProofs (disch:=omega) only [Rx,simprocAttr,F51,GOp.pv,b0b,ov,no,nn,at_,k1,k7,hnode,hup,hbefore,hn,e1,e5,t2,l1,l2]
 cases e6:(x.kind==6)
 rotate_left
 ·cases t2:b2g true x.name
  ·have e:b0r x=8:=by simp [b0r,b1z,b1g,k1,k7,hnode,hup,hbefore,hn,e1,e5,e6,t2]
   rw [e]
   simp -implicitDefEqProofs (disch:=omega) only [Rx,simprocAttr,F51,GOp.pv,b0b,ov,no,nn,k1,k7,hnode,hup,hbefore,hn,e1,e5,e6,t2]
  by_cases l1:65536<(x.key.length:Int)
  ·have e:b0r x=3:=by simp [b0r,b1z,b1g,k1,k7,hnode,hup,hbefore,hn,e1,e5,e6,t2,l1]
   rw [e]
   simp -implicitDefEqProofs (disch:=omega) only [Rx,simprocAttr,F51,GOp.pv,b0b,ov,no,nn,k1,k7,hnode,hup,hbefore,hn,e1,e5,e6,t2,l1]
  by_cases l2:65536<(x.text.length:Int)
  ·have e:b0r x=3:=by simp [b0r,b1z,b1g,k1,k7,hnode,hup,hbefore,hn,e1,e5,e6,t2,l1,l2]
   rw [e]
   simp -implicitDefEqProofs (disch:=omega) only [Rx,simprocAttr,F51,GOp.pv,b0b,ov,no,nn,k1,k7,hnode,hup,hbefore,hn,e1,e5,e6,t2,l1,l2]
  have e:b0r x=b2m x.attrs:=by simp [b0r,b1z,b1g,k1,k7,hnode,hup,hbefore,hn,e1,e5,e6,t2,l1,l2]
  rw [e]
  simp -implicitDefEqProofs (disch:=omega) only [Rx,simprocAttr,F51,GOp.pv,b0b,ov,no,nn,at_,k1,k7,hnode,hup,hbefore,hn,e1,e5,e6,t2,l1,l2]
 by_cases l1:65536<(x.key.length:Int)
 ·have e:b0r x=3:=by simp [b0r,b1z,b1g,k1,k7,hnode,hup,hbefore,hn,e1,e5,e6,l1]
  rw [e]
  simp -implicitDefEqProofs (disch:=omega) only [Rx,simprocAttr,F51,GOp.pv,b0b,ov,no,k1,k7,hnode,hup,hbefore,hn,e1,e5,e6,l1]
 by_cases l2:65536<(x.text.length:Int)
 ·have e:b0r x=3:=by simp [b0r,b1z,b1g,k1,k7,hnode,hup,hbefore,hn,e1,e5,e6,l1,l2]
  rw [e]
  simp -implicitDefEqProofs (disch:=omega) only [Rx,simprocAttr,F51,GOp.pv,b0b,ov,no,k1,k7,hnode,hup,hbefore,hn,e1,e5,e6,l1,l2]
 have e:b0r x=b2m x.attrs:=by simp [b0r,b1z,b1g,k1,k7,hnode,hup,hbefore,hn,e1,e5,e6,l1,l2]
 rw [e]
 simp -implicitDefEqProofs (disch:=omega) only [Rx,simprocAttr,F51,GOp.pv,b0b,ov,no,at_,k1,k7,hnode,hup,hbefore,hn,e1,e5,e6,l1,l2]
end Go.TA.Tryz


end
section
/- What an operation does, if it may be. -/
namespace Go.TA.Tryz
noncomputable def doE (S:MS) (x:GOp):Int × MS:=if b0r x=0 then doM S x else (b0r x,S)
section
variable {R:Nat} {S:MS}
theorem h2a (hS:S.Ok R) (x:GOp) (hx:x.attrs.length≤1048577):(doE S x).2.Ok (R+R+1)∧S.N≤(doE S x).2.N∧(doE S x).2.N≤S.N+1:=by
 unfold doE
 split
 ·exact h1y hS x hx
 ·exact ⟨hS.more (by omega),by simp,by simp⟩
end
noncomputable def runM:MS→List GOp→Nat→Nat × Int × MS
 | S,[],i=>(i,0,S)
 | S,x::l,i=>if (doE S x).1=0 then runM (doE S x).2 l (i+1) else (i,(doE S x).1,(doE S x).2)
def bnd (R:Nat):Nat→Nat
 | 0=>R
 | k+1=>bnd R k+bnd R k+1
theorem c1o (R:Nat):∀ {i j:Nat},i≤j→bnd R i≤bnd R j:=by
  intro i j h
  induction j with
  | zero => have : i = 0 := by omega
            subst this;exact Nat.le_refl _
  | succ j ih =>
    by_cases e:i=j+1
    · subst e;exact Nat.le_refl _
    · have:=ih (by omega)
      simp only [bnd];omega
theorem d5s {L:List GOp} {i:Nat} {x:GOp} (hx:L[i]? = some x) (S:MS):runM S (L.drop i) i=if (doE S x).1=0 then runM (doE S x).2 (L.drop (i+1)) (i+1) else (i,(doE S x).1,(doE S x).2):=by
 have:L.drop i=x::L.drop (i+1):=by rw [List.drop_eq_getElem?_toList_append,hx];rfl
 rw [this,runM]
end Go.TA.Tryz


end
section
/- The rows of all below a node. Plain. -/
namespace Go.TA
def rowM (S:MS) (k up:Int):GRow:=⟨k,up,(S.st k.toNat).tag,(S.st k.toNat).key,(S.st k.toNat).text,(S.st k.toNat).attrs⟩
def b1s (S:MS):Nat→List GRow→Int→Int→List GRow
 | 0,out,_,_=>out
 | d+1,out,h,up=>(S.kd h.toNat).foldl (fun out k=>b1s S d (out++[rowM S k up]) k ((out.length:Int)+1)) out
def j2s (S:MS) (d:Nat) (up:Int) (out:List GRow) (k:Int):List GRow:=b1s S d (out++[rowM S k up]) k ((out.length:Int)+1)
def outI (S:MS) (d:Nat) (out:List GRow) (h:Nat) (up:Int) (i:Nat):List GRow:=((S.kd h).take i).foldl (j2s S d up) out
theorem b8q (S:MS) (d:Nat) (out:List GRow) (h:Nat) (up:Int):outI S d out h up 0=out:=rfl
theorem b5p {S:MS} {d:Nat} {out:List GRow} {h:Nat} {up:Int} {i:Nat} {k:Int} (hk:(S.kd h)[i]? = some k):outI S d out h up (i+1)=b1s S d (outI S d out h up i++[rowM S k up]) k (((outI S d out h up i).length:Int)+1):=by
 unfold outI
 rw [List.take_add_one,hk,List.foldl_append]
 rfl
theorem b7h (S:MS) (d:Nat) (out:List GRow) (h:Nat) (up:Int):outI S d out h up (S.kd h).length=b1s S (d+1) out (h:Int) up:=by
 unfold outI
 rw [List.take_length,b1s,Int.toNat_natCast]
 rfl
structure PreO (S:MS) (out:List GRow) (h:Nat):Prop where
 nodup:(out.map GRow.id).Nodup
 rng:∀ x ∈ out,∃ c:Nat,x.id=(c:Int)∧c<S.N
 away:∀ x ∈ out,∀ c:Nat,x.id=(c:Int)→c≠h→¬ Below S (h:Int) (c:Int)
structure d0p (S:MS) (out:List GRow) (h:Nat) (out':List GRow):Prop where
 nodup:(out'.map GRow.id).Nodup
 rng:∀ x ∈ out',∃ c:Nat,x.id=(c:Int)∧c<S.N
 more:∃ more,out'=out++more∧∀ x ∈ more,∃ c:Nat,x.id=(c:Int)∧c<S.N∧c≠h∧Below S (h:Int) (c:Int)
theorem d0p.len {S:MS} {out out':List GRow} {h:Nat} (p:d0p S out h out'):out'.length≤S.N:=by
 have:=c0n S.N (out'.map GRow.id) p.nodup (fun k hk=>by
  obtain ⟨x,hx,rfl⟩:=List.mem_map.1 hk
  exact p.rng x hx)
 rwa [List.length_map] at this
section
variable {R:Nat} {S:MS} (hS:S.Ok R)
include hS
theorem d1w {h c:Nat} (hc:c<S.N) (hu:(S.st c).up=(h:Int)):c≠h:=by
 obtain ⟨r,_,hr⟩:=hS.rank
 have:=hr c h hc hu
 intro e;subst e;omega
theorem g0j {out : List GRow} {h i : Nat} {out1 : List GRow} {c : Nat} (up : Int) (hh : h < S.N) (hp : PreO S out h) (h1 : d0p S out h out1) (hm : ∀ more, out1 = out ++ more → ∀ x ∈ more, ∃ j, j < i ∧ ∃ k, (S.kd h)[j]? = some k ∧ Below S k x.id) (hk : (S.kd h)[i]? = some (c : Int)) (hc : c < S.N) (hu : (S.st c).up = (h : Int)) : PreO S (out1 ++ [rowM S (c : Int) up]) c := by
  have hkm:=List.mem_of_getElem? hk
  obtain ⟨more,hmore,hmo⟩:=h1.more
  have hst:=d1w hS hc hu
  have hmm:=hm more hmore
  have hkb:∀ y:Int,Below S (c:Int) y→Below S (h:Int) y:=fun y hb=>c0p hS hh hkm hb
  have hap:∀ x ∈ more,¬ Below S (c:Int) x.id:=fun x hx hb=>by
    obtain ⟨j,hj,k,hk',hb'⟩:=hmm x hx
    have:=d1v hS hh hkm (List.mem_of_getElem? hk') hb hb'
    subst this
    have hjl:=(List.getElem?_eq_some_iff.1 hk').1
    have:=(List.getElem?_inj hjl (hS.nodup h hh)).1 (hk'.trans hk.symm)
    omega
  refine ⟨?_, ?_, ?_⟩
  · rw [List.map_append,List.nodup_append]
    refine ⟨h1.nodup,by simp,fun a ha b hb => ?_⟩
    simp only [List.map_cons,List.map_nil,List.mem_singleton,rowM] at hb
    subst hb
    obtain ⟨x,hx,rfl⟩:=List.mem_map.1 ha
    intro e
    rw [hmore] at hx
    rcases List.mem_append.1 hx with hx | hx
    · exact hp.away x hx c e hst (hkb _ .here)
    · exact hap x hx (by rw [e];exact .here)
  · intro x hx
    rcases List.mem_append.1 hx with hx | hx
    · exact h1.rng x hx
    · simp at hx;subst hx;exact ⟨c,rfl,hc⟩
  · intro x hx y hy hne hb
    rcases List.mem_append.1 hx with hx | hx
    · rw [hmore] at hx
      rcases List.mem_append.1 hx with hx | hx
      · refine hp.away x hx y hy (fun e => ?_) (hkb _ hb)
        subst e
        obtain ⟨r,_,hr⟩:=hS.rank
        have:=c1p hS hr hb y rfl hh
        have:=hr c y hc hu
        omega
      · exact hap x hx (by rw [hy];exact hb)
    · simp at hx
      subst hx
      simp only [rowM] at hy
      omega
theorem g9k {out : List GRow} {d h i : Nat} {up : Int} (hh : h < S.N) (hp : PreO S out h) (hi : i < (S.kd h).length)
    (ih:d0p S out h (outI S d out h up i)∧∀ more,outI S d out h up i=out++more→∀ x ∈ more,∃ j,j<i∧∃ k,(S.kd h)[j]? = some k∧Below S k x.id)
    (hb:∀ (out:List GRow) (c:Nat) (up:Int),c<S.N→PreO S out c→d0p S out c (b1s S d out (c:Int) up)) :
    d0p S out h (outI S d out h up (i+1))∧∀ more,outI S d out h up (i+1)=out++more→∀ x ∈ more,∃ j,j<i+1∧∃ k,(S.kd h)[j]? = some k∧Below S k x.id:=by
  obtain ⟨h1,h2⟩:=ih
  obtain ⟨k,hk⟩:∃ k,(S.kd h)[i]? = some k:=⟨_,List.getElem?_eq_getElem (by omega)⟩
  have hkm:=List.mem_of_getElem? hk
  obtain ⟨c,rfl,hc,_,hu⟩:=hS.kids h hh k hkm
  have hpre:=g0j hS up hh hp h1 h2 hk hc hu
  have hpost:=hb _ c (((outI S d out h up i).length:Int)+1) hc hpre
  rw [← b5p hk] at hpost
  obtain ⟨more1,e1,m1⟩:=h1.more
  obtain ⟨more2,e2,m2⟩:=hpost.more
  have e3:outI S d out h up (i+1)=out++(more1++[rowM S (c:Int) up]++more2):=by rw [e2,e1];simp
  have hstr:=d1w hS hc hu
  refine ⟨⟨hpost.nodup,hpost.rng,_,e3,fun x hx => ?_⟩,fun more hm x hx => ?_⟩
  · rcases List.mem_append.1 hx with hx | hx
    · rcases List.mem_append.1 hx with hx | hx
      · exact m1 x hx
      · simp at hx;subst hx
        exact ⟨c,rfl,hc,hstr,c0p hS hh hkm .here⟩
    · obtain ⟨y,hy,hyN,_,hyb⟩:=m2 x hx
      refine ⟨y,hy,hyN,fun e => ?_,c0p hS hh hkm hyb⟩
      subst e
      obtain ⟨r,_,hr⟩:=hS.rank
      have:=c1p hS hr hyb y rfl hh
      have:=hr c y hc hu
      omega
  · have:more=more1++[rowM S (c:Int) up]++more2:=by
      rw [e3] at hm
      exact (List.append_cancel_left hm).symm
    subst this
    rcases List.mem_append.1 hx with hx | hx
    · rcases List.mem_append.1 hx with hx | hx
      · obtain ⟨j,hj,r⟩:=h2 more1 e1 x hx
        exact ⟨j,by omega,r⟩
      · simp at hx;subst hx
        exact ⟨i,by omega,_,hk,.here⟩
    · obtain ⟨y,hy,_,_,hyb⟩:=m2 x hx
      exact ⟨i,by omega,_,hk,by rw [hy];exact hyb⟩
theorem d6d {out:List GRow} {d h:Nat} {up:Int} (hp:PreO S out h):d0p S out h (outI S d out h up 0)∧∀ more,outI S d out h up 0=out++more→∀ x ∈ more,∃ j,j<0∧∃ k,(S.kd h)[j]? = some k∧Below S k x.id:=by
 have _:=hS
 refine ⟨⟨hp.nodup,hp.rng,[],by simp [b8q],by simp⟩,fun more hm x hx => ?_⟩
 rw [b8q] at hm
 have:more=[]:=by simpa using hm
 subst this;simp at hx
theorem c1q:∀ (d:Nat) (out:List GRow) (h:Nat) (up:Int),h<S.N→PreO S out h→d0p S out h (b1s S d out (h:Int) up)
  | 0,out,h,up,hh,hp=>⟨hp.nodup,hp.rng,[],by simp [b1s],by simp⟩
  | d + 1, out, h, up, hh, hp => by
    rw [← b7h]
    have key:∀ i,i≤(S.kd h).length→d0p S out h (outI S d out h up i)∧∀ more,outI S d out h up i=out++more→∀ x ∈ more,∃ j,j<i∧∃ k,(S.kd h)[j]? = some k∧Below S k x.id:=by
      intro i
      induction i with
      | zero=>exact fun _=>d6d hS hp
      | succ i ih=>exact fun hi=>g9k hS hh hp (by omega) (ih (by omega)) (fun out c up hc hp=>c1q d out c up hc hp)
    exact (key _ (Nat.le_refl _)).1
theorem g2k {out:List GRow} {d h:Nat} {up:Int} (hh:h<S.N) (hp:PreO S out h):∀ i,i≤(S.kd h).length→d0p S out h (outI S d out h up i)∧∀ more,outI S d out h up i=out++more→∀ x ∈ more,∃ j,j<i∧∃ k,(S.kd h)[j]? = some k∧Below S k x.id:=by
 intro i
 induction i with
 | zero=>exact fun _=>d6d hS hp
 | succ i ih=>exact fun hi=>g9k hS hh hp (by omega) (ih (by omega)) (fun out c up hc hp=>c1q hS d out c up hc hp)
end
end Go.TA


end
section
/- The document's answer in memory: its living nodes in a row. Plain. -/
namespace Go.TA
def b3t (sz:Nat) (xs:List (List AV)) (o:AObj):Prop:=o = .cells sz xs∨∃ ps:List (List PV),o = .pcells sz ps∧xs=ps.map (fun c=>c.map AV.p)
theorem d9t (c:List PV):b4u (c.map AV.p)=some c:=by
 induction c with
 | nil=>rfl
 | cons a c ih=>simp [b4u,ih]
theorem c5k {c:List AV} {ps:List PV} (h:b4u c=some ps):c=ps.map AV.p:=by
  induction c generalizing ps with
  | nil=>simp [b4u] at h;subst h;rfl
  | cons a c ih =>
    cases a <;> simp [b4u] at h
    obtain ⟨qs,h1,rfl⟩:=h
    rw [ih h1];rfl
theorem g0b (c:List PV):b4i (c.map AV.p) = .p (.agg c):=by simp [b4i,d9t]
theorem d3w (ps:List (List PV)) (i:Nat):(ps.map (fun c=>c.map AV.p)).getD i []=(ps.getD i []).map AV.p:=by
 simp only [List.getD_eq_getElem?_getD,List.getElem?_map]
 cases ps[i]? <;> rfl
theorem h0l {c:List PV} {j:Nat} (hj:j<c.length):(c.map AV.p).getD j .bot = .p (c.getD j .nilp):=by
 simp only [List.getD_eq_getElem?_getD,List.getElem?_map,List.getElem?_eq_getElem hj];rfl
theorem d3h {α : Type} (v : α) (l:List α) {j:Nat} (hj:j<l.length):over j [v] l=l.set j v:=by
 unfold over
 split
 ·rename_i h
  obtain ⟨rfl,h2⟩:=h
  match l,h2 with
  | [a],_=>rfl
 ·rw [List.set_eq_take_append_cons_drop,if_pos hj];simp
theorem g8p {α : Type} (l:List α):sub 0 l.length l=l:=by simp [sub]
section
variable {sz:Nat} {xs:List (List AV)} {o:AObj} (h:b3t sz xs o)
include h
theorem b3t.idx {n:Nat} (hn:xs.length=n) (s:St) (z:Bool) (k:Nat) (i:Int) (h0:0≤i) (hi:i<(n:Int)):d4g s z k sz n i o=some (.ptr z k sz n i.toNat 0,s):=by
 rcases h with rfl | ⟨ps,rfl,rfl⟩
 ·simp [d4g,hn,h0,hi]
 ·rw [List.length_map] at hn;simp [d4g,hn,h0,hi]
theorem b3t.rd1 {n:Nat} (hn:xs.length=n) {i j:Nat} {c:List AV} (hi:i<n) (hc:xs.getD i []=c) (hl:c.length=sz) (hj:j+1≤sz):o.rd 1 n i j sz false=some (c.getD j .bot):=by
 rcases h with rfl | ⟨ps,rfl,rfl⟩
 ·rw [AObj.rd,if_pos ⟨rfl,hn,hi,hj⟩,hc];simp
 ·rw [List.length_map] at hn
  rw [d3w] at hc
  rw [AObj.rd,if_pos ⟨rfl,hn,hi,hj⟩]
  subst hc
  rw [List.length_map] at hl
  rw [h0l (by omega)]
  simp
theorem b3t.rdA {n:Nat} (hn:xs.length=n) {i:Nat} {c:List AV} (hi:i<n) (hc:xs.getD i []=c) (hl:c.length=sz):o.rd sz n i 0 sz true=some (b4i c):=by
 rcases h with rfl | ⟨ps,rfl,rfl⟩
 ·rw [AObj.rd,if_pos ⟨rfl,hn,hi,by omega⟩,hc]
  have:=g8p c
  rw [hl] at this
  simp [this]
 ·rw [List.length_map] at hn
  rw [d3w] at hc
  rw [AObj.rd,if_pos ⟨rfl,hn,hi,by omega⟩]
  subst hc
  rw [List.length_map] at hl
  have:=g8p (ps.getD i [])
  rw [hl] at this
  rw [this,g0b]
  simp
theorem b3t.wr1 {n : Nat} (hn : xs.length = n) {i j : Nat} {c : List AV} (hi : i < n) (hc : xs.getD i [] = c) (hl : c.length = sz) (hj : j + 1 ≤ sz) (v : AV) : ∃ o', o.wr n i j sz [v] = some o' ∧ b3t sz (xs.set i (c.set j v)) o' := by
  rcases h with rfl | ⟨ps,rfl,rfl⟩
  · refine ⟨_,by rw [AObj.wr,if_pos ⟨rfl,hn,hi,hj⟩],.inl ?_⟩
    rw [hc,d3h v c (by omega)]
  · rw [List.length_map] at hn
    rw [d3w] at hc
    have hpl:(ps.getD i []).length=sz:=by rw [← hl, ← hc,List.length_map]
    rw [AObj.wr,if_pos ⟨rfl,hn,hi,hj⟩]
    cases hp:b4u [v] with
    | none =>
      refine ⟨_,rfl,.inl ?_⟩
      rw [d3h v _ (by rw [List.length_map];omega),hc]
    | some qs =>
      have:=c5k hp
      match qs,this with
      | [w], e =>
        simp only [List.map_cons,List.map_nil,List.cons.injEq,and_true] at e
        subst e
        refine ⟨_,rfl,.inr ⟨_,rfl, ?_⟩⟩
        rw [d3h w _ (by omega),List.map_set,List.map_set,hc]
theorem b3t.app {n bytes:Nat} (hn:xs.length=n) (hb:(n+1)*bytes≤140737488355328∧n+1≤140737488355328) {c:List AV} (hl:c.length=sz) (hc:b0n c=true):∃ o',(∀ (s:St) (k:Nat),b2n s true k n sz bytes o (.lit [c])=some (.own true k (n+1),s.putObj true k o'))∧b3t sz (xs++[c]) o':=by
  have hk:c0l true [c]=true:=by simp [c0l,hc]
  rcases h with rfl | ⟨ps,rfl,rfl⟩
  · refine ⟨.cells sz (xs++[c]),fun s k => ?_,.inl rfl⟩
    simp only [b2n,hn,List.length_singleton,List.length_append,List.all_cons,List.all_nil,hl,beq_self_eq_true,Bool.and_self,hb,and_self,if_true,hk]
  · rw [List.length_map] at hn
    cases hp:b4u c with
    | some qs =>
      refine ⟨.pcells sz (ps++[qs]),fun s k => ?_,.inr ⟨_,rfl, ?_⟩⟩
      · simp only [b2n,hn,List.length_singleton,List.length_append,List.all_cons,List.all_nil,hl,beq_self_eq_true,Bool.and_self,hb,and_self,if_true,b5v,hp]
      · rw [c5k hp];simp
    | none =>
      refine ⟨.cells sz (ps.map (fun c=>c.map AV.p)++[c]),fun s k => ?_,.inl rfl⟩
      simp only [b2n,hn,List.length_singleton,List.length_append,List.length_map,List.all_cons,List.all_nil,hl,beq_self_eq_true,Bool.and_self,hb,and_self,if_true,b5v,hp,hk]
end
theorem b3t.nil (sz:Nat):b3t sz [] (.pcells sz []):=.inr ⟨[],rfl,rfl⟩
theorem d4z (c:List AV):(b4i c).cells=some c:=by
 unfold b4i
 cases h:b4u c with
 | some ps=>rw [c5k h];rfl
 | none=>rfl
def b0h (S:MS):List Nat:=(List.range S.N).filter fun h=>(S.st h).live
theorem b1m {S:MS} {h:Nat}:h ∈ b0h S↔h<S.N∧(S.st h).live=true:=by simp [b0h]
theorem g0f (S:MS):(b0h S).Nodup:=List.nodup_range.filter _
theorem c8x (S:MS):(b0h S).length≤S.N:=by
 have:=List.length_filter_le (fun h=>(S.st h).live) (List.range S.N)
 simpa [b0h] using this
theorem b7n {S:MS} {h:Int} (hl:b1i S h=true):∃ c:Nat,h=(c:Int)∧c ∈ b0h S:=by
 obtain ⟨c,h1,h2,h3⟩:=b4x hl
 exact ⟨c,h1,b1m.2 ⟨h2,h3⟩⟩
theorem h0q {S : MS} {c : Nat} : b1i S (c : Int) = true ↔ c ∈ b0h S := by
  rw [b1m]
  exact ⟨fun h => by obtain ⟨d, h1, h2, h3⟩ := b4x h; have : d = c := by omega
                     subst this;exact ⟨h2,h3⟩,fun h=>h9c h.1 h.2⟩
def posL (L:List Nat) (id:Int):Int:=if L.findIdx (fun h:Nat=>(h:Int)==id)<L.length then (L.findIdx (fun h:Nat=>(h:Int)==id):Int) else -1
theorem b4h {L:List Nat} {c:Nat} (h:c ∈ L):∃ i:Nat,posL L (c:Int)=(i:Int)∧L[i]? = some c:=by
 have h1:L.findIdx (fun h:Nat=>(h:Int)==(c:Int))<L.length:=List.findIdx_lt_length_of_exists ⟨c,h,by simp⟩
 refine ⟨_,by rw [posL,if_pos h1], ?_⟩
 have:=List.findIdx_getElem (xs:=L) (p:=fun h:Nat=>(h:Int)==(c:Int)) (w:=h1)
 rw [List.getElem?_eq_getElem h1]
 simp only [beq_iff_eq] at this
 congr 1;omega
theorem h4r {L:List Nat} {id:Int} (h:∀ c ∈ L,(c:Int)≠id):posL L id = -1:=by
 rw [posL,if_neg]
 intro h1
 have:=List.findIdx_getElem (xs:=L) (p:=fun h:Nat=>(h:Int)==id) (w:=h1)
 simp only [beq_iff_eq] at this
 exact h _ (List.getElem_mem h1) this
theorem c3p {S:MS} {id:Int} (h:b1i S id=false):posL (b0h S) id = -1:=h4r fun c hc e=>by
 rw [← e,h0q.2 hc] at h;cases h
def nAV (h:Nat) (s:b3j) (k:AV):List AV:=[.p (.int .i64 h),.p (.int .i64 s.up),k,.p (.str s.tag),.p (.str s.key),.p (.str s.text),.p (.list (s.attrs.map Attr.pv))]
def b3f (L:List Nat) (st:Nat→b3j) (av:Nat→AV):List (List AV):=L.map fun h=>nAV h (st h) (av h)
section
variable {L:List Nat} {st:Nat→b3j} {av:Nat→AV}
theorem b1y:(b3f L st av).length=L.length:=by simp [b3f]
theorem c3k {i c:Nat} (h:L[i]? = some c):(b3f L st av).getD i []=nAV c (st c) (av c):=by
 rw [List.getD_eq_getElem?_getD,b3f,List.getElem?_map,h];rfl
theorem d5u (hn:L.Nodup) {i c:Nat} (h:L[i]? = some c) (s:b3j) (a:AV):(b3f L st av).set i (nAV c s a)=b3f L (upd st c s) (upd av c a):=by
 apply List.ext_getElem
 ·simp [b3f]
 ·intro k h1 h2
  have hk:k<L.length:=by simpa [b3f] using h2
  obtain ⟨hi,e⟩:=List.getElem?_eq_some_iff.1 h
  rw [List.getElem_set]
  simp only [b3f,List.getElem_map]
  by_cases e2:i=k
  ·subst e2;rw [if_pos rfl,e,b0l,b0l]
  ·rw [if_neg e2]
   have:L[k]≠c:=fun e3=>e2 ((List.getElem_inj hn).1 (e.trans e3.symm))
   rw [b0j this,b0j this]
theorem d1i {c:Nat} (h:c ∉ L) (s:b3j) (a:AV):b3f L st av++[nAV c s a]=b3f (L++[c]) (upd st c s) (upd av c a):=by
 simp only [b3f,List.map_append,List.map_cons,List.map_nil,b0l]
 congr 1
 apply List.map_congr_left
 intro k hk
 have:k≠c:=fun e=>h (e ▸ hk)
 rw [b0j this,b0j this]
theorem c2j {st':Nat→b3j} {av':Nat→AV} (h:∀ k ∈ L,st k=st' k∧av k=av' k):b3f L st av=b3f L st' av':=by
 unfold b3f
 apply List.map_congr_left
 intro k hk
 rw [(h k hk).1,(h k hk).2]
end
inductive KG (g:List AObj):AV→List Int→Prop
 | none:KG g .nils []
 | own {r:Nat} {ks:List Int}:g[r]? = some (.pcells 1 (b0i ks))→KG g (.own true r ks.length) ks
 | list {ks:List Int}:KG g (.p (.list (b0i ks))) ks
theorem KG.inv {g:List AObj} {a:AV} {ks:List Int} (h:KG g a ks):(a = .nils∧ks=[])∨(∃ r,a = .own true r ks.length∧g[r]? = some (.pcells 1 (b0i ks)))∨a = .p (.list (b0i ks)):=by
 cases h with
 | none=>exact .inl ⟨rfl,rfl⟩
 | own h=>exact .inr (.inl ⟨_,rfl,h⟩)
 | list=>exact .inr (.inr rfl)
theorem KG.keep {g g':List AObj} {a:AV} {ks:List Int} (h:KG g a ks) (hg:∀ r,b2d a=some r→g'[r]? = g[r]?):KG g' a ks:=by
 cases h with
 | none=>exact .none
 | own h=>exact .own (by rw [hg _ rfl];exact h)
 | list=>exact .list
theorem KG.ref_lt {g:List AObj} {a:AV} {ks:List Int} (h:KG g a ks) {r:Nat} (hr:b2d a=some r):r<g.length:=by
  cases h with
  | none=>cases hr
  | own h =>
    simp only [b2d,Option.some.injEq] at hr
    subst hr
    exact (List.getElem?_eq_some_iff.1 h).1
  | list=>cases hr
theorem KG.noLocal {g:List AObj} {a:AV} {ks:List Int} (h:KG g a ks):noLocal a=true:=by
 cases h <;> simp [Go.TA.noLocal]
abbrev DP (p:Nat):AV:=.ptr true p 2 1 0 0
structure DC (L:List Nat) (st:Nat→b3j) (nx:Int) (av:Nat→AV) (p q:Nat) (g:List AObj):Prop where
 obj:g[p]? = some (.cells 2 [[.own true q L.length,.p (.int .i64 nx)]])
 row:∃ o,g[q]? = some o∧b3t 7 (b3f L st av) o
 pq:p≠q
 nodup:L.Nodup
structure DM (L:List Nat) (st:Nat→b3j) (kd:Nat→List Int) (nx:Int) (av:Nat→AV) (p q:Nat) (g:List AObj):Prop where
 core:DC L st nx av p q g
 kids:∀ h,h ∈ L→KG g (av h) (kd h)
 away:∀ h,h ∈ L→b2d (av h)≠some p∧b2d (av h)≠some q
 disj:∀ h h',h ∈ L→h' ∈ L→h≠h'→b2d (av h)=none∨b2d (av h)≠b2d (av h')
structure DFr (L:List Nat) (av:Nat→AV) (p q:Nat) (g:List AObj) (L':List Nat) (av':Nat→AV) (q':Nat) (g':List AObj):Prop where
 len:g.length≤g'.length
 keep:∀ j,j<g.length→j≠p→j≠q→(∀ h,h ∈ L→b2d (av h)≠some j)→g'[j]? = g[j]?
 row:q'=q∨g.length≤q'
 refs:∀ h,h ∈ L'→∀ j,b2d (av' h)=some j→j<g.length→∃ h0,h0 ∈ L∧b2d (av h0)=some j
theorem DFr.refl (L:List Nat) (av:Nat→AV) (p q:Nat) (g:List AObj):DFr L av p q g L av q g:=⟨Nat.le_refl _,fun _ _ _ _ _=>rfl,.inl rfl,fun h hh j hj _=>⟨h,hh,hj⟩⟩
theorem DFr.trans {L L' L'':List Nat} {av av' av'':Nat→AV} {p q q' q'':Nat} {g g' g'':List AObj} (h1:DFr L av p q g L' av' q' g') (h2:DFr L' av' p q' g' L'' av'' q'' g''):DFr L av p q g L'' av'' q'' g'' where
 len:=Nat.le_trans h1.len h2.len
 keep j hj hp hq hn:=by
  rw [h2.keep j (Nat.lt_of_lt_of_le hj h1.len) hp (by rcases h1.row with e | e <;> omega) (fun h hh e=>by
   obtain ⟨h0,hh0,e0⟩:=h1.refs h hh j e hj
   exact hn h0 hh0 e0)]
  exact h1.keep j hj hp hq hn
 row:=by
  rcases h1.row with e | e <;> rcases h2.row with e2 | e2
  ·exact .inl (e2.trans e)
  ·exact .inr (Nat.le_trans h1.len e2)
  ·exact .inr (by omega)
  ·exact .inr (Nat.le_trans h1.len e2)
 refs h hh j hj hl:=by
  obtain ⟨h1',hh1,e1⟩:=h2.refs h hh j hj (Nat.lt_of_lt_of_le hl h1.len)
  exact h1.refs h1' hh1 j e1 hl
section
variable {L:List Nat} {st:Nat→b3j} {kd:Nat→List Int} {nx:Int} {av:Nat→AV} {p q:Nat} {g:List AObj}
theorem c4y {o:AObj} (hr:b3t 7 (b3f L st av) o) {i c:Nat} (hi:L[i]? = some c) {j:Nat} (hj:j+1≤7) (v:AV):∃ o',o.wr L.length i j 7 [v]=some o'∧b3t 7 ((b3f L st av).set i ((nAV c (st c) (av c)).set j v)) o' :=
 hr.wr1 b1y (List.getElem?_eq_some_iff.1 hi).1 (c3k hi) rfl hj v
theorem c8b (hn:L.Nodup) {i c:Nat} (hi:L[i]? = some c) (v:AV):(b3f L st av).set i ((nAV c (st c) (av c)).set 2 v)=b3f L st (upd av c v):=by
 have:=d5u (st:=st) (av:=av) hn hi (st c) v
 simp only [nAV] at this ⊢
 simp only [List.set_cons_succ,List.set_cons_zero]
 rw [this]
 refine c2j fun k _=>⟨?_,rfl⟩
 by_cases e:k=c
 ·subst e;rw [b0l]
 ·rw [b0j e]
theorem c3j (hn:L.Nodup) {i c:Nat} (hi:L[i]? = some c) (s:b3j):(b3f L st av).set i (nAV c s (av c))=b3f L (upd st c s) av:=by
 rw [d5u hn hi]
 refine c2j fun k _=>⟨rfl, ?_⟩
 by_cases e:k=c
 ·subst e;rw [b0l]
 ·rw [b0j e]
def c4a (g:List AObj):AV→List AObj
 | .own true r _=>g.set r .dead
 | _=>g
theorem h0u (g:List AObj) (a:AV):(c4a g a).length=g.length:=by unfold c4a;split <;> simp
theorem c3z {g:List AObj} {a:AV} {j:Nat} (h:b2d a≠some j):(c4a g a)[j]? = g[j]? := by
 unfold c4a
 split
 ·rename_i r m
  rw [List.getElem?_set,if_neg]
  intro e;subst e;exact h rfl
 ·rfl
theorem DC.set (h:DC L st nx av p q g) {st':Nat→b3j} {av':Nat→AV} {o':AObj} (hr:b3t 7 (b3f L st' av') o'):DC L st' nx av' p q (g.set q o') where
 obj:=by rw [List.getElem?_set,if_neg (fun e=>h.pq e.symm)];exact h.obj
 row:=by
  obtain ⟨o,ho,_⟩:=h.row
  exact ⟨o',by rw [List.getElem?_set,if_pos rfl,if_pos (List.getElem?_eq_some_iff.1 ho).1],hr⟩
 pq:=h.pq
 nodup:=h.nodup
theorem DC.kill (h:DC L st nx av p q g) {a:AV} (h1:b2d a≠some p) (h2:b2d a≠some q):DC L st nx av p q (c4a g a) where
 obj:=by rw [c3z h1];exact h.obj
 row:=by rw [c3z h2];exact h.row
 pq:=h.pq
 nodup:=h.nodup
theorem DC.more (h:DC L st nx av p q g) (r:List AObj):DC L st nx av p q (g++r) where
 obj:=by rw [List.getElem?_append_left (List.getElem?_eq_some_iff.1 h.obj).1];exact h.obj
 row:=by
  obtain ⟨o,h1,h2⟩:=h.row
  exact ⟨o,by rw [List.getElem?_append_left (List.getElem?_eq_some_iff.1 h1).1];exact h1,h2⟩
 pq:=h.pq
 nodup:=h.nodup
theorem DM.fix (h : DM L st kd nx av p q g) {c : Nat} (hc : c ∈ L) (ks : List Int) {o' : AObj} (hr : b3t 7 (b3f L st (upd av c (.p (.list (b0i ks))))) o') : DM L st (upd kd c ks) nx (upd av c (.p (.list (b0i ks)))) p q ((c4a g (av c)).set q o') where
  core:=(h.core.kill (h.away c hc).1 (h.away c hc).2).set hr
  kids k hk:=by
    by_cases e:k=c
    · subst e;rw [b0l,b0l];exact .list
    · rw [b0j e,b0j e]
      refine (h.kids k hk).keep fun r hr => ?_
      rw [List.getElem?_set,if_neg (fun e=>(h.away k hk).2 (by rw [e];exact hr)),c3z]
      intro e2
      rcases h.disj k c hk hc e with h1 | h1
      · rw [h1] at hr;cases hr
      · exact h1 (by rw [hr,e2])
  away k hk:=by
    by_cases e:k=c
    · subst e;rw [b0l];simp [b2d]
    · rw [b0j e];exact h.away k hk
  disj k k' hk hk' hne:=by
    by_cases e:k=c
    · subst e;left;rw [b0l];rfl
    · rw [b0j e]
      by_cases e':k'=c
      · subst e'
        rw [b0l]
        cases hr:b2d (av k) with
        | none=>exact .inl rfl
        | some q=>exact .inr (by simp [b2d])
      · rw [b0j e'];exact h.disj k k' hk hk' hne
theorem DFr.fix (h:DM L st kd nx av p q g) {c:Nat} (hc:c ∈ L) (ks:List (List PV)) (o':AObj):DFr L av p q g L (upd av c (.p (.list ks))) q ((c4a g (av c)).set q o') where
 len:=by rw [List.length_set,h0u];exact Nat.le_refl _
 keep j hj hp hq hn:=by rw [List.getElem?_set,if_neg (fun e=>hq e.symm),c3z (hn c hc)]
 row:=.inl rfl
 refs k hk j hj _:=by
  by_cases e:k=c
  ·subst e;rw [b0l] at hj;cases hj
  ·rw [b0j e] at hj;exact ⟨k,hk,hj⟩
theorem DM.node (h:DM L st kd nx av p q g) (st':Nat→b3j) {o':AObj} (hr:b3t 7 (b3f L st' av) o'):DM L st' kd nx av p q (g.set q o') where
 core:=h.core.set hr
 kids k hk:=(h.kids k hk).keep fun r hr=>by rw [List.getElem?_set,if_neg (fun e=>(h.away k hk).2 (by rw [e];exact hr))]
 away:=h.away
 disj:=h.disj
theorem DFr.node (o':AObj):DFr L av p q g L av q (g.set q o') where
 len:=by rw [List.length_set];exact Nat.le_refl _
 keep j hj hp hq hn:=by rw [List.getElem?_set,if_neg (fun e=>hq e.symm)]
 row:=.inl rfl
 refs k hk j hj _:=⟨k,hk,hj⟩
end
theorem KG.frz {g:List AObj} {a:AV} {ks:List Int} (h:KG g a ks) (fr:List (Nat × AV)) (l:List (Nat × AObj)):Go.TA.frz ⟨fr,l,g⟩ a=some (.list (b0i ks),⟨fr,l,c4a g a⟩):=by
 cases h with
 | none=>rfl
 | own h=>simp only [Go.TA.frz,St.obj,if_true,h,b0w,St.putObj,c4a]
 | list=>rfl
def inL (l:List Int) (h b:Int):List Int:=(l.flatMap fun k=>if k=b then [h,k] else [k])++if b=0 then [h] else []
theorem g2z {l:List Int} {h b:Int} (hb:b ∉ l):(l.flatMap fun k=>if k=b then [h,k] else [k])=l:=by
  induction l with
  | nil=>rfl
  | cons a l ih =>
    simp only [List.mem_cons,not_or] at hb
    rw [List.flatMap_cons,if_neg (fun e=>hb.1 e.symm),ih hb.2];rfl
theorem g3a {l : List Int} {h b : Int} (hn : l.Nodup) (h0 : (0 : Int) ∉ l) (hb : b = 0 ∨ b ∈ l) : inL l h b = insI l h b := by
  unfold inL insI
  by_cases e:b=0
  · subst e
    rw [g2z h0,if_pos rfl,if_pos rfl,List.take_length,List.drop_length]
  · have hm:b ∈ l:=by rcases hb with h1 | h1;exact absurd h1 e;exact h1
    rw [if_neg e,if_neg e,List.append_nil]
    induction l with
    | nil=>simp at hm
    | cons a l ih =>
      rw [List.nodup_cons] at hn
      simp only [List.mem_cons,not_or] at h0
      rw [List.flatMap_cons]
      by_cases ea:a=b
      · subst ea
        rw [if_pos rfl,g2z hn.1]
        simp
      · have hm':b ∈ l:=by rcases List.mem_cons.1 hm with h1 | h1;exact absurd h1.symm ea;exact h1
        rw [if_neg ea,ih hn.2 h0.2 (.inr hm') hm',List.idxOf_cons]
        have:(a==b)=false:=by simpa using ea
        rw [this]
        simp
theorem g5n {f:Int→List Int} {l:List Int} {i:Nat} {x:Int} (h:l[i]? = some x):(l.take (i+1)).flatMap f=(l.take i).flatMap f++f x:=by
 rw [List.take_add_one,h];simp
theorem j1r (l:List Int) (h b:Int):(l.flatMap fun k=>if k=b then [h,k] else [k]).length≤2*l.length:=by
  induction l with
  | nil=>simp
  | cons a l ih =>
    rw [List.flatMap_cons,List.length_append,List.length_cons]
    have:(if a=b then [h,a] else [a]).length≤2:=by split <;> simp
    omega
end Go.TA


end
section
/- A machine's rows, and its loose nodes. Plain. -/
namespace Go.TA
def b2h (S:MS) (R:Nat):List GRow:=b1s S (R+1) [] 0 0
theorem d3f {S:MS}:PreO S [] 0:=⟨by simp,by simp,by simp⟩
theorem c0d {R:Nat} {S:MS} (hS:S.Ok R) (R':Nat):(b2h S R').length≤S.N:=(c1q hS (R'+1) [] 0 0 hS.pos d3f).len
def b3s (S:MS):List Int:=((b0h S).filter fun h:Nat => !(h==0) && decide ((S.st h).up<0)).map fun h:Nat=>(h:Int)
end Go.TA


end
section
/- An operation that is done by one machine is done by the other, under its handles. -/
namespace Go.TA
section
variable {R:Nat} {φ : Nat→Nat} {M S:MS}
theorem Sim.dom (hS:Sim φ M S) {h:Int} (hl:b1i M h=true):Dom M h:=by
 obtain ⟨n,h1,h2,_⟩:=b4r hl
 exact .inr ⟨n,h1,h2⟩
theorem Sim.liveI (hS:Sim φ M S) {h:Int} (h0:0≤h):b1i S (img φ h)=b1i M h:=by
 obtain ⟨n,rfl⟩:∃ n:Nat,h=(n:Int):=⟨h.toNat,by omega⟩
 exact hS.live n
theorem Sim.upI (hS:Sim φ M S) {h:Int} (hl:b1i M h=true):Go.TA.upOf S (img φ h)=img φ (Go.TA.upOf M h):=by
 obtain ⟨n,h1,rfl,_⟩:=b4r hl
 rw [b2l]
 exact hS.upOf h1
theorem Sim.nodeI (hS:Sim φ M S) {h:Int} (hl:b1i M h=true):(img φ h).toNat = φ h.toNat∧h.toNat<M.N∧(φ h.toNat:Int)=img φ h:=by
 obtain ⟨n,h1,rfl,_⟩:=b4r hl
 rw [b2l]
 simp [h1]
def Used (M:MS) (h:Int):Prop:=h=0∨b1i M h=true
theorem Sim.do2 (hS:Sim φ M S) (hM:M.Ok R) (x:GOp) (h:(b2r M x).1=0):((b2r S (b0k (img φ) x)).1=0∧Sim φ (b2r M x).2 (b2r S (b0k (img φ) x)).2)∧b1i M x.node=true∧b1i M x.up=true∧b1i M x.before=true:=by
 unfold b2r at h
 split at h
 ·simp at h
 rename_i c1
 split at h
 ·simp at h
 rename_i c2
 split at h
 ·simp at h
 rename_i c3
 split at h
 ·simp at h
 rename_i c4
 simp only [Bool.not_eq_false,Bool.and_eq_true] at c1
 obtain ⟨l1,l2,l3⟩:=c1
 refine ⟨?_,l1,l2,l3⟩
 obtain ⟨n1,n2,n3⟩:=hS.nodeI l1
 obtain ⟨u1,u2,u3⟩:=hS.nodeI l2
 have p1:=hS.dom l1
 have p2:=hS.dom l2
 have p3:=hS.dom l3
 have z1:0≤x.node:=by obtain ⟨k,_,e,_⟩:=b4r l1;omega
 have z2:0≤x.up:=by obtain ⟨k,_,e,_⟩:=b4r l2;omega
 have z3:0≤x.before:=by obtain ⟨k,_,e,_⟩:=b4r l3;omega
 have s1:(b1i S (img φ x.node) && (b1i S (img φ x.up) && b1i S (img φ x.before)))≠false:=by rw [hS.liveI z1,hS.liveI z2,hS.liveI z3,l1,l2,l3];decide
 have s2:¬ 0≤Go.TA.upOf S (img φ x.node):=by
  rw [hS.upI l1]
  have:Go.TA.upOf M x.node<0:=by omega
  simp only [img,if_pos this]
  exact c2
 have s3:¬ b2s S (img φ x.up) (img φ x.node)=true:=fun q=>c3 (b2x.2 (by
  have:=b2x.1 q
  rw [← n3, ← u3,hS.below hM n2 u2] at this
  rwa [show ((x.node.toNat:Nat):Int)=x.node by omega,show ((x.up.toNat:Nat):Int)=x.up by omega] at this))
 have s4:¬ (img φ x.before≠0∧Go.TA.upOf S (img φ x.before)≠img φ x.up):=fun ⟨q1,q2⟩=>c4 ⟨fun e=>q1 ((hS.img0 p3).2 e),fun e=>q2 (by rw [hS.upI l3,e])⟩
 have eM:b2r M x=(0,b2f M x.node.toNat x.up.toNat x.before):=by
  unfold b2r
  rw [if_neg (by rw [l1,l2,l3];decide),if_neg c2,if_neg c3,if_neg c4]
 have eS:b2r S (b0k (img φ) x)=(0,b2f S (φ x.node.toNat) (φ x.up.toNat) (img φ x.before)):=by
  unfold b2r
  rw [if_neg (show ¬ (b1i S (b0k (img φ) x).node && (b1i S (b0k (img φ) x).up && b1i S (b0k (img φ) x).before))=false from s1),if_neg (show ¬ 0≤Go.TA.upOf S (b0k (img φ) x).node from s2),if_neg (show ¬ b2s S (b0k (img φ) x).up (b0k (img φ) x).node=true from s3),if_neg (show ¬ ((b0k (img φ) x).before≠0∧Go.TA.upOf S (b0k (img φ) x).before≠(b0k (img φ) x).up) from s4)]
  show (0,b2f S (img φ x.node).toNat (img φ x.up).toNat (img φ x.before))=_
  rw [n1,u1]
 rw [eM,eS]
 exact ⟨rfl,hS.place hM n2 u2 p3⟩
theorem Sim.do3 (hS:Sim φ M S) (hM:M.Ok R) (x:GOp) (h:(b6h M x).1=0):((b6h S (b0k (img φ) x)).1=0∧Sim φ (b6h M x).2 (b6h S (b0k (img φ) x)).2)∧b1i M x.node=true∧b1i M x.before=true:=by
 unfold b6h at h
 split at h
 ·simp at h
 rename_i c1
 split at h
 ·simp at h
 rename_i c2
 split at h
 ·simp at h
 rename_i c3
 simp only [Bool.not_eq_false,Bool.and_eq_true] at c1
 obtain ⟨l1,l3⟩:=c1
 refine ⟨?_,l1,l3⟩
 obtain ⟨n1,n2,n3⟩:=hS.nodeI l1
 have p1:=hS.dom l1
 have p3:=hS.dom l3
 have z1:0≤x.node:=by obtain ⟨k,_,e,_⟩:=b4r l1;omega
 have z3:0≤x.before:=by obtain ⟨k,_,e,_⟩:=b4r l3;omega
 have hup:Dom M (Go.TA.upOf M x.node):=by
  have:=d2e hM n2
  rwa [show ((x.node.toNat:Nat):Int)=x.node by omega] at this
 have hupb:Dom M (Go.TA.upOf M x.before):=by
  obtain ⟨k,hk,e,_⟩:=b4r l3
  rw [e]
  exact d2e hM hk
 obtain ⟨p,hp,ep⟩:∃ p:Nat,p<M.N∧Go.TA.upOf M x.node=(p:Int):=by
  rcases hup with e | e
  ·omega
  ·exact e
 have s1:(b1i S (img φ x.node) && b1i S (img φ x.before))≠false:=by rw [hS.liveI z1,hS.liveI z3,l1,l3];decide
 have eU:Go.TA.upOf S (img φ x.node)=(φ p:Int):=by rw [hS.upI l1,ep,b2l]
 have s2:¬ Go.TA.upOf S (img φ x.node)<0:=by omega
 have s3:¬ (img φ x.before=img φ x.node∨(img φ x.before≠0∧Go.TA.upOf S (img φ x.before)≠Go.TA.upOf S (img φ x.node))):=by
  rintro (q | ⟨q1,q2⟩)
  ·exact c3 (.inl (hS.img_inj p3 p1 q))
  ·exact c3 (.inr ⟨fun e=>q1 ((hS.img0 p3).2 e),fun e=>q2 (by rw [hS.upI l3,hS.upI l1,e])⟩)
 have eM:b6h M x=(0,b2f (b2c M x.node.toNat) x.node.toNat p x.before):=by
  unfold b6h
  rw [if_neg (by rw [l1,l3];decide),if_neg c2,if_neg c3,ep,Int.toNat_natCast]
 have eS:b6h S (b0k (img φ) x)=(0,b2f (b2c S (φ x.node.toNat)) (φ x.node.toNat) (φ p) (img φ x.before)):=by
  unfold b6h
  rw [if_neg (show ¬ (b1i S (b0k (img φ) x).node && b1i S (b0k (img φ) x).before)=false from s1),if_neg (show ¬ Go.TA.upOf S (b0k (img φ) x).node<0 from s2),if_neg (show ¬ ((b0k (img φ) x).before=(b0k (img φ) x).node∨((b0k (img φ) x).before≠0∧Go.TA.upOf S (b0k (img φ) x).before≠Go.TA.upOf S (b0k (img φ) x).node)) from s3)]
  show (0,b2f (b2c S (img φ x.node).toNat) (img φ x.node).toNat (Go.TA.upOf S (img φ x.node)).toNat (img φ x.before))=_
  rw [eU,n1,Int.toNat_natCast]
 rw [eM,eS]
 refine ⟨rfl, ?_⟩
 have hT:=hS.take hM n2
 have hl:(M.st x.node.toNat).live=true:=by
  obtain ⟨k,_,e,hk⟩:=b4r l1
  rw [e];simpa using hk
 obtain ⟨hTok,_⟩:=hM.take n2 hl
 have hN:(b2c M x.node.toNat).N=M.N:=b5a _ _
 refine hT.place hTok (by rw [hN];exact n2) (by rw [hN];exact hp) ?_
 rcases p3 with e | ⟨k,hk,e⟩
 ·exact .inl e
 ·exact .inr ⟨k,by rw [hN];exact hk,e⟩
theorem Sim.change (hS:Sim φ M S) {n:Nat} (hn:n<M.N) (x:GOp):(b3e S (φ n) (b0k (img φ) x)).1=(b3e M n x).1∧Sim φ (b3e M n x).2 (b3e S (φ n) (b0k (img φ) x)).2:=by
 have ea:(S.st (φ n)).attrs=(M.st n).attrs:=by rw [hS.node n hn]
 have e1:(b0k (img φ) x).kind=x.kind:=rfl
 have e2:(b0k (img φ) x).name=x.name:=rfl
 have e3:(b0k (img φ) x).text=x.text:=rfl
 unfold b3e
 rw [ea,e1,e2,e3]
 by_cases k5:x.kind=5
 ·rw [if_pos k5,if_pos k5]
  split
  ·exact ⟨rfl,hS⟩
  ·exact ⟨rfl,hS.setM hn _⟩
 rw [if_neg k5,if_neg k5]
 by_cases k6:x.kind=6
 ·rw [if_pos k6,if_pos k6]
  split
  ·exact ⟨rfl,hS.setM hn _⟩
  ·exact ⟨rfl,hS⟩
 rw [if_neg k6,if_neg k6]
 by_cases k7:x.kind=7
 ·rw [if_pos k7,if_pos k7]
  exact ⟨rfl,hS.textM hn _⟩
 ·rw [if_neg k7,if_neg k7]
  exact ⟨rfl,hS⟩
theorem Sim.doM (hS:Sim φ M S) (hM:M.Ok R) (x:GOp) (h:(Go.TA.doM M x).1=0) :
    ((Go.TA.doM S (b0k (img φ) x)).1=0∧Sim φ (Go.TA.doM M x).2 (Go.TA.doM S (b0k (img φ) x)).2)∧(x.kind=1∨(x.node≠0∧b1i M x.node=true∧(x.kind=2→b1i M x.up=true∧b1i M x.before=true)∧(x.kind=3→b1i M x.before=true))):=by
  by_cases k1:x.kind=1
  · have eM:Go.TA.doM M x=(0,M.create x):=by unfold Go.TA.doM;rw [if_pos k1]
    have eS:Go.TA.doM S (b0k (img φ) x)=(0,S.create (b0k (img φ) x)):=by unfold Go.TA.doM;rw [if_pos (show (b0k (img φ) x).kind=1 from k1)]
    rw [eM,eS]
    exact ⟨⟨rfl,hS.create rfl rfl rfl rfl⟩,.inl k1⟩
  have k1':¬ (b0k (img φ) x).kind=1:=k1
  by_cases n0:x.node=0
  · unfold Go.TA.doM at h
    rw [if_neg k1,if_pos n0] at h
    simp at h
  have nz:b1i M x.node=true→¬ (b0k (img φ) x).node=0:=fun l q=>n0 ((hS.img0 (hS.dom l)).1 q)
  by_cases k2:x.kind=2
  · have eM:Go.TA.doM M x=b2r M x:=by unfold Go.TA.doM;rw [if_neg k1,if_neg n0,if_pos k2]
    rw [eM] at h ⊢
    obtain ⟨q,l1,l2,l3⟩:=hS.do2 hM x h
    have eS:Go.TA.doM S (b0k (img φ) x)=b2r S (b0k (img φ) x):=by unfold Go.TA.doM;rw [if_neg k1',if_neg (nz l1),if_pos (show (b0k (img φ) x).kind=2 from k2)]
    rw [eS]
    exact ⟨q,.inr ⟨n0,l1,fun _=>⟨l2,l3⟩,fun e=>by omega⟩⟩
  have k2':¬ (b0k (img φ) x).kind=2:=k2
  by_cases k3:x.kind=3
  · have eM:Go.TA.doM M x=b6h M x:=by unfold Go.TA.doM;rw [if_neg k1,if_neg n0,if_neg k2,if_pos k3]
    rw [eM] at h ⊢
    obtain ⟨q,l1,l3⟩:=hS.do3 hM x h
    have eS:Go.TA.doM S (b0k (img φ) x)=b6h S (b0k (img φ) x):=by unfold Go.TA.doM;rw [if_neg k1',if_neg (nz l1),if_neg k2',if_pos (show (b0k (img φ) x).kind=3 from k3)]
    rw [eS]
    exact ⟨q,.inr ⟨n0,l1,fun e=>by omega,fun _=>l3⟩⟩
  have k3':¬ (b0k (img φ) x).kind=3:=k3
  cases l1:b1i M x.node with
  | false =>
    unfold Go.TA.doM at h
    rw [if_neg k1,if_neg n0,if_neg k2,if_neg k3,if_pos l1] at h
    simp at h
  | true=>
  obtain ⟨n1,n2,n3⟩:=hS.nodeI l1
  have z1:0≤x.node:=by obtain ⟨k,_,e,_⟩:=b4r l1;omega
  have l1':¬ b1i S (b0k (img φ) x).node=false:=by
    show ¬ b1i S (img φ x.node)=false
    rw [hS.liveI z1,l1];decide
  have hl:(M.st x.node.toNat).live=true:=by
    obtain ⟨k,_,e,hk⟩:=b4r l1
    rw [e];simpa using hk
  by_cases k4:x.kind=4
  · have eM:Go.TA.doM M x=(0,Go.TA.endM (b2c M x.node.toNat) x.node):=by unfold Go.TA.doM;rw [if_neg k1,if_neg n0,if_neg k2,if_neg k3,if_neg (by rw [l1];decide),if_pos k4]
    have eS:Go.TA.doM S (b0k (img φ) x)=(0,Go.TA.endM (b2c S (φ x.node.toNat)) (φ x.node.toNat:Int)):=by
      unfold Go.TA.doM
      rw [if_neg k1',if_neg (nz l1),if_neg k2',if_neg k3',if_neg l1',if_pos (show (b0k (img φ) x).kind=4 from k4)]
      show (0,Go.TA.endM (b2c S (img φ x.node).toNat) (img φ x.node))=_
      rw [n1,n3]
    rw [eM,eS]
    refine ⟨⟨rfl, ?_⟩,.inr ⟨n0,rfl,fun e=>by omega,fun e=>by omega⟩⟩
    obtain ⟨hTok,_⟩:=hM.take n2 hl
    have:=(hS.take hM n2).endM hTok (h:=x.node.toNat) (by rw [b5a];exact n2)
    rwa [show ((x.node.toNat:Nat):Int)=x.node by omega] at this
  · have eM:Go.TA.doM M x=b3e M x.node.toNat x:=by unfold Go.TA.doM;rw [if_neg k1,if_neg n0,if_neg k2,if_neg k3,if_neg (by rw [l1];decide),if_neg k4]
    have eS:Go.TA.doM S (b0k (img φ) x)=b3e S (φ x.node.toNat) (b0k (img φ) x):=by
      unfold Go.TA.doM
      rw [if_neg k1',if_neg (nz l1),if_neg k2',if_neg k3',if_neg l1',if_neg (show ¬ (b0k (img φ) x).kind=4 from k4)]
      show b3e S (img φ x.node).toNat _=_
      rw [n1]
    rw [eM] at h ⊢
    rw [eS]
    obtain ⟨q1,q2⟩:=hS.change n2 x
    exact ⟨⟨by rw [q1];exact h,q2⟩,.inr ⟨n0,rfl,fun e=>by omega,fun e=>by omega⟩⟩
end
end Go.TA


end
section
/- Of a machine's rows: which stand below which. Plain. -/
namespace Go.TA
def b4c (l:List GRow) (p:Int):List Int:=(l.filter fun x=>x.up==p).map GRow.id
theorem b8n (l k:List GRow) (p:Int):b4c (l++k) p=b4c l p++b4c k p:=by simp [b4c]
theorem c2k {l:List GRow} {p:Int} (h:∀ x ∈ l,x.up≠p):b4c l p=[]:=by
 rw [b4c,List.filter_eq_nil_iff.2 (fun x hx=>by simpa using h x hx)]
 rfl
theorem c5g {S:MS} {k u p:Int}:b4c [rowM S k u] p=if u=p then [k] else []:=by
 unfold b4c
 by_cases e:u=p
 ·simp [e,rowM]
 ·simp [e,rowM]
structure Out (S:MS) (n:Nat) (up:Int) (more:List GRow):Prop where
 ups:∀ x ∈ more,x.up=up∨((n:Int)<x.up∧x.up≤(n:Int)+more.length)
 full:∀ (i:Nat) (x:GRow),more[i]? = some x→b4c more ((n:Int)+i+1)=S.kd x.id.toNat
theorem Out.nil (S:MS) (n:Nat) (up:Int):Out S n up []:=⟨fun x hx=>by simp at hx,fun i x hx=>by simp at hx⟩
theorem h4x {S : MS} {n : Nat} {up : Int} (hup : up ≤ (n : Int)) {more more2 : List GRow} {c : Nat} (h1 : Out S n up more) (h2 : Out S (n + more.length + 1) ((n : Int) + more.length + 1) more2) (hk : b4c more2 ((n : Int) + more.length + 1) = S.kd c) :
    Out S n up (more++[rowM S (c:Int) up]++more2):=by
  have hl:(more++[rowM S (c:Int) up]++more2).length=more.length+1+more2.length:=by simp;omega
  refine ⟨fun x hx => ?_,fun i x hx => ?_⟩
  · rw [hl]
    rcases List.mem_append.1 hx with hx | hx
    · rcases List.mem_append.1 hx with hx | hx
      · rcases h1.ups x hx with h | ⟨h,h'⟩
        · exact .inl h
        · exact .inr ⟨h,by push_cast;omega⟩
      · simp only [List.mem_singleton] at hx
        subst hx;exact .inl rfl
    · rcases h2.ups x hx with h | ⟨h,h'⟩
      · exact .inr ⟨by omega,by rw [h];push_cast;omega⟩
      · exact .inr ⟨by push_cast at h;omega,by push_cast at h' ⊢;omega⟩
  · have n1:∀ p:Int,(n:Int)<p→p≤(n:Int)+more.length→b4c [rowM S (c:Int) up] p=[]∧b4c more2 p=[]:=fun p hp hp'=>by
      refine ⟨by rw [c5g,if_neg (by omega)],c2k fun y hy e => ?_⟩
      rcases h2.ups y hy with h | ⟨h,_⟩
      · omega
      · push_cast at h;omega
    have n2:∀ p:Int,(n:Int)+more.length<p→b4c more p=[]∧b4c [rowM S (c:Int) up] p=[]:=fun p hp=>by
      refine ⟨c2k fun y hy e => ?_,by rw [c5g,if_neg (by omega)]⟩
      rcases h1.ups y hy with h | ⟨_,h⟩ <;> omega
    rw [b8n,b8n]
    by_cases hi:i<more.length
    · rw [List.append_assoc,List.getElem?_append_left hi] at hx
      obtain ⟨a,b⟩:=n1 ((n:Int)+i+1) (by omega) (by omega)
      rw [a,b,h1.full i x hx];simp
    · by_cases e:i=more.length
      · subst e
        have hx':x=rowM S (c:Int) up:=by
          rw [List.append_assoc,List.getElem?_append_right (Nat.le_refl _),Nat.sub_self] at hx
          simpa using hx.symm
        obtain ⟨a,b⟩:=n2 ((n:Int)+more.length+1) (by omega)
        rw [a,b,hk,hx'];simp [rowM]
      · have hx':more2[i - (more.length+1)]? = some x:=by
          rw [List.getElem?_append_right (by simp;omega)] at hx
          simpa using hx
        obtain ⟨a,b⟩:=n2 ((n:Int)+i+1) (by omega)
        have:=h2.full _ x hx'
        rw [a,b, ← this]
        simp only [List.nil_append]
        congr 1
        push_cast
        omega
section
variable {R:Nat} {S:MS}
theorem d8d (hS : S.Ok R) {r : Nat → Nat} (hr1 : ∀ c, c < S.N → r c ≤ R) (hr2 : ∀ c p : Nat, c < S.N → (S.st c).up = (p : Int) → r p < r c) :
    ∀ (d:Nat) (out:List GRow) (h:Nat) (up:Int),h<S.N→R<r h+d→up≤(out.length:Int)→∃ more,b1s S d out (h:Int) up=out++more∧Out S out.length up more∧b4c more up=S.kd h
  | 0,out,h,up,hh,hR,hup=>by have:=hr1 h hh;omega
  | d + 1, out, h, up, hh, hR, hup => by
    rw [← b7h]
    have key:∀ i,i≤(S.kd h).length→∃ more,outI S d out h up i=out++more∧Out S out.length up more∧b4c more up=(S.kd h).take i:=by
      intro i
      induction i with
      | zero=>exact fun _=>⟨[],by simp [b8q],Out.nil _ _ _,by simp [b4c]⟩
      | succ i ih =>
        intro hi
        obtain ⟨more,e1,o1,t1⟩:=ih (by omega)
        obtain ⟨k,hk⟩:∃ k,(S.kd h)[i]? = some k:=⟨_,List.getElem?_eq_getElem (by omega)⟩
        obtain ⟨c,rfl,hc,_,hu⟩:=hS.kids h hh k (List.mem_of_getElem? hk)
        have hrc:=hr2 c h hc hu
        have hl:(out++more++[rowM S (c:Int) up]).length=out.length+more.length+1:=by simp;omega
        obtain ⟨more2,e2,o2,t2⟩:=d8d hS hr1 hr2 d (out++more++[rowM S (c:Int) up]) c ((out.length:Int)+more.length+1) hc (by omega) (by rw [hl];push_cast;omega)
        rw [hl] at o2
        rw [b5p hk,e1]
        refine ⟨more++[rowM S (c:Int) up]++more2, ?_,h4x hup o1 o2 t2, ?_⟩
        · have:(((out++more).length:Nat):Int)+1=(out.length:Int)+more.length+1:=by simp
          rw [this,e2];simp
        · have n2:b4c more2 up=[]:=c2k fun y hy e=>by
            rcases o2.ups y hy with h | ⟨h,_⟩
            · omega
            · push_cast at h;omega
          rw [b8n,b8n,t1,c5g,if_pos rfl,n2,List.append_nil,List.take_add_one,hk]
          rfl
    obtain ⟨more,e,o,t⟩:=key _ (Nat.le_refl _)
    exact ⟨more,e,o,by rw [t,List.take_length]⟩
theorem d2q (hS : S.Ok R) {r : Nat → Nat} (hr1 : ∀ c, c < S.N → r c ≤ R) (hr2 : ∀ c p : Nat, c < S.N → (S.st c).up = (p : Int) → r p < r c) :
    ∀ (d d':Nat) (out:List GRow) (h:Nat) (up:Int),h<S.N→R<r h+d→R<r h+d'→b1s S d out (h:Int) up=b1s S d' out (h:Int) up
  | 0,d',out,h,up,hh,hR,hR'=>by have:=hr1 h hh;omega
  | d+1,0,out,h,up,hh,hR,hR'=>by have:=hr1 h hh;omega
  | d + 1, d' + 1, out, h, up, hh, hR, hR' => by
    rw [← b7h, ← b7h]
    have key:∀ i,i≤(S.kd h).length→outI S d out h up i=outI S d' out h up i:=by
      intro i
      induction i with
      | zero=>exact fun _=>rfl
      | succ i ih =>
        intro hi
        obtain ⟨k,hk⟩:∃ k,(S.kd h)[i]? = some k:=⟨_,List.getElem?_eq_getElem (by omega)⟩
        obtain ⟨c,rfl,hc,_,hu⟩:=hS.kids h hh k (List.mem_of_getElem? hk)
        have hrc:=hr2 c h hc hu
        rw [b5p hk,b5p hk,ih (by omega)]
        exact d2q hS hr1 hr2 d d' _ c _ hc (by omega) (by omega)
    exact key _ (Nat.le_refl _)
theorem d1h (hS:S.Ok R) {R':Nat} (h:R≤R'):b2h S R'=b2h S R:=by
 obtain ⟨r,hr1,hr2⟩:=hS.rank
 exact d2q hS hr1 hr2 (R'+1) (R+1) [] 0 0 hS.pos (by omega) (by omega)
theorem g4m (hS:S.Ok R):b4c (b2h S R) 0=S.kd 0∧∀ (i:Nat) (x:GRow),(b2h S R)[i]? = some x→b4c (b2h S R) ((i:Int)+1)=S.kd x.id.toNat:=by
 obtain ⟨r,hr1,hr2⟩:=hS.rank
 obtain ⟨more,e,o,t⟩:=d8d hS hr1 hr2 (R+1) [] 0 0 hS.pos (by omega) (by simp)
 have e':b2h S R=more:=by simpa [b2h] using e
 rw [e']
 refine ⟨t,fun i x hx => ?_⟩
 have:=o.full i x hx
 simpa using this
end
end Go.TA


end
section
/- The machine of rows. Plain. -/
namespace Go.TA
def S0 (l:List GRow):MS:=⟨l.length+1,st0 l,kd0 l l.length⟩
theorem g0c {l:List GRow} {i h:Nat} {k:Int}:k ∈ kd0 l i h↔∃ j x,j<i∧l[j]? = some x∧x.up=(h:Int)∧k=(j:Int)+1:=by
  simp only [kd0,List.mem_map,List.mem_filter,List.mem_range]
  constructor
  · rintro ⟨j,⟨h1,h2⟩,rfl⟩
    cases hx:l[j]? with
    | none=>rw [hx] at h2;simp at h2
    | some x =>
      rw [hx] at h2
      exact ⟨j,x,h1,hx,by simpa using h2,rfl⟩
  · rintro ⟨j,x,h1,h2,h3,rfl⟩
    exact ⟨j,⟨h1,by simp [h2,h3]⟩,rfl⟩
theorem h0w (l:List GRow) (i h:Nat):(kd0 l i h).Nodup:=by
 unfold kd0
 rw [List.nodup_iff_pairwise_ne,List.pairwise_map]
 refine List.Pairwise.imp ?_ ((List.nodup_iff_pairwise_ne.1 List.nodup_range).filter _)
 intro a b hab
 omega
theorem h3a {l:List GRow} {m:Nat} (hs:c0c l) (hsm:Rows.mid m l) (hm:m≤1048577):(S0 l).Ok l.length:=by
  have hlive:∀ c,c<l.length+1→(st0 l c).live=true:=fun c hc=>by
    cases c with
    | zero=>rfl
    | succ j =>
      obtain ⟨x,hx⟩:=b0p (show j<l.length by omega)
      simp [st0,hx,b7c]
  have hup:∀ j x,l[j]? = some x→(st0 l (j+1)).up=x.up:=fun j x hx=>by simp [st0,hx,b7c]
  refine ⟨by simp [S0],⟨rfl,rfl⟩,fun p hp k hk => ?_,fun c hc => ?_,fun c hc hd => ?_,fun p hp=>h0w l l.length p,⟨fun c=>c,fun c hc=>by simp only [S0] at hc;show c≤l.length;omega,fun c p hc hu => ?_⟩,fun c hc => ?_⟩
  · obtain ⟨j,x,h1,h2,h3,rfl⟩:=g0c.1 hk
    exact ⟨j+1,by omega,by simp only [S0];omega,hlive _ (by omega),by simp only [S0];rw [hup j x h2];exact h3⟩
  · simp only [S0] at hc ⊢
    cases c with
    | zero=>exact .inl rfl
    | succ j =>
      obtain ⟨x,hx⟩:=b0p (show j<l.length by omega)
      have hst:=hs.1 j x (by omega) hx
      refine .inr ⟨x.up.toNat,by omega, ?_,hlive _ (by omega),g0c.2 ⟨j,x,by omega,hx,by omega,by omega⟩⟩
      rw [hup j x hx];omega
  · simp only [S0] at hc hd
    rw [hlive c hc] at hd;cases hd
  · simp only [S0] at hc hu
    cases c with
    | zero=>simp [st0,b6u] at hu <;> omega
    | succ j =>
      obtain ⟨x,hx⟩:=b0p (show j<l.length by omega)
      have hst:=hs.1 j x (by omega) hx
      rw [hup j x hx] at hu
      show p<j+1
      omega
  · simp only [S0] at hc ⊢
    cases c with
    | zero=>simp [st0,b6u]
    | succ j =>
      obtain ⟨x,hx⟩:=b0p (show j<l.length by omega)
      have:=(hsm.row x (List.mem_of_getElem? hx)).attrs
      simp only [st0,hx,Option.map_some,Option.getD_some,b7c]
      omega
end Go.TA


end
