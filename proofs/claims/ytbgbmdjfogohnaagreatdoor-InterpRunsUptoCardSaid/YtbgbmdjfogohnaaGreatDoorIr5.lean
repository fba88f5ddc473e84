/- Part 5 of 15 of a proof; joined from LibE. One step of a region, and regions that draw their order, are sound. -/
import Derived.Test.YtbgbmdjfogohnaaGreatDoorIr4
import Derived.Tactics
import Derived.Orders
set_option linter.unusedSimpArgs false
set_option linter.unusedVariables false
set_option linter.defProp false
set_option maxRecDepth 100000
set_option maxHeartbeats 8000000
section
/- One step of a region, and regions that draw their order, are sound. -/
namespace Go.TA
section
variable {P:Program} {s:St} {o:Oper}
theorem noLocals_iff:∀ {l:List AV},noLocals l=true↔∀ a ∈ l,noLocal a=true
 | []=>by simp [noLocals]
 | a::l=>by simp [noLocals,noLocals_iff (l:=l)]
theorem okFor_true {xs:List (List AV)} (h:okFor true xs=true):xs.all noLocals=true:=by simpa [okFor] using h
theorem noLocalObj_objOf {sz:Nat} {xs:List (List AV)} (h:xs.all noLocals=true):noLocalObj (objOf sz xs)=true:=by
 unfold objOf
 split
 ·rfl
 ·exact h
theorem gOk_put (hg:gOk s.g) {z:Bool} {k:Nat} {ob:AObj} (h:z=true→noLocalObj ob=true):gOk (s.putObj z k ob).g:=by
 cases z
 ·simpa [St.putObj] using hg
 ·intro x hx
  simp only [St.putObj,if_true] at hx
  rcases List.mem_or_eq_of_mem_set hx with hx | rfl
  ·exact hg x hx
  ·exact h rfl
theorem gOk_new (hg:gOk s.g) {z:Bool} {k k':Nat} {ob:AObj} {s':St} (hn:s.newObj z k ob=some (k',s')) (h:z=true→noLocalObj ob=true):gOk s'.g:=by
 unfold St.newObj at hn
 cases z
 ·simp only [Bool.false_eq_true,if_false] at hn
  split at hn
  ·simp only [Option.some.injEq,Prod.mk.injEq] at hn
   obtain ⟨_,rfl⟩:=hn
   exact hg
  ·cases hn
 ·simp only [if_true,Option.some.injEq,Prod.mk.injEq] at hn
  obtain ⟨_,rfl⟩:=hn
  intro x hx
  rcases List.mem_append.1 hx with hx | hx
  ·exact hg x hx
  ·simp only [List.mem_singleton] at hx;subst hx;exact h rfl
theorem gOk_obj (hg:gOk s.g) {k:Nat} {ob:AObj} (h:s.obj true k=some ob):noLocalObj ob=true:=by
 simp only [St.obj,if_true] at h
 exact hg ob (List.mem_of_getElem? h)
theorem noLocals_over {j:Nat} {a b:List AV} (ha:noLocals a=true) (hb:noLocals b=true):noLocals (over j a b)=true:=by
 rw [noLocals_iff] at *
 intro x hx
 unfold over at hx
 split at hx
 ·exact ha x hx
 ·simp only [List.mem_append] at hx
  rcases hx with (hx | hx) | hx
  ·exact hb x (List.mem_of_mem_take hx)
  ·exact ha x hx
  ·exact hb x (List.mem_of_mem_drop hx)
theorem all_set {xs:List (List AV)} {i:Nat} {r:List AV} (h:xs.all noLocals=true) (hr:noLocals r=true):(xs.set i r).all noLocals=true:=by
 rw [List.all_eq_true] at *
 intro x hx
 rcases List.mem_or_eq_of_mem_set hx with hx | rfl
 ·exact h x hx
 ·exact hr
theorem noLocals_getD {xs:List (List AV)} (h:xs.all noLocals=true) (i:Nat):noLocals (xs.getD i [])=true:=by
 rw [List.all_eq_true] at h
 by_cases hi:i<xs.length
 ·rw [getD_lt [] hi];exact h _ (List.getElem_mem hi)
 ·rw [List.getD_eq_getElem?_getD,List.getElem?_eq_none (by omega)];rfl
theorem noLocals_lift (xs:List (List PV)):(xs.map fun c=>c.map AV.p).all noLocals=true:=by
 rw [List.all_eq_true]
 intro x hx
 obtain ⟨p,_,rfl⟩:=List.mem_map.1 hx
 exact noLocals_p p
theorem noLocalObj_wr {n i j bs:Nat} {new:List AV} {ob ob':AObj} (h:ob.wr n i j bs new=some ob') (ho:noLocalObj ob=true) (hn:noLocals new=true):noLocalObj ob'=true:=by
  cases ob with
  | pcells b xs =>
    simp only [AObj.wr] at h
    split at h
    · split at h <;> simp only [Option.some.injEq] at h <;> subst h
      · rfl
      · refine all_set (noLocals_lift xs) (noLocals_over hn (noLocals_p _))
    · cases h
  | cells b xs =>
    simp only [AObj.wr] at h
    split at h
    · simp only [Option.some.injEq] at h
      subst h
      exact all_set ho (noLocals_over hn (noLocals_getD ho i))
    · cases h
  | _=>simp [AObj.wr] at h
theorem okFor_one {z:Bool} {cs:List AV} (h:okFor z [cs]=true):z=true→noLocals cs=true:=by
 rintro rfl;simpa [okFor] using h
theorem mput_noLocal {kk:Nat} {k:PV} {x:AV} (hx:noLocal x=true):∀ {es:List (PV × AV)},es.all (fun e=>noLocal e.2)=true→(mput kk es k x).all (fun e=>noLocal e.2)=true
  | [],_=>by simp [mput,hx]
  | (a, v) :: l, h => by
    simp only [List.all_cons,Bool.and_eq_true] at h
    simp only [mput]
    split
    · simp [hx];simpa using h.2
    · simp only [List.all_cons,Bool.and_eq_true];exact ⟨h.1,mput_noLocal hx h.2⟩
theorem mdel_noLocal {kk:Nat} {k:PV}:∀ {es:List (PV × AV)},es.all (fun e=>noLocal e.2)=true→(mdel kk es k).all (fun e=>noLocal e.2)=true
  | [],_=>by simp [mdel]
  | (a, v) :: l, h => by
    simp only [List.all_cons,Bool.and_eq_true] at h
    simp only [mdel]
    split
    · exact h.2
    · simp only [List.all_cons,Bool.and_eq_true];exact ⟨h.1,mdel_noLocal h.2⟩
theorem gOk_frz (hg:gOk s.g) {av:AV} {p:PV} {s1:St} (h:frz s av=some (p,s1)):gOk s1.g:=by
 unfold frz at h
 split at h
 ·split at h
  rotate_left
  ·cases h
  split at h
  ·simp only [Option.some.injEq,Prod.mk.injEq] at h
   obtain ⟨_,rfl⟩:=h
   exact gOk_put hg (fun _=>rfl)
  ·cases h
 ·obtain ⟨v,_,h⟩:=Option.map_eq_some_iff.1 h
  simp only [Prod.mk.injEq] at h
  obtain ⟨_,rfl⟩:=h
  exact hg
theorem gOk_hand:∀ {l:List (LOpd × How)} {s:St} {as:List AV} {s':St} {b:Bool},hand s l=some (as,s',b)→gOk s.g→gOk s'.g
  | [], s, as, s', b, h, hg => by
    simp only [hand,Option.some.injEq,Prod.mk.injEq] at h
    obtain ⟨_,rfl,_⟩:=h
    exact hg
  | (x, how) :: l, s, as, s', b, h, hg => by
    cases how with
    | as =>
      simp only [hand] at h
      obtain ⟨⟨as',s1,b1⟩,hh,h⟩:=bk_eq h
      simp only [Option.some.injEq,Prod.mk.injEq] at h
      obtain ⟨rfl,rfl,rfl⟩:=h
      exact gOk_hand hh hg
    | freeze =>
      simp only [hand] at h
      obtain ⟨⟨p,s0⟩,hf,h⟩:=bk_eq h
      obtain ⟨⟨as',s1,b1⟩,hh,h⟩:=bk_eq h
      simp only [Option.some.injEq,Prod.mk.injEq] at h
      obtain ⟨rfl,rfl,rfl⟩:=h
      exact gOk_hand hh (gOk_frz hg hf)
    | look =>
      simp only [hand] at h
      obtain ⟨p,hp,h⟩:=bk_eq h
      obtain ⟨⟨as',s1,b1⟩,hh,h⟩:=bk_eq h
      simp only [Option.some.injEq,Prod.mk.injEq] at h
      obtain ⟨rfl,rfl,rfl⟩:=h
      exact gOk_hand hh hg
    | fresh sz =>
      simp only [hand] at h
      split at h
      rotate_left
      · cases h
      obtain ⟨⟨as',s1,b1⟩,hh,h⟩:=bk_eq h
      simp only [Option.some.injEq,Prod.mk.injEq] at h
      obtain ⟨rfl,rfl,rfl⟩:=h
      refine gOk_hand hh (fun x hx => ?_)
      simp only [List.mem_append,List.mem_singleton] at hx
      rcases hx with hx | rfl
      · exact hg x hx
      · rfl
theorem gOk_owns {z:Bool}:∀ {owns:List (Nat × Nat × Nat)} {s:St} {cs:List AV} {s':St} {cs':List AV},newOwns z s cs owns=some (s',cs')→gOk s.g→(z=true→noLocals cs=true)→gOk s'.g∧(z=true→noLocals cs'=true)
  | [], s, cs, s', cs', h, hg, hc => by
    simp only [newOwns,Option.some.injEq,Prod.mk.injEq] at h
    obtain ⟨rfl,rfl⟩:=h
    exact ⟨hg,hc⟩
  | (c, k, sz) :: r, s, cs, s', cs', h, hg, hc => by
    simp only [newOwns] at h
    obtain ⟨⟨k',s1⟩,hn,h⟩:=bk_eq h
    refine gOk_owns h (gOk_new hg hn (fun _=>rfl)) (fun hz => ?_)
    have:=hc hz
    rw [noLocals_iff] at *
    intro x hx
    rcases List.mem_or_eq_of_mem_set hx with hx | rfl
    · exact this x hx
    · simpa [noLocal] using hz
theorem gOk_appendTo (hg : gOk s.g) {z : Bool} {k n sz bytes : Nat} {ob : AObj} {y av : AV} {s' : St} (h : appendTo s z k n sz bytes ob y = some (av, s')) (ho : z = true → noLocalObj ob = true) : gOk s'.g := by
  unfold appendTo at h
  have oka:∀ {xs ys:List (List AV)},(z=true→xs.all noLocals=true)→okFor z ys=true→z=true→(xs++ys).all noLocals=true:=fun hx hy hz=>by
    subst hz
    simp only [List.all_append,Bool.and_eq_true]
    exact ⟨hx rfl,okFor_true hy⟩
  split at h
  · split at h
    rotate_left
    · cases h
    split at h
    · split at h
      rotate_left
      · cases h
      split at h
      · simp only [Option.some.injEq,Prod.mk.injEq] at h
        obtain ⟨_,rfl⟩:=h
        exact gOk_put hg (fun _=>rfl)
      · split at h
        · rename_i hok
          simp only [Option.some.injEq,Prod.mk.injEq] at h
          obtain ⟨_,rfl⟩:=h
          exact gOk_put hg (oka (fun _=>noLocals_lift _) hok)
        · cases h
    · split at h
      · simp only [Option.some.injEq,Prod.mk.injEq] at h
        obtain ⟨_,rfl⟩:=h
        exact gOk_put hg (fun _=>rfl)
      · cases h
    · split at h
      · simp only [Option.some.injEq,Prod.mk.injEq] at h
        obtain ⟨_,rfl⟩:=h
        exact gOk_put hg (fun _=>rfl)
      · cases h
    · cases h
  · split at h
    rotate_left
    · cases h
    split at h
    · split at h
      · rename_i hok
        simp only [Option.some.injEq,Prod.mk.injEq] at h
        obtain ⟨_,rfl⟩:=h
        exact gOk_put hg (oka ho hok.2.2.2)
      · cases h
    · cases h
  · cases h
theorem bk_eq_iff {α β : Type} {x:Option α} {f : α → Option β} {b : β}:bk x f=some b↔∃ a,x=some a∧f a=some b:=⟨bk_eq,fun ⟨a,h,h'⟩=>by rw [h];exact h'⟩
def LOp.calm:LOp→Bool
 | .move _ | .pick .. | .build .. | .row .. | .load .. | .nilCheck _ | .bin .. | .eq .. | .un .. | .toInt .. | .toBytes _ | .toStr .. | .makeFunc .. | .makeBound .. | .fieldAddr .. | .field .. | .indexAddr .. | .indexArr .. | .index .. | .lookup .. | .extract .. | .len .. | .minI .. | .maxI .. | .stuck | .rcall .. => true
 | .slice b .. => b
 | .pcall _ l=>l.all fun x=>x.2 = .as || x.2 = .look
 | _=>false
theorem hand_calm:∀ {l:List (LOpd × How)} {s:St} {as:List AV} {s':St} {b:Bool},(l.all fun x=>x.2 = .as || x.2 = .look)=true→hand s l=some (as,s',b)→s'=s
  | [], s, as, s', b, _, h => by
    simp only [hand,Option.some.injEq,Prod.mk.injEq] at h
    exact h.2.1.symm
  | (x, how) :: l, s, as, s', b, hc, h => by
    simp only [List.all_cons,Bool.and_eq_true] at hc
    cases how with
    | as =>
      simp only [hand] at h
      obtain ⟨⟨as',s1,b1⟩,hh,h⟩:=bk_eq h
      simp only [Option.some.injEq,Prod.mk.injEq] at h
      obtain ⟨rfl,rfl,rfl⟩:=h
      exact hand_calm hc.2 hh
    | look =>
      simp only [hand] at h
      obtain ⟨p,hp,h⟩:=bk_eq h
      obtain ⟨⟨as',s1,b1⟩,hh,h⟩:=bk_eq h
      simp only [Option.some.injEq,Prod.mk.injEq] at h
      obtain ⟨rfl,rfl,rfl⟩:=h
      exact hand_calm hc.2 hh
    | _=>simp at hc
theorem calm_same {C : Calls'} {op : LOp} (hc : op.calm = true) {av : AV} {s' : St} (h : evalOp C s op = some (av, s')) : s' = s := by
  cases op with
  | stuck=>cases h
  | pcall f l =>
    simp only [evalOp] at h
    obtain ⟨⟨as,s1,b⟩,hh,h⟩:=bk_eq h
    try simp only at h
    split at h
    rotate_left
    · cases h
    obtain ⟨⟨r,g'⟩,_,h⟩:=bk_eq h
    obtain ⟨r',_,h⟩:=bk_eq h
    try simp only at h
    split at h
    · simp only [Option.some.injEq,Prod.mk.injEq] at h
      rw [← h.2]
      exact hand_calm hc hh
    · cases h
  | slice b sz x lo hi =>
    simp only [LOp.calm] at hc
    subst hc
    simp only [evalOp] at h
    split at h
    · obtain ⟨_,_,h⟩:=bk_eq h
      obtain ⟨_,_,h⟩:=bk_eq h
      split at h
      · simp only [Option.some.injEq,Prod.mk.injEq] at h;exact h.2.symm
      · cases h
    · cases h
  | toStr b x =>
    cases b
    · simp only [evalOp] at h
      split at h
      · obtain ⟨_,_,h⟩:=bk_eq h
        simp only [Option.some.injEq,Prod.mk.injEq] at h;exact h.2.symm
      · cases h
    · simp only [evalOp] at h
      split at h
      · simp only [Option.some.injEq,Prod.mk.injEq] at h;exact h.2.symm
      · cases h
  | len k x =>
    rcases k with _ | _ | k <;> simp only [evalOp] at h <;> split at h <;> try split at h
    all_goals first | (simp only [Option.some.injEq,Prod.mk.injEq] at h;exact h.2.symm) | (simp only [reduceCtorEq] at h)
  | _ =>
    first
      | (simp [LOp.calm] at hc;done)
      | (simp only [evalOp] at h
         repeat' (first | (rw [bk_eq_iff] at h;obtain ⟨_,_,h⟩:=h) | (unfold idxAt at h) | split at h)
         all_goals first | (simp only [Option.some.injEq,Prod.mk.injEq] at h;exact h.2.symm) | (simp only [reduceCtorEq] at h))
theorem zeroAV_noLocals : ∀ {zs : List AV} {vs : List Value}, zeroAV zs vs = true → noLocals zs = true
  | [],[],_=>rfl
  | [],_::_,h=>by simp [zeroAV] at h
  | a::l,[],h=>by cases a <;> simp [zeroAV] at h
  | a :: l, b :: r, h => by
    cases a <;> try (simp [zeroAV] at h;done)
    · simp only [zeroAV,Bool.and_eq_true] at h
      simp [noLocals,noLocal,zeroAV_noLocals h.2]
    · have:zeroAV l r=true:=by
        unfold zeroAV at h
        split at h <;> simp_all
      simp [noLocals,noLocal,zeroAV_noLocals this]
theorem alloc_noLocals {z:Bool} {k:Nat} {zero:List AV} {owns:List (Nat × Nat × Nat)} {op:Op} (h:ok_alloc P z k zero owns op=true):noLocals zero=true:=by
 cases op <;> simp [ok_alloc] at h
 have h:=h.1
 split at h
 ·exact zeroAV_noLocals h
 ·cases h
theorem gOk_op {C : Calls'} (hC : ∀ f args g r g', C f args g = some (r, g') → noLocals args = true → gOk g → gOk g') {op : LOp} {o : Op} (hok : opOk P op o = true) (hg : gOk s.g) {av : AV} {s' : St} (h : evalOp C s op = some (av, s')) : gOk s'.g := by
  by_cases hc:op.calm=true
  · rw [calm_same hc h];exact hg
  cases op with
  | nilown z k sz =>
    simp only [evalOp] at h
    obtain ⟨⟨k',s1⟩,hn,h⟩:=bk_eq h
    simp only [Option.some.injEq,Prod.mk.injEq] at h
    obtain ⟨_,rfl⟩:=h
    exact gOk_new hg hn (fun _=>rfl)
  | alloc z k zero owns =>
    have hz:=alloc_noLocals (P:=P) (z:=z) (k:=k) (owns:=owns) (op:=o) (by simpa [opOk] using hok)
    simp only [evalOp] at h
    obtain ⟨⟨s0,zero'⟩,h0,h⟩:=bk_eq h
    obtain ⟨⟨k',s1⟩,hn,h⟩:=bk_eq h
    simp only [Option.some.injEq,Prod.mk.injEq] at h
    obtain ⟨_,rfl⟩:=h
    obtain ⟨g1,g2⟩:=gOk_owns h0 hg (fun _=>hz)
    exact gOk_new g1 hn (fun e=>noLocalObj_objOf (by simp [g2 e]))
  | box z k x =>
    simp only [evalOp] at h
    obtain ⟨cs,hcs,h⟩:=bk_eq h
    split at h
    rotate_left
    · cases h
    rename_i hok
    obtain ⟨⟨k',s1⟩,hn,h⟩:=bk_eq h
    simp only [Option.some.injEq,Prod.mk.injEq] at h
    obtain ⟨_,rfl⟩:=h
    exact gOk_new hg hn (fun e=>noLocalObj_objOf (by simp [okFor_one hok e]))
  | rowOwn z k sz parts =>
    simp only [evalOp] at h
    obtain ⟨cs,hcs,h⟩:=bk_eq h
    split at h
    rotate_left
    · cases h
    rename_i hok
    obtain ⟨⟨k',s1⟩,hn,h⟩:=bk_eq h
    simp only [Option.some.injEq,Prod.mk.injEq] at h
    obtain ⟨_,rfl⟩:=h
    exact gOk_new hg hn (fun e=>noLocalObj_objOf (by subst e;exact okFor_true hok.2))
  | store sz agg a v =>
    simp only [evalOp] at h
    split at h
    rotate_left
    · cases h
    obtain ⟨cs,hcs,h⟩:=bk_eq h
    split at h
    rotate_left
    · cases h
    rename_i z k bs n i j _ hok
    obtain ⟨ob,hob,h⟩:=bk_eq h
    obtain ⟨ob',hob',h⟩:=bk_eq h
    simp only [Option.some.injEq,Prod.mk.injEq] at h
    obtain ⟨_,rfl⟩:=h
    exact gOk_put hg (fun e=>by subst e;exact noLocalObj_wr hob' (gOk_obj hg hob) (okFor_one hok.2 rfl))
  | makeMap z k =>
    simp only [evalOp] at h
    obtain ⟨⟨k',s1⟩,hn,h⟩:=bk_eq h
    simp only [Option.some.injEq,Prod.mk.injEq] at h
    obtain ⟨_,rfl⟩:=h
    exact gOk_new hg hn (fun _=>rfl)
  | makeRow z k sz bytes zero l cp =>
    simp only [evalOp] at h
    obtain ⟨_,_,h⟩:=bk_eq h
    obtain ⟨_,_,h⟩:=bk_eq h
    try simp only at h
    split at h
    rotate_left
    · cases h
    obtain ⟨⟨k',s1⟩,hn,h⟩:=bk_eq h
    simp only [Option.some.injEq,Prod.mk.injEq] at h
    obtain ⟨_,rfl⟩:=h
    exact gOk_new hg hn (fun _=>rfl)
  | slice b sz x lo hi =>
    cases b
    rotate_left
    · exact absurd rfl hc
    simp only [evalOp] at h
    split at h
    · obtain ⟨_,_,h⟩:=bk_eq h
      obtain ⟨_,_,h⟩:=bk_eq h
      split at h
      · simp only [Option.some.injEq,Prod.mk.injEq] at h
        obtain ⟨_,rfl⟩:=h
        exact hg
      · cases h
    · split at h
      · obtain ⟨_,_,h⟩:=bk_eq h
        obtain ⟨_,_,h⟩:=bk_eq h
        split at h
        · simp only [Option.some.injEq,Prod.mk.injEq] at h
          obtain ⟨_,rfl⟩:=h
          exact gOk_put hg (fun _=>rfl)
        · cases h
      · cases h
    · obtain ⟨_,_,h⟩:=bk_eq h
      obtain ⟨_,_,h⟩:=bk_eq h
      obtain ⟨_,_,h⟩:=bk_eq h
      split at h
      · simp only [Option.some.injEq,Prod.mk.injEq] at h
        obtain ⟨_,rfl⟩:=h
        exact hg
      · cases h
    · cases h
  | mapUpdate kk m key v =>
    simp only [evalOp] at h
    split at h
    · split at h
      · rename_i z k _ _ _ es hob
        split at h
        · rename_i hok
          simp only [Option.some.injEq,Prod.mk.injEq] at h
          obtain ⟨_,rfl⟩:=h
          refine gOk_put hg (fun e => ?_)
          subst e
          have:=gOk_obj hg hob
          exact mput_noLocal (by simpa [noLocals] using okFor_one hok.2.2 rfl) this
        · cases h
      · cases h
    · cases h
  | append z k sz bytes x y =>
    simp only [evalOp] at h
    split at h
    · obtain ⟨ob,hob,h⟩:=bk_eq h
      exact gOk_appendTo hg h (fun e=>by subst e;exact gOk_obj hg hob)
    · obtain ⟨⟨k',s1⟩,hn,h⟩:=bk_eq h
      exact gOk_appendTo (gOk_new hg hn (fun _=>rfl)) h (fun _=>rfl)
    · cases h
  | copy sz d x =>
    simp only [evalOp] at h
    split at h
    · obtain ⟨ob,hob,h⟩:=bk_eq h
      split at h
      · split at h
        · simp only [Option.some.injEq,Prod.mk.injEq] at h
          obtain ⟨_,rfl⟩:=h
          exact gOk_put hg (fun _=>rfl)
        · cases h
      · cases h
    · cases h
  | delete kk m key =>
    simp only [evalOp] at h
    split at h
    · split at h
      · rename_i z k _ _ _ es hob
        split at h
        · simp only [Option.some.injEq,Prod.mk.injEq] at h
          obtain ⟨_,rfl⟩:=h
          refine gOk_put hg (fun e => ?_)
          subst e
          have:=gOk_obj hg hob
          exact mdel_noLocal this
        · cases h
      · cases h
    · cases h
  | call f l =>
    simp only [evalOp] at h
    obtain ⟨⟨as,s1,b⟩,hh,h⟩:=bk_eq h
    try simp only at h
    split at h
    rotate_left
    · cases h
    rename_i hcond
    obtain ⟨⟨r,g'⟩,hcall,h⟩:=bk_eq h
    simp only [Option.some.injEq,Prod.mk.injEq] at h
    obtain ⟨_,rfl⟩:=h
    exact hC _ _ _ _ _ hcall hcond.2 (gOk_hand hh hg)
  | callv f l =>
    simp only [evalOp] at h
    split at h
    rotate_right
    · cases h
    all_goals
      obtain ⟨⟨as,s1,b⟩,hh,h⟩:=bk_eq h
      try simp only at h
      split at h
      rotate_left
      · cases h
      rename_i hcond
      obtain ⟨⟨r,g'⟩,hcall,h⟩:=bk_eq h
      simp only [Option.some.injEq,Prod.mk.injEq] at h
      obtain ⟨_,rfl⟩:=h
      exact hC _ _ _ _ _ hcall hcond.2 (gOk_hand hh hg)
  | pcall f l =>
    simp only [evalOp] at h
    obtain ⟨⟨as,s1,b⟩,hh,h⟩:=bk_eq h
    try simp only at h
    split at h
    rotate_left
    · cases h
    obtain ⟨⟨r,g'⟩,_,h⟩:=bk_eq h
    obtain ⟨r',_,h⟩:=bk_eq h
    try simp only at h
    split at h
    · simp only [Option.some.injEq,Prod.mk.injEq] at h
      rw [← h.2]
      exact gOk_hand hh hg
    · cases h
  | _=>exact absurd rfl hc
end
end Go.TA
namespace Go.TA
structure Good (Γ : Ground) (c:Cx) (s:St) (a:Act) (n:Nat):Prop where
 l:s.l=c.l
 g:s.g=c.g
 H:RelH Γ c
 F:RelF c s a
 G:gOk s.g
 N:a.tmps.size=n
 D:a.defers=[]
def guardOk (ops:Array Oper):Option (Nat × Bool)→Option (Nat × Bool)→Bool
 | none,none=>true
 | some (t,b),some (j,b')=>b==b' && (ops[j]?).bind (·.dst)==some t
 | _,_=>false
def dstOk (n:Nat):Option Nat→Bool
 | none=>true
 | some d=>d<n
def operOk (P:Program) (n:Nat) (ops:Array Oper) (x:LOper) (o:Oper):Bool:=opOk P x.op o.op && x.dst==o.dst && guardOk ops x.guard o.guard && dstOk n x.dst
def opersOk (P:Program) (n:Nat) (ops:Array Oper):List LOper→List Oper→Bool
 | [],[]=>true
 | x::l,o::r=>operOk P n ops x o && opersOk P n ops l r
 | _,_=>false
mutual
theorem PV.same_eq:∀ {a b:PV},PV.same a b=true→a=b
 | .bool a,b,h=>by cases b <;> simp [PV.same] at h;rw [h]
 | .int k a,b,h=>by cases b <;> simp [PV.same] at h;rw [h.1,h.2]
 | .str a,b,h=>by cases b <;> simp [PV.same] at h;rw [h]
 | .nilp,b,h=>by cases b <;> simp [PV.same] at h;rfl
 | .nilm,b,h=>by cases b <;> simp [PV.same] at h;rfl
 | .nilf,b,h=>by cases b <;> simp [PV.same] at h;rfl
 | .nili,b,h=>by cases b <;> simp [PV.same] at h;rfl
 | .list a,b,h=>by cases b <;> simp [PV.same] at h;rw [PV.sameLL_eq h]
 | .agg a,b,h=>by cases b <;> simp [PV.same] at h;rw [PV.sameL_eq h]
theorem PV.sameL_eq:∀ {a b:List PV},PV.sameL a b=true→a=b
  | [],b,h=>by cases b <;> simp [PV.sameL] at h;rfl
  | a :: l, b, h => by
    cases b <;> simp [PV.sameL] at h
    rw [PV.same_eq h.1,PV.sameL_eq h.2]
theorem PV.sameLL_eq:∀ {a b:List (List PV)},PV.sameLL a b=true→a=b
  | [],b,h=>by cases b <;> simp [PV.sameLL] at h;rfl
  | a :: l, b, h => by
    cases b <;> simp [PV.sameLL] at h
    rw [PV.sameL_eq h.1,PV.sameLL_eq h.2]
end
mutual
theorem AV.same_eq:∀ {a b:AV},AV.same a b=true→a=b
 | .bot,b,h=>by cases b <;> simp [AV.same] at h;rfl
 | .p a,b,h=>by cases b <;> simp [AV.same] at h;rw [PV.same_eq h]
 | .rop a,b,h=>by cases b <;> simp [AV.same] at h;rw [PV.sameL_eq h]
 | .ptr z k sz n i j,b,h=>by cases b <;> simp [AV.same] at h;simp [h]
 | .own z k n,b,h=>by cases b <;> simp [AV.same] at h;simp [h]
 | .nils,b,h=>by cases b <;> simp [AV.same] at h;rfl
 | .lit a,b,h=>by cases b <;> simp [AV.same] at h;rw [AV.sameLL_eq h]
 | .map z k,b,h=>by cases b <;> simp [AV.same] at h;simp [h]
 | .func f a,b,h=>by cases b <;> simp [AV.same] at h;rw [h.1,AV.sameL_eq h.2]
 | .bound f a,b,h=>by cases b <;> simp [AV.same] at h;rw [h.1,AV.sameL_eq h.2]
 | .agg a,b,h=>by cases b <;> simp [AV.same] at h;rw [AV.sameL_eq h]
 | .tuple a,b,h=>by cases b <;> simp [AV.same] at h;rw [AV.sameL_eq h]
theorem AV.sameL_eq:∀ {a b:List AV},AV.sameL a b=true→a=b
  | [],b,h=>by cases b <;> simp [AV.sameL] at h;rfl
  | a :: l, b, h => by
    cases b <;> simp [AV.sameL] at h
    rw [AV.same_eq h.1,AV.sameL_eq h.2]
theorem AV.sameLL_eq:∀ {a b:List (List AV)},AV.sameLL a b=true→a=b
  | [],b,h=>by cases b <;> simp [AV.sameLL] at h;rfl
  | a :: l, b, h => by
    cases b <;> simp [AV.sameLL] at h
    rw [AV.sameL_eq h.1,AV.sameLL_eq h.2]
end
theorem sameP_eq:∀ {a b:List (PV × AV)},sameP a b=true→a=b
  | [],b,h=>by cases b <;> simp [sameP] at h;rfl
  | (a, v) :: l, b, h => by
    cases b with
    | nil=>simp [sameP] at h
    | cons x r =>
      simp [sameP] at h
      obtain ⟨⟨h1,h2⟩,h3⟩:=h
      have e1:=PV.same_eq h1
      have e2:=AV.same_eq h2
      rw [e1,e2,sameP_eq h3]
theorem AObj.same_eq:∀ {a b:AObj},AObj.same a b=true→a=b
 | .dead,b,h=>by cases b <;> simp [AObj.same] at h;rfl
 | .pcells ..,b,h=>by cases b <;> simp [AObj.same] at h;rw [h.1,PV.sameLL_eq h.2]
 | .cells ..,b,h=>by cases b <;> simp [AObj.same] at h;rw [h.1,AV.sameLL_eq h.2]
 | .map ..,b,h=>by cases b <;> simp [AObj.same] at h;rw [sameP_eq h]
 | .siter ..,b,h=>by cases b <;> simp [AObj.same] at h;rw [h.1,h.2]
theorem sameG_eq:∀ {a b:List AObj},sameG a b=true→a=b
  | [],b,h=>by cases b <;> simp [sameG] at h;rfl
  | a :: l, b, h => by
    cases b <;> simp [sameG] at h
    rw [AObj.same_eq h.1,sameG_eq h.2]
mutual
theorem PV.same_self:∀ a:PV,PV.same a a=true
 | .bool a=>by simp [PV.same]
 | .int k a=>by simp [PV.same]
 | .str a=>by simp [PV.same]
 | .nilp=>rfl
 | .nilm=>rfl
 | .nilf=>rfl
 | .nili=>rfl
 | .list a=>by simp [PV.same,PV.sameLL_self a]
 | .agg a=>by simp [PV.same,PV.sameL_self a]
theorem PV.sameL_self:∀ a:List PV,PV.sameL a a=true
 | []=>rfl
 | a::l=>by simp [PV.sameL,PV.same_self a,PV.sameL_self l]
theorem PV.sameLL_self:∀ a:List (List PV),PV.sameLL a a=true
 | []=>rfl
 | a::l=>by simp [PV.sameLL,PV.sameL_self a,PV.sameLL_self l]
end
mutual
theorem AV.same_self:∀ a:AV,AV.same a a=true
 | .bot=>rfl
 | .p a=>by simp [AV.same,PV.same_self a]
 | .rop a=>by simp [AV.same,PV.sameL_self a]
 | .ptr .. => by simp [AV.same]
 | .own .. => by simp [AV.same]
 | .nils=>rfl
 | .lit a=>by simp [AV.same,AV.sameLL_self a]
 | .map .. => by simp [AV.same]
 | .func _ a=>by simp [AV.same,AV.sameL_self a]
 | .bound _ a=>by simp [AV.same,AV.sameL_self a]
 | .agg a=>by simp [AV.same,AV.sameL_self a]
 | .tuple a=>by simp [AV.same,AV.sameL_self a]
theorem AV.sameL_self:∀ a:List AV,AV.sameL a a=true
 | []=>rfl
 | a::l=>by simp [AV.sameL,AV.same_self a,AV.sameL_self l]
theorem AV.sameLL_self:∀ a:List (List AV),AV.sameLL a a=true
 | []=>rfl
 | a::l=>by simp [AV.sameLL,AV.sameL_self a,AV.sameLL_self l]
end
theorem sameP_self:∀ a:List (PV × AV),sameP a a=true
 | []=>rfl
 | (a,v)::l=>by simp [sameP,PV.same_self a,AV.same_self v,sameP_self l]
theorem AObj.same_self:∀ a:AObj,AObj.same a a=true
 | .dead=>rfl
 | .pcells _ a=>by simp [AObj.same,PV.sameLL_self a]
 | .cells _ a=>by simp [AObj.same,AV.sameLL_self a]
 | .map a=>by simp [AObj.same,sameP_self a]
 | .siter .. => by simp [AObj.same]
theorem sameG_self:∀ a:List AObj,sameG a a=true
 | []=>rfl
 | a::l=>by simp [sameG,AObj.same_self a,sameG_self l]
section
variable {P:Program} {Γ : Ground} {c:Cx} {s:St} {a:Act} {n:Nat}
theorem hand_as (s:St):∀ l:List LOpd,hand s (l.map fun x=>(x,How.as))=some (l.map s.arg,s,false)
 | []=>rfl
 | x::l=>by simp only [List.map_cons,hand,hand_as s l,bk_some]
theorem does_rcall {C:Calls'} (hC:SoundC P Γ C) {ρ : Operand→Value} {o:Oper} (hl:s.l=c.l) (hg:s.g=c.g) (hH:RelH Γ c) (hρ : RhoA c s ρ) {f:Nat} {l:List LOpd} (hok:ok_rcall f l o.op=true) {av:AV} {s':St} (h:evalOp C s (.rcall f l)=some (av,s')) (hgo:gOk s.g) :
  Does P ρ o c.w (Ans Γ c s'.l s'.g av):=by
 simp only [evalOp] at h
 split at h
 rotate_left
 ·cases h
 rename_i hno
 obtain ⟨⟨r,g'⟩,hc,h⟩:=bk_eq h
 simp only at h
 split at h
 rotate_left
 ·cases h
 rename_i hs
 simp only [Option.some.injEq,Prod.mk.injEq] at h
 obtain ⟨rfl,rfl⟩:=h
 have e:=sameG_eq hs
 subst e
 have h2:evalOp C s (.call f (l.map fun x=>(x,How.as)))=some (r,s):=by
  simp only [evalOp,hand_as,bk_some,hno,and_self,if_true,hc]
 exact does_call hC hl hg hH hρ hok h2 (fun hh=>gOk_hand hh hgo)
theorem does_op {C:Calls'} (hC:SoundC P Γ C) {ρ : Operand→Value} {o:Oper} {op:LOp} (hok:opOk P op o.op=true) (hl:s.l=c.l) (hg:s.g=c.g) (hH:RelH Γ c) (hρ : RhoA c s ρ) (hgo:gOk s.g) {av:AV} {s':St} (h:evalOp C s op=some (av,s')) :
  Does P ρ o c.w (Ans Γ c s'.l s'.g av):=by
 cases op <;> simp only [opOk] at hok
 case move=>exact does_move hl hg hH hρ.1 hok h
 case nilown=>exact does_nilown hl hg hH hρ.2 hok h
 case pick=>exact does_pick hl hg hH hρ.1 hok h
 case alloc=>exact does_alloc hl hg hH hok h
 case box=>exact does_box hl hg hH hρ.1 hok h
 case build=>exact does_build hl hg hH hρ.1 hok h
 case row=>exact does_row hl hg hH hρ.1 hok h
 case rowOwn=>exact does_rowOwn hl hg hH hρ.1 hok h
 case load=>exact does_load hl hg hH hρ.1 hok h
 case store=>exact does_store hl hg hH hρ.1 hok h
 case nilCheck=>exact does_nilCheck hl hg hH hρ.1 hok h
 case bin=>exact does_bin hl hg hH hρ.1 hok h
 case eq=>exact does_eq hl hg hH hρ hok h
 case un=>exact does_un hl hg hH hρ.1 hok h
 case toInt=>exact does_toInt hl hg hH hρ.1 hok h
 case toBytes=>exact does_toBytes hl hg hH hρ.1 hok h
 case toStr=>exact does_toStr hl hg hH hρ.1 hok h
 case makeFunc=>exact does_makeFunc hl hg hH hρ.1 hok h
 case makeBound=>exact does_makeBound hl hg hH hρ.1 hok h
 case makeMap=>exact does_makeMap hl hg hH hρ.2 hok h
 case makeRow=>exact does_makeRow hl hg hH hρ.1 hok h
 case slice=>exact does_slice hl hg hH hρ.1 hok h
 case fieldAddr=>exact does_fieldAddr hl hg hH hρ.1 hok h
 case field=>exact does_field hl hg hH hρ.1 hok h
 case indexAddr=>exact does_indexAddr hl hg hH hρ.1 hok h
 case indexArr=>exact does_indexArr hl hg hH hρ.1 hok h
 case index=>exact does_index hl hg hH hρ.1 hok h
 case lookup=>exact does_lookup hl hg hH hρ.1 hok h
 case mapUpdate=>exact does_mapUpdate hl hg hH hρ.1 hok h
 case extract=>exact does_extract hl hg hH hρ.1 hok h
 case len=>exact does_len hl hg hH hρ.1 hok h
 case append=>exact does_append hl hg hH hρ.1 hok h
 case copy=>exact does_copy hl hg hH hρ.1 hok h
 case minI=>exact does_min hl hg hH hρ.1 hok h
 case maxI=>exact does_max hl hg hH hρ.1 hok h
 case delete=>exact does_delete hl hg hH hρ.1 hok h
 case call=>exact does_call hC hl hg hH hρ hok h (fun hh=>gOk_hand hh hgo)
 case callv=>exact does_callv hC hl hg hH hρ hok h (fun hh=>gOk_hand hh hgo)
 case pcall=>exact does_pcall hC hl hg hH hρ hok h
 case rcall=>exact does_rcall hC hl hg hH hρ hok h hgo
 case stuck=>cases h
theorem rhoA (P:Program) (hF:RelF c s a):RhoA c s a.eval:=⟨fun _ _ h=>opd_rel P hF h,fun _=>rfl⟩
theorem get_set (s:St) (d t:Nat) (v:AV):(s.set d v).get t=if t=d then v else s.get t:=by
 simp only [St.get,St.set,lk]
 cases e:(d==t)
 ·have:t≠d:=fun h=>by subst h;simp at e
  simp [this]
 ·have:t=d:=(beq_iff_eq.1 e).symm
  simp [this,orBot]
theorem opt_l (s:St) (d:Option Nat) (v:AV):(opt' s d v).l=s.l:=by cases d <;> rfl
theorem opt_g (s:St) (d:Option Nat) (v:AV):(opt' s d v).g=s.g:=by cases d <;> rfl
theorem relF_put (hF:RelF c s a) {dst:Option Nat} (hd:dstOk a.tmps.size dst=true) {av:AV} {v:Value} (hv:RelV c av v):RelF c (opt' s dst av) (a.put dst v):=by
  cases dst with
  | none=>exact hF
  | some d =>
    intro t
    simp only [dstOk,decide_eq_true_eq] at hd
    simp only [opt',get_set,Act.put]
    by_cases e:t=d
    · subst e
      simp [hd,hv]
    · have e':¬ d=t:=fun h=>e h.symm
      have:=hF t
      simp only [e,if_false]
      simpa [Array.getElem?_setIfInBounds,e'] using this
theorem put_size (a:Act) (d:Option Nat) (v:Value):(a.put d v).tmps.size=a.tmps.size:=by cases d <;> simp [Act.put]
theorem put_defers' (a:Act) (d:Option Nat) (v:Value):(a.put d v).defers=a.defers:=by cases d <;> rfl
theorem hand_fr : ∀ {l : List (LOpd × How)} {s : St} {as : List AV} {s' : St} {b : Bool}, hand s l = some (as, s', b) → s'.fr = s.fr
  | [], s, as, s', b, h => by
    simp only [hand,Option.some.injEq,Prod.mk.injEq] at h
    rw [h.2.1]
  | (x, how) :: l, s, as, s', b, h => by
    cases how with
    | as =>
      simp only [hand] at h
      obtain ⟨⟨as',s1,b1⟩,hh,h⟩:=bk_eq h
      simp only [Option.some.injEq,Prod.mk.injEq] at h
      obtain ⟨rfl,rfl,rfl⟩:=h
      exact hand_fr hh
    | freeze =>
      simp only [hand] at h
      obtain ⟨⟨p,s0⟩,hf,h⟩:=bk_eq h
      obtain ⟨⟨as',s1,b1⟩,hh,h⟩:=bk_eq h
      simp only [Option.some.injEq,Prod.mk.injEq] at h
      obtain ⟨rfl,rfl,rfl⟩:=h
      rw [hand_fr hh]
      unfold frz at hf
      split at hf
      · split at hf
        · split at hf
          · simp only [Option.some.injEq,Prod.mk.injEq] at hf
            obtain ⟨_,rfl⟩:=hf
            unfold St.putObj;split <;> rfl
          · cases hf
        · cases hf
      · obtain ⟨v,_,hf⟩:=Option.map_eq_some_iff.1 hf
        simp only [Prod.mk.injEq] at hf
        rw [← hf.2]
    | look =>
      simp only [hand] at h
      obtain ⟨p,hp,h⟩:=bk_eq h
      obtain ⟨⟨as',s1,b1⟩,hh,h⟩:=bk_eq h
      simp only [Option.some.injEq,Prod.mk.injEq] at h
      obtain ⟨rfl,rfl,rfl⟩:=h
      exact hand_fr hh
    | fresh sz =>
      simp only [hand] at h
      split at h
      rotate_left
      · cases h
      obtain ⟨⟨as',s1,b1⟩,hh,h⟩:=bk_eq h
      simp only [Option.some.injEq,Prod.mk.injEq] at h
      obtain ⟨rfl,rfl,rfl⟩:=h
      rw [hand_fr hh]
theorem newObj_fr {z:Bool} {k k':Nat} {ob:AObj} {s':St} (h:s.newObj z k ob=some (k',s')):s'.fr=s.fr:=by
 unfold St.newObj at h
 split at h
 ·simp only [Option.some.injEq,Prod.mk.injEq] at h;rw [← h.2]
 ·split at h
  ·simp only [Option.some.injEq,Prod.mk.injEq] at h;rw [← h.2]
  ·cases h
theorem putObj_fr {z:Bool} {k:Nat} {ob:AObj}:(s.putObj z k ob).fr=s.fr:=by unfold St.putObj;split <;> rfl
theorem owns_fr {z:Bool}:∀ {owns:List (Nat × Nat × Nat)} {s:St} {cs:List AV} {s':St} {cs':List AV},newOwns z s cs owns=some (s',cs')→s'.fr=s.fr
  | [], s, cs, s', cs', h => by
    simp only [newOwns,Option.some.injEq,Prod.mk.injEq] at h
    rw [h.1]
  | (c, k, sz) :: r, s, cs, s', cs', h => by
    simp only [newOwns] at h
    obtain ⟨⟨k',s1⟩,hn,h⟩:=bk_eq h
    rw [owns_fr h,newObj_fr hn]
theorem appendTo_fr {z:Bool} {k n sz bytes:Nat} {ob:AObj} {y av:AV} {s':St} (h:appendTo s z k n sz bytes ob y=some (av,s')):s'.fr=s.fr:=by
 unfold appendTo at h
 repeat' split at h
 all_goals first | (simp only [reduceCtorEq] at h;done) | (simp only [Option.some.injEq,Prod.mk.injEq] at h;rw [← h.2,putObj_fr])
theorem eval_fr {C : Calls'} {op : LOp} {av : AV} {s' : St} (h : evalOp C s op = some (av, s')) : s'.fr = s.fr := by
  by_cases hc:op.calm=true
  · rw [calm_same hc h]
  cases op with
  | alloc z k zero owns =>
    simp only [evalOp] at h
    obtain ⟨⟨s0,zero'⟩,h0,h⟩:=bk_eq h
    obtain ⟨⟨k',s1⟩,hn,h⟩:=bk_eq h
    simp only [Option.some.injEq,Prod.mk.injEq] at h
    rw [← h.2,newObj_fr hn,owns_fr h0]
  | append z k sz bytes x y =>
    simp only [evalOp] at h
    split at h
    · obtain ⟨ob,hob,h⟩:=bk_eq h
      exact appendTo_fr h
    · obtain ⟨⟨k',s1⟩,hn,h⟩:=bk_eq h
      rw [appendTo_fr h,newObj_fr hn]
    · cases h
  | slice b sz x lo hi =>
    cases b
    rotate_left
    · exact absurd rfl hc
    simp only [evalOp] at h
    split at h
    · obtain ⟨_,_,h⟩:=bk_eq h
      obtain ⟨_,_,h⟩:=bk_eq h
      split at h
      · simp only [Option.some.injEq,Prod.mk.injEq] at h;rw [← h.2]
      · cases h
    · split at h
      · obtain ⟨_,_,h⟩:=bk_eq h
        obtain ⟨_,_,h⟩:=bk_eq h
        split at h
        · simp only [Option.some.injEq,Prod.mk.injEq] at h;rw [← h.2,putObj_fr]
        · cases h
      · cases h
    · obtain ⟨_,_,h⟩:=bk_eq h
      obtain ⟨_,_,h⟩:=bk_eq h
      obtain ⟨_,_,h⟩:=bk_eq h
      split at h
      · simp only [Option.some.injEq,Prod.mk.injEq] at h;rw [← h.2]
      · cases h
    · cases h
  | call f l =>
    simp only [evalOp] at h
    obtain ⟨⟨as,s1,b⟩,hh,h⟩:=bk_eq h
    try simp only at h
    split at h
    rotate_left
    · cases h
    obtain ⟨⟨r,g'⟩,hcall,h⟩:=bk_eq h
    simp only [Option.some.injEq,Prod.mk.injEq] at h
    rw [← h.2]
    exact (hand_fr hh :)
  | callv f l =>
    simp only [evalOp] at h
    split at h
    rotate_right
    · cases h
    all_goals
      obtain ⟨⟨as,s1,b⟩,hh,h⟩:=bk_eq h
      try simp only at h
      split at h
      rotate_left
      · cases h
      obtain ⟨⟨r,g'⟩,hcall,h⟩:=bk_eq h
      simp only [Option.some.injEq,Prod.mk.injEq] at h
      rw [← h.2]
      exact (hand_fr hh :)
  | pcall f l =>
    simp only [evalOp] at h
    obtain ⟨⟨as,s1,b⟩,hh,h⟩:=bk_eq h
    try simp only at h
    split at h
    rotate_left
    · cases h
    obtain ⟨⟨r,g'⟩,_,h⟩:=bk_eq h
    obtain ⟨r',_,h⟩:=bk_eq h
    try simp only at h
    split at h
    · simp only [Option.some.injEq,Prod.mk.injEq] at h
      rw [← h.2]
      exact hand_fr hh
    · cases h
  | _ =>
    first
      | exact absurd rfl hc
      | (simp only [evalOp] at h
         repeat' (first | (rw [bk_eq_iff] at h;obtain ⟨⟨_,_⟩,hn,h⟩:=h;have:=newObj_fr hn) | (rw [bk_eq_iff] at h;obtain ⟨_,_,h⟩:=h) | split at h)
         all_goals first | (simp only [reduceCtorEq] at h;done) | (simp only [Option.some.injEq,Prod.mk.injEq] at h;rw [← h.2];first | assumption | exact putObj_fr))
theorem good_put (hg:Good Γ c s a n) {c':Cx} {s':St} (hE:Evolve c c') (hH:RelH Γ c') (hl:c'.l=s'.l) (hgg:c'.g=s'.g) (hfr:s'.fr=s.fr) (hgo:gOk s'.g) {dst:Option Nat} (hd:dstOk n dst=true) {av:AV} {v:Value} (hv:RelV c' av v) :
    Good Γ c' (opt' s' dst av) (a.put dst v) n where
  l:=by rw [opt_l,hl]
  g:=by rw [opt_g,hgg]
  H:=hH
  F := by
    refine relF_put (fun t => ?_) (by rw [hg.N];exact hd) hv
    have:s'.get t=s.get t:=by simp [St.get,hfr]
    rw [this]
    exact hE.relV (hg.F t)
  G:=by rw [opt_g];exact hgo
  N:=by rw [put_size];exact hg.N
  D:=by rw [put_defers'];exact hg.D
theorem oper_rel {C:Calls'} (hC:SoundC P Γ C) (hg:Good Γ c s a n) {op:LOp} {o:Oper} (hok:opOk P op o.op=true) (hd:dstOk n o.dst=true) {av:AV} {s':St} (h:evalOp C s op=some (av,s'))
  {K:Act→World→Prop} {Q:Exit→Act→World→Prop} (hK:∀ c' v,Good Γ c' (opt' s' o.dst av) (a.put o.dst v) n→Evolve c c'→c'.l=s'.l→c'.g=s'.g→RelV c' av v→K (a.put o.dst v) c'.w):o.wp P a c.w K Q:=by
 refine Does.wp (does_op hC hok hg.l hg.g hg.H (rhoA P hg.F) hg.G h) (fun v w' hR => ?_)
 obtain ⟨c',h1,h2,rfl,h4,h5,h6⟩:=hR
 have hgo:gOk s'.g:=gOk_op (fun f args g r g' h1 h2 h3=>(hC f args g r g' h1 h2 h3).2.1) hok hg.G h
 exact hK c' v (good_put hg h4 h5 h1 h2 (eval_fr h) hgo hd h6) h4 h1 h2 h6
theorem yielded_of {ops:Array Oper} {j t:Nat} (h:(ops[j]?).bind (·.dst)=some t) (hg:Good Γ c s a n) {b:Bool} (hv:s.get t = .p (.bool b)):yielded ops a.tmps j=some b:=by
 have h1:=hg.F t
 rw [hv] at h1
 have h1:=relV_bool h1
 have:a.tmps[t]? = some (.bool b):=by
  rw [Array.getD_eq_getD_getElem?] at h1
  cases e:a.tmps[t]? with
  | none=>rw [e] at h1;simp [undef] at h1
  | some v=>rw [e] at h1;simp at h1;rw [h1]
 simp [yielded,h,this]
theorem yielded_none {ops:Array Oper} {j t:Nat} (h:(ops[j]?).bind (·.dst)=some t) (hg:Good Γ c s a n) {l:List AV} (hv:s.get t = .tuple l):yielded ops a.tmps j=none:=by
 have h1:=hg.F t
 rw [hv] at h1
 obtain ⟨vs,h1,_⟩:=rUndef_inv h1
 have:a.tmps[t]? = none∨∃ l,a.tmps[t]? = some (.tuple l):=by
  rw [Array.getD_eq_getD_getElem?] at h1
  cases e:a.tmps[t]? with
  | none=>exact .inl rfl
  | some v=>rw [e] at h1;simp at h1;exact .inr ⟨_,by rw [h1]⟩
 rcases this with this | ⟨l,this⟩ <;> simp [yielded,h,this]
theorem Good.known (hg:Good Γ c s a n) {t:Nat} {v:AV} (hv:s.get t=v):Good Γ c (s.set t v) a n where
  l:=hg.l
  g:=hg.g
  H:=hg.H
  F u := by
    rw [get_set]
    split
    · rename_i e;subst e;rw [← hv];exact hg.F u
    · exact hg.F u
  G:=hg.G
  N:=hg.N
  D:=hg.D
theorem step_rel {C : Calls'} (hC : SoundC P Γ C) {ops : Array Oper} (hg : Good Γ c s a n) {x : LOper} {o : Oper} (hok : operOk P n ops x o = true) {s' : St} (h : stepOp C x s = some s')
    {K:Act→World→Prop} {Q:Exit→Act→World→Prop} (hK:∀ c' a',Good Γ c' s' a' n→Evolve c c'→K a' c'.w):if Region.wanted o (yielded ops a.tmps) then o.wp P a c.w K Q else K (a.put o.dst undef) c.w:=by
  simp only [operOk,Bool.and_eq_true,beq_iff_eq] at hok
  obtain ⟨⟨⟨h1,h2⟩,h3⟩,h4⟩:=hok
  rw [h2] at h4
  have run:∀ {s0:St},Good Γ c s0 a n→be (evalOp C s0 x.op) x.dst=some s'→o.wp P a c.w K Q:=by
    intro s0 hg0 hbe
    unfold be at hbe
    obtain ⟨⟨av,s1⟩,hev,hp⟩:=Option.bind_eq_some_iff.1 hbe
    simp only [putK,Option.some.injEq] at hp
    subst hp
    refine oper_rel hC hg0 h1 h4 hev (fun c' v hgood hE _ _ _ => ?_)
    rw [← h2] at hgood ⊢
    exact hK c' _ hgood hE
  have skip:∀ {s0:St},Good Γ c s0 a n→s'=opt' s0 x.dst (.tuple [])→K (a.put o.dst undef) c.w:=by
    intro s0 hg0 e
    subst e
    rw [← h2]
    rw [← h2] at h4
    exact hK c _ (good_put hg0 (Evolve.refl c) hg0.H hg0.l.symm hg0.g.symm rfl hg0.G h4 rUndef) (Evolve.refl c)
  unfold stepOp at h
  split at h
  · rename_i hn
    rw [hn] at h3
    have hgn:o.guard=none:=by
      cases e:o.guard with
      | none=>rfl
      | some q=>rw [e] at h3;simp [guardOk] at h3
    simp only [Region.wanted,hgn,if_true]
    exact run hg h
  · rename_i t b hs
    rw [hs] at h3
    cases e:o.guard with
    | none=>rw [e] at h3;simp [guardOk] at h3
    | some q =>
      obtain ⟨j,b'⟩:=q
      rw [e] at h3
      simp only [guardOk,Bool.and_eq_true,beq_iff_eq] at h3
      obtain ⟨rfl,hj⟩:=h3
      simp only [Region.wanted,e]
      unfold guardK at h
      split at h
      · rename_i cb hv
        rw [yielded_of hj hg hv]
        split at h
        · rename_i hcb
          subst hcb
          simp only [beq_self_eq_true,if_true]
          exact run (hg.known hv) h
        · rename_i hcb
          have hcb':cb = !b:=by cases cb <;> cases b <;> simp_all
          have:(some cb==some b)=false:=by simpa using hcb
          simp only [this,Bool.false_eq_true,if_false]
          simp only [Option.some.injEq] at h
          exact skip (hg.known (t:=t) (v:=.p (.bool !b)) (by rw [hv,hcb'])) h.symm
      · rename_i l hv
        rw [yielded_none hj hg hv]
        have:((none:Option Bool)==some b)=false:=rfl
        simp only [this,Bool.false_eq_true,if_false]
        simp only [Option.some.injEq] at h
        exact skip hg h.symm
      · cases h
theorem runOps_rel {C:Calls'} (hC:SoundC P Γ C) {ops:Array Oper} {Q:Exit→Act→World→Prop}:∀ {xs:List LOper} {os:List Oper} {c:Cx} {s s':St} {a:Act},opersOk P n ops xs os=true→Good Γ c s a n→runOps C xs s=some s' →
    (∀ c' a',Good Γ c' s' a' n→Evolve c c'→Q .normal a' c'.w)→wpList P ops Q os a c.w
  | [], [], c, s, s', a, _, hg, h, hQ => by
    simp only [runOps,Option.some.injEq] at h
    subst h
    exact hQ c a hg (Evolve.refl c)
  | [],_::_,c,s,s',a,hok,_,_,_=>by simp [opersOk] at hok
  | _::_,[],c,s,s',a,hok,_,_,_=>by simp [opersOk] at hok
  | x :: xs, o :: os, c, s, s', a, hok, hg, h, hQ => by
    simp only [opersOk,Bool.and_eq_true] at hok
    simp only [runOps] at h
    obtain ⟨s1,h1,h2⟩:=Option.bind_eq_some_iff.1 h
    have:=step_rel (Q:=Q) (K:=wpList P ops Q os) hC hg hok.1 h1 (fun c' a' hg' hE=>runOps_rel hC hok.2 hg' h2 (fun c2 a2 hg2 hE2=>hQ c2 a2 hg2 (hE.trans hE2)))
    unfold wpList
    split
    · rename_i hw;rw [if_pos hw] at this;exact .inl this
    · rename_i hw;rw [if_neg hw] at this;exact this
end
end Go.TA
namespace Go.TA
def LOpd.uses:LOpd→List Nat
 | .t n=>[n]
 | _=>[]
def optUses:Option LOpd→List Nat
 | some x=>x.uses
 | none=>[]
def LOp.uses:LOp→List Nat
 | .move x | .box _ _ x | .load _ _ x | .nilCheck x | .un _ x | .toInt _ x | .toBytes x | .toStr _ x | .fieldAddr _ x | .field _ _ _ x | .extract x _ | .len _ x=>x.uses
 | .rcall _ l=>l.flatMap LOpd.uses
 | .pick c a b=>c.uses++a.uses++b.uses
 | .nilown .. | .alloc .. | .makeMap .. | .stuck=>[]
 | .build _ parts=>parts.flatMap fun p=>p.2.2.uses
 | .row _ parts | .rowOwn _ _ _ parts=>parts.flatMap LOpd.uses
 | .store _ _ a v=>a.uses++v.uses
 | .bin _ x y | .eq _ _ x y | .indexAddr _ x y | .indexArr _ _ x y | .index x y | .append _ _ _ _ x y | .copy _ x y | .minI x y | .maxI x y | .delete _ x y=>x.uses++y.uses
 | .makeFunc _ caps=>caps.flatMap LOpd.uses
 | .makeBound _ caps=>caps.flatMap LOpd.uses
 | .makeRow _ _ _ _ _ x y=>x.uses++y.uses
 | .slice _ _ x lo hi=>x.uses++optUses lo++optUses hi
 | .lookup _ _ _ m k=>m.uses++k.uses
 | .mapUpdate _ m k v=>m.uses++k.uses++v.uses
 | .call _ l | .pcall _ l=>l.flatMap fun p=>p.1.uses
 | .callv f l=>f.uses++l.flatMap fun p=>p.1.uses
def St.rf (s:St) (fr:List (Nat × AV)):St:=⟨fr,s.l,s.g⟩
theorem map_bk {α β γ : Type} {x:Option α} {f : α → Option β} {g : β → γ}:(bk x f).map g=bk x fun a=>(f a).map g:=by cases x <;> rfl
theorem bk_ext {α β : Type} {x:Option α} {f f' : α → Option β} (h:∀ a,f a=f' a):bk x f=bk x f':=by
 cases x with
 | none=>rfl
 | some a=>exact h a
theorem bk_map {α β γ : Type} {x:Option α} {g : α → β} {f : β → Option γ}:bk (x.map g) f=bk x fun a=>f (g a):=by cases x <;> rfl
section
variable {s:St} {fr:List (Nat × AV)}
theorem rf_arg {x:LOpd} (h:∀ t ∈ x.uses,(s.rf fr).get t=s.get t):(s.rf fr).arg x=s.arg x:=by
 cases x with
 | t n=>exact h n (by simp [LOpd.uses])
 | c v=>rfl
 | f n=>rfl
theorem rf_obj (z:Bool) (k:Nat):(s.rf fr).obj z k=s.obj z k:=rfl
theorem rf_put (z:Bool) (k:Nat) (o:AObj):(s.rf fr).putObj z k o=(s.putObj z k o).rf fr:=by cases z <;> rfl
theorem rf_new (z:Bool) (k:Nat) (o:AObj):(s.rf fr).newObj z k o=(s.newObj z k o).map fun r=>(r.1,r.2.rf fr):=by
 unfold St.newObj St.rf
 cases z
 ·simp only [Bool.false_eq_true,if_false]
  split <;> rfl
 ·rfl
theorem allM_congr {α β : Type} {f g : α → Option β} (h:∀ a,f a=g a):∀ l,allM f l=allM g l
 | []=>rfl
 | a::l=>by simp only [allM,h a,allM_congr h l]
theorem rf_view:∀ (d:Nat) (v:AV),view (s.rf fr) d v=view s d v
  | 0,v=>by cases v <;> rfl
  | d + 1, v => by
    have ih:=rf_view d
    have h1:=allM_congr (f:=view (s.rf fr) d) (g:=view s d) ih
    have h2:=allM_congr (f:=allM (view (s.rf fr) d)) (g:=allM (view s d)) h1
    cases v <;> simp only [view,rf_obj,h1,h2]
theorem rf_frz (v:AV):frz (s.rf fr) v=(frz s v).map fun r=>(r.1,r.2.rf fr):=by
 unfold frz
 split
 ·simp only [rf_obj,rf_put]
  split
  ·split <;> rfl
  ·rfl
 ·rw [Option.map_map];rfl
theorem rf_hand : ∀ (l : List (LOpd × How)) (s : St), (∀ t ∈ l.flatMap fun p => p.1.uses, (s.rf fr).get t = s.get t) → hand (s.rf fr) l = (hand s l).map fun r => (r.1, r.2.1.rf fr, r.2.2)
  | [],s,_=>rfl
  | (x, how) :: l, s, h => by
    have hx:=rf_arg (s:=s) (fr:=fr) (x:=x) (fun t ht=>h t (by simp [ht]))
    have hl:∀ t ∈ l.flatMap fun p=>p.1.uses,(s.rf fr).get t=s.get t:=fun t ht=>h t (by simp only [List.flatMap_cons,List.mem_append];exact .inr ht)
    cases how with
    | as=>simp only [hand,hx,rf_hand l s hl,bk_map,map_bk];exact bk_ext fun _=>rfl
    | freeze =>
      simp only [hand,hx,rf_frz,bk_map,map_bk]
      cases hf:frz s (s.arg x) with
      | none=>rfl
      | some r =>
        obtain ⟨p,s1⟩:=r
        have hs1:s1.fr=s.fr:=by
          unfold frz at hf
          split at hf
          · split at hf
            · split at hf
              · simp only [Option.some.injEq,Prod.mk.injEq] at hf
                rw [← hf.2];exact putObj_fr
              · cases hf
            · cases hf
          · obtain ⟨v,_,hf⟩:=Option.map_eq_some_iff.1 hf
            simp only [Prod.mk.injEq] at hf
            rw [← hf.2]
        have hl1:∀ t ∈ l.flatMap fun p=>p.1.uses,(s1.rf fr).get t=s1.get t:=fun t ht=>by
          have:=hl t ht
          simp only [St.get,St.rf,hs1] at this ⊢
          exact this
        simp only [bk_some,rf_hand l s1 hl1,bk_map]
        exact bk_ext fun _=>rfl
    | look=>simp only [hand,hx,rf_view,rf_hand l s hl,bk_map,map_bk];exact bk_ext fun _=>bk_ext fun _=>rfl
    | fresh sz =>
      simp only [hand,hx]
      split
      · have:=rf_hand l ⟨s.fr,s.l,s.g++[.pcells sz []]⟩ hl
        simp only [St.rf] at this ⊢
        simp only [this,bk_map,map_bk]
        exact bk_ext fun _=>rfl
      · rfl
theorem rf_owns {z:Bool}:∀ (owns:List (Nat × Nat × Nat)) (s:St) (cs:List AV),newOwns z (s.rf fr) cs owns=(newOwns z s cs owns).map fun r=>(r.1.rf fr,r.2)
  | [],s,cs=>rfl
  | (c, k, sz) :: r, s, cs => by
    simp only [newOwns,rf_new,bk_map,map_bk]
    exact bk_ext fun a=>rf_owns r _ _
theorem rf_bound {x:Option LOpd} {d:Int} (h:∀ t ∈ optUses x,(s.rf fr).get t=s.get t):bound (s.rf fr) x d=bound s x d:=by
 cases x with
 | none=>rfl
 | some x=>simp only [bound,rf_arg (s:=s) (fr:=fr) (x:=x) h]
theorem rf_appendTo (z:Bool) (k n sz bytes:Nat) (ob:AObj) (y:AV):appendTo (s.rf fr) z k n sz bytes ob y=(appendTo s z k n sz bytes ob y).map fun r=>(r.1,r.2.rf fr):=by
 unfold appendTo
 simp only [rf_put]
 repeat' split
 all_goals rfl
theorem rf_ptrEq (x y:AV):ptrEq (s.rf fr) x y=ptrEq s x y:=rfl
theorem rf_isNil (k:TK) (x:AV):isNil (s.rf fr) k x=isNil s k x:=rfl
theorem rf_avEq {k:TK} {x y:LOpd} (hx:(s.rf fr).arg x=s.arg x) (hy:(s.rf fr).arg y=s.arg y):avEq (s.rf fr) k x y=avEq s k x y:=by
 cases k <;> simp only [avEq,hx,hy,rf_ptrEq,rf_isNil]
theorem rf_args {l:List LOpd} (h:∀ t ∈ l.flatMap LOpd.uses,(s.rf fr).get t=s.get t):l.map (s.rf fr).arg=l.map s.arg:=by
 refine List.map_congr_left fun x hx=>rf_arg fun t ht=>h t ?_
 simp only [List.mem_flatMap]
 exact ⟨x,hx,ht⟩
theorem eval_rf {C : Calls'} {op : LOp} (h : ∀ t ∈ op.uses, (s.rf fr).get t = s.get t) : evalOp C (s.rf fr) op = (evalOp C s op).map fun r => (r.1, r.2.rf fr) := by
  have one:∀ {x:LOpd},(∀ t ∈ x.uses,t ∈ op.uses)→(s.rf fr).arg x=s.arg x:=fun hx=>rf_arg fun t ht=>h t (hx t ht)
  cases op with
  | move x=>simp only [evalOp,one (x:=x) (fun t ht=>ht)];rfl
  | nilown z k sz=>simp only [evalOp,rf_new,bk_map,map_bk];exact bk_ext fun _=>rfl
  | pick c a b =>
    simp only [evalOp,one (x:=c) (fun t ht=>by simp [LOp.uses,ht]),one (x:=a) (fun t ht=>by simp [LOp.uses,ht]),one (x:=b) (fun t ht=>by simp [LOp.uses,ht])]
    split <;> rfl
  | alloc z k zero owns=>simp only [evalOp,rf_owns,bk_map,rf_new,map_bk];exact bk_ext fun _=>bk_ext fun _=>rfl
  | box z k x =>
    simp only [evalOp,one (x:=x) (fun t ht=>ht),rf_new,bk_map,map_bk]
    refine bk_ext fun _ => ?_
    split
    · rw [map_bk];rfl
    · rfl
  | build zero parts =>
    have:(parts.map fun (o,n,x)=>(o,n,(s.rf fr).arg x))=parts.map fun (o,n,x)=>(o,n,s.arg x):=by
      refine List.map_congr_left fun p hp => ?_
      obtain ⟨o,n,x⟩:=p
      simp only [one (x:=x) (fun t ht=>by simp only [LOp.uses,List.mem_flatMap];exact ⟨_,hp,ht⟩)]
    simp only [evalOp,this,map_bk]
    exact bk_ext fun _=>rfl
  | row sz parts =>
    simp only [evalOp,rf_args (s:=s) (fr:=fr) (l:=parts) h,map_bk]
    refine bk_ext fun _ => ?_
    split <;> rfl
  | rowOwn z k sz parts =>
    simp only [evalOp,rf_args (s:=s) (fr:=fr) (l:=parts) h,rf_new,bk_map,map_bk]
    refine bk_ext fun _ => ?_
    split
    · rw [map_bk];rfl
    · rfl
  | load sz agg a =>
    simp only [evalOp,one (x:=a) (fun t ht=>ht),rf_obj]
    split
    · rw [map_bk];rfl
    · rw [map_bk];refine bk_ext fun _ => ?_;rw [map_bk];rfl
    · rfl
  | store sz agg a v =>
    simp only [evalOp,one (x:=a) (fun t ht=>by simp [LOp.uses,ht]),one (x:=v) (fun t ht=>by simp [LOp.uses,ht]),rf_obj,rf_put]
    split
    · rw [map_bk]
      refine bk_ext fun _ => ?_
      split
      · rw [map_bk];refine bk_ext fun _ => ?_;rw [map_bk];rfl
      · rfl
    · rfl
  | nilCheck x=>simp only [evalOp,one (x:=x) (fun t ht=>ht)];split <;> rfl
  | bin op x y =>
    simp only [evalOp,one (x:=x) (fun t ht=>by simp [LOp.uses,ht]),one (x:=y) (fun t ht=>by simp [LOp.uses,ht]),map_bk]
    exact bk_ext fun _=>rfl
  | eq k neg x y =>
    simp only [evalOp,rf_avEq (one (x:=x) (fun t ht=>by simp [LOp.uses,ht])) (one (x:=y) (fun t ht=>by simp [LOp.uses,ht])),map_bk]
    exact bk_ext fun _=>rfl
  | un op x=>simp only [evalOp,one (x:=x) (fun t ht=>ht),map_bk];exact bk_ext fun _=>rfl
  | toInt k x=>simp only [evalOp,one (x:=x) (fun t ht=>ht),map_bk];exact bk_ext fun _=>rfl
  | toBytes x =>
    simp only [evalOp,one (x:=x) (fun t ht=>ht)]
    split
    · split <;> rfl
    · rfl
  | toStr b x =>
    cases b <;> simp only [evalOp,one (x:=x) (fun t ht=>ht)] <;> split
    · rw [map_bk];rfl
    all_goals rfl
  | makeFunc f caps=>simp only [evalOp,rf_args (s:=s) (fr:=fr) (l:=caps) h];rfl
  | makeBound f caps=>simp only [evalOp,rf_args (s:=s) (fr:=fr) (l:=caps) h];rfl
  | stuck=>rfl
  | makeMap z k=>simp only [evalOp,rf_new,bk_map,map_bk];exact bk_ext fun _=>rfl
  | makeRow z k sz bytes zero x y =>
    simp only [evalOp,one (x:=x) (fun t ht=>by simp [LOp.uses,ht]),one (x:=y) (fun t ht=>by simp [LOp.uses,ht]),rf_new,bk_map,map_bk]
    refine bk_ext fun _=>bk_ext fun _ => ?_
    split
    · rw [map_bk];rfl
    · rfl
  | slice b sz x lo hi =>
    have h1:=one (x:=x) (fun t ht=>by simp [LOp.uses,ht])
    have h2:∀ d,bound (s.rf fr) lo d=bound s lo d:=fun d=>rf_bound fun t ht=>h t (by simp [LOp.uses,ht])
    have h3:∀ d,bound (s.rf fr) hi d=bound s hi d:=fun d=>rf_bound fun t ht=>h t (by simp [LOp.uses,ht])
    cases b
    · simp only [evalOp,h1,h2,h3,rf_obj,rf_put]
      split
      · rw [map_bk];refine bk_ext fun _ => ?_;rw [map_bk];refine bk_ext fun _ => ?_;split <;> rfl
      · split
        · rw [map_bk];refine bk_ext fun _ => ?_;rw [map_bk];refine bk_ext fun _ => ?_;split <;> rfl
        · rfl
      · rw [map_bk];refine bk_ext fun _ => ?_;rw [map_bk];refine bk_ext fun _ => ?_;rw [map_bk];refine bk_ext fun _ => ?_;split <;> rfl
      · rfl
    · simp only [evalOp,h1,h2,h3]
      split
      · rw [map_bk];refine bk_ext fun _ => ?_;rw [map_bk];refine bk_ext fun _ => ?_;split <;> rfl
      · rfl
  | fieldAddr off x =>
    simp only [evalOp,one (x:=x) (fun t ht=>ht)]
    split
    · split <;> rfl
    · rfl
    · rfl
  | field off sz agg x =>
    simp only [evalOp,one (x:=x) (fun t ht=>ht)]
    split
    · split <;> rfl
    · split <;> rfl
    · rfl
  | indexAddr sz x i =>
    simp only [evalOp,one (x:=x) (fun t ht=>by simp [LOp.uses,ht]),one (x:=i) (fun t ht=>by simp [LOp.uses,ht]),rf_obj,map_bk]
    refine bk_ext fun _ => ?_
    split
    · split <;> rfl
    · rw [map_bk]
      refine bk_ext fun _ => ?_
      unfold idxAt
      split
      · split <;> rfl
      · split <;> rfl
      · rfl
    · split
      · split <;> rfl
      · rfl
    · rfl
  | indexArr len sz x i =>
    simp only [evalOp,one (x:=x) (fun t ht=>by simp [LOp.uses,ht]),one (x:=i) (fun t ht=>by simp [LOp.uses,ht]),rf_obj,map_bk]
    refine bk_ext fun _ => ?_
    split
    · split
      · split <;> rfl
      · rfl
      · rfl
    · rfl
  | index x i =>
    simp only [evalOp,one (x:=x) (fun t ht=>by simp [LOp.uses,ht]),one (x:=i) (fun t ht=>by simp [LOp.uses,ht]),rf_obj,map_bk]
    refine bk_ext fun _ => ?_
    split
    · split <;> rfl
    · rfl
  | lookup kk zero ok m key =>
    simp only [evalOp,one (x:=m) (fun t ht=>by simp [LOp.uses,ht]),one (x:=key) (fun t ht=>by simp [LOp.uses,ht]),rf_obj]
    split
    · rw [map_bk]
      refine bk_ext fun _ => ?_
      split <;> rfl
    · rfl
  | mapUpdate kk m key v =>
    simp only [evalOp,one (x:=m) (fun t ht=>by simp [LOp.uses,ht]),one (x:=key) (fun t ht=>by simp [LOp.uses,ht]),one (x:=v) (fun t ht=>by simp [LOp.uses,ht]),rf_obj,rf_put]
    split
    · split
      · split <;> rfl
      · rfl
    · rfl
  | extract x ix =>
    simp only [evalOp,one (x:=x) (fun t ht=>ht)]
    split
    · split <;> rfl
    · rfl
  | len k x =>
    rcases k with _ | _ | k <;> simp only [evalOp,one (x:=x) (fun t ht=>ht),rf_obj] <;> split <;> try rfl
    split <;> rfl
  | append z k sz bytes x y =>
    have ea:∀ v,asLit (s.rf fr) v=asLit s v:=fun v=>by cases v <;> rfl
    simp only [evalOp,one (x:=x) (fun t ht=>by simp [LOp.uses,ht]),one (x:=y) (fun t ht=>by simp [LOp.uses,ht]),rf_obj,rf_appendTo,rf_new,bk_map,ea]
    split
    · rw [map_bk]
    · rw [map_bk]
    · rfl
  | copy sz d x =>
    simp only [evalOp,one (x:=d) (fun t ht=>by simp [LOp.uses,ht]),one (x:=x) (fun t ht=>by simp [LOp.uses,ht]),rf_obj,rf_put]
    split
    · rw [map_bk]
      refine bk_ext fun _ => ?_
      split
      · split <;> rfl
      · rfl
    · rfl
  | minI x y =>
    simp only [evalOp,one (x:=x) (fun t ht=>by simp [LOp.uses,ht]),one (x:=y) (fun t ht=>by simp [LOp.uses,ht])]
    split <;> rfl
  | maxI x y =>
    simp only [evalOp,one (x:=x) (fun t ht=>by simp [LOp.uses,ht]),one (x:=y) (fun t ht=>by simp [LOp.uses,ht])]
    split <;> rfl
  | delete kk m key =>
    simp only [evalOp,one (x:=m) (fun t ht=>by simp [LOp.uses,ht]),one (x:=key) (fun t ht=>by simp [LOp.uses,ht]),rf_obj,rf_put]
    split
    · split
      · split <;> rfl
      · rfl
    · rfl
  | call f l =>
    simp only [evalOp,rf_hand l s h,bk_map,map_bk]
    refine bk_ext fun _ => ?_
    split
    · rw [map_bk];rfl
    · rfl
  | callv f l =>
    simp only [evalOp,one (x:=f) (fun t ht=>by simp [LOp.uses,ht]),rf_hand l s (fun t ht=>h t (by simp only [LOp.uses,List.mem_append];exact .inr ht)),bk_map]
    split
    rotate_right
    · rfl
    all_goals
      rw [map_bk]
      refine bk_ext fun _ => ?_
      split
      · rw [map_bk];rfl
      · rfl
  | pcall f l =>
    simp only [evalOp,rf_hand l s h,bk_map,map_bk]
    refine bk_ext fun _ => ?_
    split
    · rw [map_bk]
      refine bk_ext fun _ => ?_
      rw [map_bk]
      refine bk_ext fun _ => ?_
      split <;> rfl
    · rfl
  | rcall f l =>
    simp only [evalOp,rf_args (l:=l) h,show (s.rf fr).g=s.g from rfl]
    split
    · rw [map_bk]
      refine bk_ext fun _ => ?_
      split <;> rfl
    · rfl
theorem eval_congr {C:Calls'} {op:LOp} {av:AV} {s s' s2:St} (h:evalOp C s op=some (av,s')) (hl:s2.l=s.l) (hg:s2.g=s.g) (hu:∀ t ∈ op.uses,s2.get t=s.get t):evalOp C s2 op=some (av,s'.rf s2.fr):=by
 have e:s2=s.rf s2.fr:=by cases s2;cases s;simp_all [St.rf]
 rw [e,eval_rf (s:=s) (fr:=s2.fr) (op:=op) (fun t ht=>by rw [← e];exact hu t ht),h]
 rfl
end
end Go.TA
namespace Go.TA
def guardUses:Option (Nat × Bool)→List Nat
 | some (t,_)=>[t]
 | none=>[]
def LOper.uses (x:LOper):List Nat:=guardUses x.guard++x.op.uses
def LOp.blind : LOp → Bool
  | .move _ | .pick .. | .build .. | .row .. | .nilCheck _ | .bin .. | .un .. | .toInt .. | .toBytes _ | .toStr .. | .makeFunc .. | .makeBound .. | .fieldAddr .. | .field .. | .indexArr .. | .index .. | .extract .. | .minI .. | .maxI .. => true
  | .eq k .. => match k with
    | .b | .i | .s | .st _=>true
    | _=>false
  | .slice b .. => b
  | .len k _=>k==0 || k==1
  | _=>false
section
variable {C:Calls'}
theorem blind_eval {op:LOp} (hb:op.blind=true) {s s2:St} {av:AV} {s':St} (h:evalOp C s op=some (av,s')) (hf:s2.fr=s.fr):evalOp C s2 op=some (av,s2):=by
  have ha:∀ x:LOpd,s2.arg x=s.arg x:=fun x=>by cases x <;> simp [St.arg,St.get,hf]
  have hbd:∀ (x:Option LOpd) (d:Int),bound s2 x d=bound s x d:=fun x d=>by cases x <;> simp [bound,ha]
  have key:∀ {x y:Option (AV × St)},x=some (av,s')→y=x.map (fun r=>(r.1,s2))→y=some (av,s2):=fun h1 h2=>by rw [h2,h1];rfl
  refine key h ?_
  cases op with
  | eq k neg x y=>cases k <;> simp [LOp.blind] at hb <;> simp only [evalOp,avEq,ha,map_bk] <;> exact bk_ext fun _=>rfl
  | slice b sz x lo hi =>
    simp only [LOp.blind] at hb
    subst hb
    simp only [evalOp,ha,hbd]
    split
    · rw [map_bk];refine bk_ext fun _ => ?_;rw [map_bk];refine bk_ext fun _ => ?_;split <;> rfl
    · rfl
  | len k x =>
    rcases k with _ | _ | k
    · simp only [evalOp,ha];split <;> rfl
    · simp only [evalOp,ha];split <;> rfl
    · simp [LOp.blind] at hb
  | toStr b x =>
    cases b <;> simp only [evalOp,ha] <;> split
    · rw [map_bk];rfl
    all_goals rfl
  | build zero parts =>
    simp only [evalOp,ha,map_bk]
    exact bk_ext fun _=>rfl
  | row sz parts =>
    have:s2.arg=s.arg:=funext ha
    simp only [evalOp,this,map_bk]
    refine bk_ext fun _ => ?_
    split <;> rfl
  | makeFunc f caps =>
    have:s2.arg=s.arg:=funext ha
    simp only [evalOp,this];rfl
  | makeBound f caps =>
    have:s2.arg=s.arg:=funext ha
    simp only [evalOp,this];rfl
  | indexArr len sz x i =>
    simp only [evalOp,ha,map_bk]
    refine bk_ext fun _ => ?_
    split
    · split
      · split <;> rfl
      · rfl
      · rfl
    · rfl
  | index x i =>
    simp only [evalOp,ha,map_bk]
    refine bk_ext fun _ => ?_
    split
    · split <;> rfl
    · rfl
  | fieldAddr off x =>
    simp only [evalOp,ha]
    split
    · split <;> rfl
    · rfl
    · rfl
  | field off sz agg x =>
    simp only [evalOp,ha]
    split
    · split <;> rfl
    · split <;> rfl
    · rfl
  | toBytes x =>
    simp only [evalOp,ha]
    split
    · split <;> rfl
    · rfl
  | extract x ix =>
    simp only [evalOp,ha]
    split
    · split <;> rfl
    · rfl
  | pick c a b=>simp only [evalOp,ha];split <;> rfl
  | nilCheck x=>simp only [evalOp,ha];split <;> rfl
  | minI x y=>simp only [evalOp,ha];split <;> rfl
  | maxI x y=>simp only [evalOp,ha];split <;> rfl
  | move x=>simp only [evalOp,ha];rfl
  | bin op x y=>simp only [evalOp,ha,map_bk];exact bk_ext fun _=>rfl
  | un op x=>simp only [evalOp,ha,map_bk];exact bk_ext fun _=>rfl
  | toInt k x=>simp only [evalOp,ha,map_bk];exact bk_ext fun _=>rfl
  | _=>simp [LOp.blind] at hb
theorem opt_get (s:St) (d:Option Nat) (v:AV) (t:Nat):(opt' s d v).get t=if d=some t then v else s.get t:=by
  cases d with
  | none=>simp [opt']
  | some d =>
    simp only [opt',get_set,Option.some.injEq]
    by_cases e:t=d
    · subst e;simp
    · have:¬ d=t:=fun h=>e h.symm
      simp [e,this]
theorem be_eq {x:Option (AV × St)} {d:Option Nat} {s':St} (h:be x d=some s'):∃ v s1,x=some (v,s1)∧s'=opt' s1 d v:=by
 unfold be at h
 obtain ⟨⟨v,s1⟩,h1,h2⟩:=Option.bind_eq_some_iff.1 h
 simp only [putK,Option.some.injEq] at h2
 exact ⟨v,s1,h1,h2.symm⟩
theorem be_mk (v:AV) (s1:St) (d:Option Nat):be (some (v,s1)) d=some (opt' s1 d v):=rfl
theorem eval_get {op:LOp} {av:AV} {s s':St} (h:evalOp C s op=some (av,s')) (t:Nat):s'.get t=s.get t:=by simp [St.get,eval_fr h]
def Off (x:LOper) (s:St):Prop:=∃ t b,x.guard=some (t,b)∧(s.get t = .p (.bool !b)∨∃ l,s.get t = .tuple l)
def On (x:LOper) (s:St):Prop:=x.guard=none∨∃ t b,x.guard=some (t,b)∧s.get t = .p (.bool b)
theorem step_inv {x : LOper} {s s' : St} (h : stepOp C x s = some s') : ∃ v, (∀ t, s'.get t = if x.dst = some t then v else s.get t) ∧
    ((On x s∧evalOp C s x.op=some (v,⟨s.fr,s'.l,s'.g⟩))∨(Off x s∧v = .tuple []∧s'.l=s.l∧s'.g=s.g)):=by
  unfold stepOp at h
  split at h
  · rename_i hg
    obtain ⟨v,s1,h1,rfl⟩:=be_eq h
    refine ⟨v,fun t=>by rw [opt_get,eval_get h1],.inl ⟨.inl hg, ?_⟩⟩
    rw [h1,opt_l,opt_g, ← eval_fr h1]
  · rename_i t b hg
    unfold guardK at h
    split at h
    · rename_i cb hv
      split at h
      · rename_i e
        subst e
        obtain ⟨v,s1,h1,rfl⟩:=be_eq h
        have hs:∀ u,(s.set t (.p (.bool cb))).get u=s.get u:=fun u=>by
          rw [get_set];split
          · rename_i e;rw [e,hv]
          · rfl
        have h2:=eval_congr (s2:=s) h1 rfl rfl (fun u _=>(hs u).symm)
        refine ⟨v,fun u=>by rw [opt_get,eval_get h1,hs],.inl ⟨.inr ⟨t,cb,hg,hv⟩, ?_⟩⟩
        rw [h2,opt_l,opt_g];rfl
      · rename_i e
        have hcb:cb = !b:=by cases cb <;> cases b <;> simp_all
        simp only [Option.some.injEq] at h
        subst h
        refine ⟨.tuple [],fun u => ?_,.inr ⟨⟨t,b,hg,.inl (by rw [hv,hcb])⟩,rfl,by rw [opt_l];rfl,by rw [opt_g];rfl⟩⟩
        rw [opt_get,get_set]
        split
        · rfl
        · split
          · rename_i e;rw [e,hv,hcb]
          · rfl
    · rename_i l hv
      simp only [Option.some.injEq] at h
      subst h
      exact ⟨.tuple [],fun u=>by rw [opt_get],.inr ⟨⟨t,b,hg,.inr ⟨l,hv⟩⟩,rfl,by rw [opt_l],by rw [opt_g]⟩⟩
    · cases h
theorem step_on {x:LOper} {s s1:St} {v:AV} (hon:On x s) (h:evalOp C s x.op=some (v,s1)):∃ s',stepOp C x s=some s'∧s'.l=s1.l∧s'.g=s1.g∧∀ t,s'.get t=if x.dst=some t then v else s.get t:=by
 unfold stepOp
 rcases hon with hg | ⟨t,b,hg,hv⟩
 ·rw [hg]
  refine ⟨opt' s1 x.dst v,by simp only [h,be_mk],by rw [opt_l],by rw [opt_g],fun t=>by rw [opt_get,eval_get h]⟩
 ·rw [hg]
  have hs:∀ u,(s.set t (.p (.bool b))).get u=s.get u:=fun u=>by
   rw [get_set];split
   ·rename_i e;rw [e,hv]
   ·rfl
  have h2:=eval_congr (s2:=s.set t (.p (.bool b))) h rfl rfl (fun u _=>hs u)
  refine ⟨opt' (s1.rf (s.set t (.p (.bool b))).fr) x.dst v,by simp only [guardK,hv,if_true,h2,be_mk],by rw [opt_l];rfl,by rw [opt_g];rfl,fun u => ?_⟩
  rw [opt_get]
  split
  ·rfl
  ·exact hs u
theorem step_off {x:LOper} {s:St} (hoff:Off x s):∃ s',stepOp C x s=some s'∧s'.l=s.l∧s'.g=s.g∧∀ t,s'.get t=if x.dst=some t then .tuple [] else s.get t:=by
 obtain ⟨t,b,hg,hv⟩:=hoff
 unfold stepOp
 rw [hg]
 rcases hv with hv | ⟨l,hv⟩
 ·refine ⟨opt' (s.set t (.p (.bool !b))) x.dst (.tuple []),by simp [guardK,hv],by rw [opt_l];rfl,by rw [opt_g];rfl,fun u => ?_⟩
  rw [opt_get,get_set]
  split
  ·rfl
  ·split
   ·rename_i e;rw [e,hv]
   ·rfl
 ·exact ⟨opt' s x.dst (.tuple []),by simp [guardK,hv],by rw [opt_l],by rw [opt_g],fun u=>by rw [opt_get]⟩
theorem On.same {x:LOper} {s s2:St} (h:On x s) (hu:∀ t ∈ x.uses,s2.get t=s.get t):On x s2:=by
 rcases h with h | ⟨t,b,hg,hv⟩
 ·exact .inl h
 ·exact .inr ⟨t,b,hg,by rw [hu t (by simp [LOper.uses,hg,guardUses]),hv]⟩
theorem Off.same {x:LOper} {s s2:St} (h:Off x s) (hu:∀ t ∈ x.uses,s2.get t=s.get t):Off x s2:=by
 obtain ⟨t,b,hg,hv⟩:=h
 exact ⟨t,b,hg,by rw [hu t (by simp [LOper.uses,hg,guardUses])];exact hv⟩
theorem step_congr {x:LOper} {s s' s2:St} (h:stepOp C x s=some s') (hl:s2.l=s.l) (hg:s2.g=s.g) (hu:∀ t ∈ x.uses,s2.get t=s.get t) :
  ∃ s2',stepOp C x s2=some s2'∧s2'.l=s'.l∧s2'.g=s'.g∧∀ t,s2'.get t=if x.dst=some t then s'.get t else s2.get t:=by
 obtain ⟨v,hv,h1⟩:=step_inv h
 have fin:∀ {s2':St},(∀ t,s2'.get t=if x.dst=some t then v else s2.get t)→∀ t,s2'.get t=if x.dst=some t then s'.get t else s2.get t:=fun hh t=>by
  rw [hh t,hv t]
  split <;> rfl
 rcases h1 with ⟨hon,he⟩ | ⟨hoff,rfl,h1,h2⟩
 ·have he2:=eval_congr (s2:=s2) he hl hg (fun t ht=>hu t (by simp [LOper.uses,ht]))
  obtain ⟨s2',a1,a2,a3,a4⟩:=step_on (hon.same hu) he2
  exact ⟨s2',a1,a2,a3,fin a4⟩
 ·obtain ⟨s2',a1,a2,a3,a4⟩:=step_off (C:=C) (hoff.same hu)
  exact ⟨s2',a1,by rw [a2,hl,h1],by rw [a3,hg,h2],fin a4⟩
theorem step_blind {x:LOper} (hb:x.op.blind=true) {s s' s2:St} (h:stepOp C x s=some s') (hu:∀ t ∈ x.uses,s2.get t=s.get t) :
  ∃ s2',stepOp C x s2=some s2'∧s2'.l=s2.l∧s2'.g=s2.g∧∀ t,s2'.get t=if x.dst=some t then s'.get t else s2.get t:=by
 obtain ⟨v,hv,h1⟩:=step_inv h
 have fin:∀ {s2':St},(∀ t,s2'.get t=if x.dst=some t then v else s2.get t)→∀ t,s2'.get t=if x.dst=some t then s'.get t else s2.get t:=fun hh t=>by
  rw [hh t,hv t]
  split <;> rfl
 rcases h1 with ⟨hon,he⟩ | ⟨hoff,rfl,h1,h2⟩
 ·have he1:=blind_eval hb he (s2:=⟨s.fr,s2.l,s2.g⟩) rfl
  have he2:=eval_congr (s2:=s2) he1 rfl rfl (fun t ht=>hu t (by simp [LOper.uses,ht]))
  obtain ⟨s2',a1,a2,a3,a4⟩:=step_on (hon.same hu) he2
  exact ⟨s2',a1,a2,a3,fin a4⟩
 ·obtain ⟨s2',a1,a2,a3,a4⟩:=step_off (C:=C) (hoff.same hu)
  exact ⟨s2',a1,a2,a3,fin a4⟩
theorem step_calm {x:LOper} (hc:x.op.calm=true) {s s':St} (h:stepOp C x s=some s'):s'.l=s.l∧s'.g=s.g:=by
 obtain ⟨v,hv,h1⟩:=step_inv h
 rcases h1 with ⟨hon,he⟩ | ⟨hoff,rfl,h1,h2⟩
 ·have:=calm_same hc he
  have e1:=congrArg St.l this
  have e2:=congrArg St.g this
  exact ⟨e1,e2⟩
 ·exact ⟨h1,h2⟩
theorem step_get {x:LOper} {s s':St} (h:stepOp C x s=some s') {t:Nat} (ht:x.dst≠some t):s'.get t=s.get t:=by
 obtain ⟨v,hv,_⟩:=step_inv h
 rw [hv t,if_neg ht]
theorem again_step {x : LOper} {s : St} (h : againX C s x = true) : ∃ s', stepOp C x s = some s' ∧ ∀ t, s'.get t = s.get t := by
  have same:∀ {v:AV} {s':St},sameAt s x.dst v=true→(∀ t,s'.get t=if x.dst=some t then v else s.get t)→∀ t,s'.get t=s.get t:=by
    intro v s' hs hh t
    rw [hh t]
    split
    · rename_i e
      rw [e] at hs
      exact AV.same_eq hs
    · rfl
  have ev:On x s→againEv s x.dst (evalOp C s x.op)=true→∃ s',stepOp C x s=some s'∧∀ t,s'.get t=s.get t:=by
    intro hon he
    cases hx:evalOp C s x.op with
    | none=>rw [hx] at he;simp [againEv] at he
    | some r =>
      obtain ⟨v,s1⟩:=r
      rw [hx] at he
      obtain ⟨s',a1,a2,a3,a4⟩:=step_on hon hx
      exact ⟨s',a1,same he a4⟩
  have off:Off x s→sameAt s x.dst (.tuple [])=true→∃ s',stepOp C x s=some s'∧∀ t,s'.get t=s.get t:=by
    intro hoff he
    obtain ⟨s',a1,a2,a3,a4⟩:=step_off (C:=C) hoff
    exact ⟨s',a1,same he a4⟩
  unfold againX at h
  split at h
  · rename_i hg;exact ev (.inl hg) h
  · rename_i t b hg
    unfold againG at h
    split at h
    · rename_i cb hv
      rw [hg] at h
      simp only at h
      split at h
      · rename_i e;subst e;exact ev (.inr ⟨t,_,hg,hv⟩) h
      · rename_i e
        have hcb:cb = !b:=by cases cb <;> cases b <;> simp_all
        exact off ⟨t,b,hg,.inl (by rw [hv,hcb])⟩ h
    · rename_i l hv;exact off ⟨t,b,hg,.inr ⟨l,hv⟩⟩ h
    · cases h
end
end Go.TA
namespace Go.TA
def dflt:LOper:={ dst:=none,op:=.move (.c .nilp) }
def atP (xs:List LOper) (p:Nat):LOper:=xs.getD p dflt
def edges (ops:Array Oper) (i:Nat):List Nat:=match ops[i]? with
 | some o=>(o.after.toList.filter (Region.binds .any)).map (·.on)
 | none=>[]
def isSome':Option Nat→Nat→Bool
 | some d,t=>d==t
 | none,_=>false
def anyUse:Option Nat→List Nat→Bool
 | some d,l=>l.contains d
 | none,_=>false
def sameDst:Option Nat→Option Nat→Bool
 | some a,some b=>a==b
 | _,_=>false
def keptBetween (xs:List LOper) (q p:Nat):Bool :=
 !anyUse (atP xs q).dst (atP xs q).uses && (List.range (p+1)).all fun r=>r≤q || (!anyUse (atP xs r).dst (atP xs q).uses && !sameDst (atP xs r).dst (atP xs q).dst)
def pairOk (M : Array Nat) (xs : List LOper) (q p : Nat) : Bool :=
  let a:=atP xs q
  let b:=atP xs p
  let bit:=(M.getD b.ix 0).testBit a.ix
  a.ix != b.ix && (bit || (!anyUse b.dst a.uses && !sameDst b.dst a.dst && !anyUse a.dst b.uses && a.op.calm &&
    (b.op.calm || a.op.blind || (b.again.contains a.ix && keptBetween xs q p))))
def matOk (M:Array Nat) (ops:Array Oper):Bool :=
 (List.range ops.size).all fun j=>(List.range ops.size).all fun i => !(M.getD j 0).testBit i || (edges ops j).any fun e=>e==i || (M.getD e 0).testBit i
def linOk (ops:Array Oper) (xs:List LOper):Bool :=
 (List.range xs.length).all fun p=>(edges ops (atP xs p).ix).all fun e=>(List.range p).any fun q=>(atP xs q).ix==e
def allOk (P : Program) (n : Nat) (ops : Array Oper) (xs : List LOper) : Bool :=
  (List.range xs.length).all fun p=>match ops[(atP xs p).ix]? with
    | some o=>operOk P n ops (atP xs p) o
    | none=>false
def drawOk (P:Program) (n:Nat) (ops:Array Oper) (xs:List LOper):Bool :=
 Region.noSelect ops && xs.length==ops.size && (List.range ops.size).all (fun i=>(List.range xs.length).any fun p=>(atP xs p).ix==i) &&
 allOk P n ops xs && linOk ops xs && matOk (Region.before ops) ops && (List.range xs.length).all fun p=>(List.range p).all fun q=>pairOk (Region.before ops) xs q p
section
variable {C:Calls'}
theorem findIx_done:∀ {l:List LOper} {j:Nat} {x:LOper},findIx l j=some x→x ∈ l∧x.ix=j
  | [],j,x,h=>by simp [findIx] at h
  | a :: l, j, x, h => by
    simp only [findIx] at h
    split at h
    · rename_i e
      simp only [Option.some.injEq] at h
      subst h
      exact ⟨by simp,by simpa using e⟩
    · obtain ⟨h1,h2⟩:=findIx_done h
      exact ⟨by simp [h1],h2⟩
theorem runD_trace:∀ (xs done:List LOper) {s s':St},runD C done xs s=some s'→∃ σ : Nat→St, σ 0=s ∧ σ xs.length=s' ∧
    ∀ p,p<xs.length→stepOp C (atP xs p) (σ p)=some (σ (p+1))∧(atP xs p).again.all (againOne C ((xs.take p).reverse++done) (σ (p+1)))=true
  | [], done, s, s', h => by
    simp only [runD,Option.some.injEq] at h
    exact ⟨fun _=>s,rfl,h,fun p hp=>by simp at hp⟩
  | x :: xs, done, s, s', h => by
    simp only [runD,stepD] at h
    obtain ⟨s1,h1,h2⟩:=Option.bind_eq_some_iff.1 h
    obtain ⟨s0,h0,h1⟩:=Option.bind_eq_some_iff.1 h1
    unfold againK at h1
    split at h1
    rotate_left
    · cases h1
    rename_i hag
    simp only [Option.some.injEq] at h1
    subst h1
    obtain ⟨σ,e0,e1,e2⟩:=runD_trace xs (x::done) h2
    refine ⟨fun p=>match p with | 0=>s | p+1 => σ p,rfl,e1,fun p hp => ?_⟩
    cases p with
    | zero =>
      simp only [List.take_zero,List.reverse_nil,List.nil_append,e0]
      exact ⟨h0,hag⟩
    | succ p =>
      have:=e2 p (by simpa using hp)
      simp only [List.take_succ_cons,List.reverse_cons,List.append_assoc,List.singleton_append]
      exact this
end
def curV (b:Nat→AV) (W:Nat→Option Nat) (v:Nat→AV) (D:Nat→Bool):Nat→Nat→AV
 | 0,t=>b t
 | p+1,t=>if D p=true∧W p=some t then v p else curV b W v D p t
section
variable {b:Nat→AV} {W:Nat→Option Nat} {v:Nat→AV} {D:Nat→Bool}
theorem curV_low {t:Nat}:∀ {p n:Nat},p≤n→(∀ q,p≤q→q<n→W q=some t→D q=false)→curV b W v D n t=curV b W v D p t
  | p, 0, h, _ => by have : p = 0 := by omega
                     subst this;rfl
  | p, n + 1, h, hD => by
    by_cases e:p=n+1
    · subst e;rfl
    · simp only [curV]
      have:¬ (D n=true∧W n=some t):=fun ⟨h1,h2⟩=>by rw [hD n (by omega) (by omega) h2] at h1;cases h1
      rw [if_neg this]
      exact curV_low (by omega) (fun q h1 h2 h3=>hD q h1 (by omega) h3)
theorem curV_all {t:Nat}:∀ {p:Nat},(∀ q,q<p→W q=some t→D q=true)→curV b W v D p t=curV b W v (fun _=>true) p t
  | 0,_=>rfl
  | p + 1, h => by
    simp only [curV]
    have ih:=curV_all (p:=p) (fun q h1 h2=>h q (by omega) h2)
    by_cases e:W p=some t
    · simp [e,h p (by omega) e]
    · simp [e,ih]
theorem curV_at {t p n:Nat} (hp:p≤n) (h1:∀ q,q<p→W q=some t→D q=true) (h2:∀ q,p≤q→q<n→W q=some t→D q=false):curV b W v D n t=curV b W v (fun _=>true) p t:=by
 rw [curV_low hp h2,curV_all h1]
def more (D:Nat→Bool) (p:Nat):Nat→Bool:=fun q=>if q=p then true else D q
theorem curV_more_ne {t p:Nat} (hW:W p≠some t):∀ n,curV b W v (more D p) n t=curV b W v D n t
  | 0=>rfl
  | n + 1 => by
    simp only [curV,curV_more_ne hW n]
    by_cases e:n=p
    · subst e;simp [hW]
    · simp [more,e]
theorem curV_more_eq {t p n:Nat} (hp:p<n) (hW:W p=some t) (h2:∀ q,p<q→q<n→W q=some t→D q=false):curV b W v (more D p) n t=v p:=by
 rw [curV_low (p:=p+1) (by omega) (fun q h1 h3 h4=>by
  have:q≠p:=by omega
  simp only [more,if_neg this];exact h2 q (by omega) h3 h4)]
 simp [curV,more,hW]
theorem curV_fr (s0 : St) (n : Nat) : ∃ fr : List (Nat × AV), ∀ (l : List (Nat × AObj)) (g : List AObj) (t : Nat), (⟨fr, l, g⟩ : St).get t = curV s0.get W v D n t := by
  induction n with
  | zero=>exact ⟨s0.fr,fun l g t=>rfl⟩
  | succ n ih =>
    obtain ⟨fr,h⟩:=ih
    by_cases hD:D n=true
    · cases hW:W n with
      | none=>exact ⟨fr,fun l g t=>by rw [h];simp [curV,hW]⟩
      | some d =>
        refine ⟨(d,v n)::fr,fun l g t => ?_⟩
        have:=get_set ⟨fr,l,g⟩ d t (v n)
        simp only [St.set] at this
        rw [this,h]
        simp only [curV,hD,hW,true_and,Option.some.injEq]
        by_cases e:t=d
        · subst e;simp
        · have:¬ d=t:=fun h=>e h.symm
          simp [e,this]
    · exact ⟨fr,fun l g t=>by rw [h];simp [curV,hD]⟩
end
def left (D:Nat→Bool):Nat→Nat
 | 0=>0
 | p+1=>left D p+if D p=true then 0 else 1
theorem left_zero {D:Nat→Bool}:∀ {n:Nat},left D n=0→∀ p,p<n→D p=true
  | 0,_,p,hp=>by omega
  | n + 1, h, p, hp => by
    simp only [left] at h
    by_cases e:p=n
    · subst e
      by_cases hD:D p=true
      · exact hD
      · simp [hD] at h
    · exact left_zero (n:=n) (by omega) p (by omega)
theorem left_more {D : Nat → Bool} {p : Nat} (hD : D p = false) : ∀ {n : Nat}, (p < n → left D n = left (more D p) n + 1) ∧ (n ≤ p → left D n = left (more D p) n)
  | 0=>⟨fun h=>by omega,fun _=>rfl⟩
  | n + 1 => by
    obtain ⟨h1,h2⟩:=left_more hD (n:=n)
    refine ⟨fun h => ?_,fun h => ?_⟩
    · simp only [left]
      by_cases e:n=p
      · subst e
        rw [h2 (Nat.le_refl _)]
        simp [more,hD]
      · rw [h1 (by omega)]
        simp only [more,if_neg e]
        omega
    · simp only [left]
      have e:n≠p:=by omega
      rw [h2 (by omega)]
      simp only [more,if_neg e]
end Go.TA
namespace Go.TA
structure DrawFacts (P:Program) (n:Nat) (ops:Array Oper) (xs:List LOper) (M:Array Nat):Prop where
 len:xs.length=ops.size
 ix:∀ i,i<ops.size→∃ p,p<xs.length∧(atP xs p).ix=i
 all:∀ p,p<xs.length→∃ o,ops[(atP xs p).ix]? = some o∧operOk P n ops (atP xs p) o=true
 lin:∀ p,p<xs.length→∀ e,e ∈ edges ops (atP xs p).ix→∃ q,q<p∧(atP xs q).ix=e
 mat:∀ j i,j<ops.size→i<ops.size→(M.getD j 0).testBit i=true→∃ e,e ∈ edges ops j∧(e=i∨(M.getD e 0).testBit i=true)
 pair:∀ q p,q<p→p<xs.length→pairOk M xs q p=true
theorem drawFacts {P:Program} {n:Nat} {ops:Array Oper} {xs:List LOper} (h:drawOk P n ops xs=true):DrawFacts P n ops xs (Region.before ops):=by
 simp only [drawOk,Bool.and_eq_true,beq_iff_eq,List.all_eq_true,List.mem_range,List.any_eq_true] at h
 obtain ⟨⟨⟨⟨⟨⟨_,h1⟩,h2⟩,h3⟩,h4⟩,h5⟩,h6⟩:=h
 refine ⟨h1,h2,fun p hp => ?_,fun p hp e he => ?_,fun j i hj hi hb => ?_,fun q p hq hp=>h6 p hp q hq⟩
 ·simp only [allOk,List.all_eq_true,List.mem_range] at h3
  have:=h3 p hp
  split at this
  ·rename_i o ho;exact ⟨o,ho,this⟩
  ·cases this
 ·simp only [linOk,List.all_eq_true,List.mem_range,List.any_eq_true,beq_iff_eq] at h4
  exact h4 p hp e he
 ·simp only [matOk,List.all_eq_true,List.mem_range,List.any_eq_true,Bool.or_eq_true,Bool.not_eq_true',beq_iff_eq] at h5
  rcases h5 j hj i hi with h | h
  ·rw [h] at hb;cases hb
  ·exact h
theorem mem_edges {ops:Array Oper} {i:Nat} {o:Oper} (ho:ops[i]? = some o) {e:Nat}:e ∈ edges ops i↔∃ x ∈ o.after,Region.binds .any x=true∧x.on=e:=by
 simp only [edges,ho,List.mem_map,List.mem_filter,Array.mem_toList_iff]
 constructor
 ·rintro ⟨x,⟨h1,h2⟩,h3⟩;exact ⟨x,h1,h2,h3⟩
 ·rintro ⟨x,h1,h2,h3⟩;exact ⟨x,⟨h1,h2⟩,h3⟩
theorem anyUse_true {d:Nat} {l:List Nat} (h:d ∈ l):anyUse (some d) l=true:=by simp [anyUse,h]
theorem atP_mem {xs:List LOper} {x:LOper} (h:x ∈ xs):∃ r,r<xs.length∧atP xs r=x:=by
 obtain ⟨r,hr,e⟩:=List.getElem_of_mem h
 exact ⟨r,hr,by simp [atP,hr,e]⟩
theorem mem_take_atP {xs:List LOper} {p:Nat} (hp:p≤xs.length) {x:LOper} (h:x ∈ xs.take p):∃ r,r<p∧atP xs r=x:=by
 obtain ⟨r,hr,e⟩:=List.getElem_of_mem h
 rw [List.length_take] at hr
 rw [List.getElem_take] at e
 exact ⟨r,by omega,by simp [atP,show r<xs.length by omega,e]⟩
theorem Good.alike {Γ : Ground} {c:Cx} {s s2:St} {a:Act} {n:Nat} (h:Good Γ c s a n) (hl:s2.l=s.l) (hg:s2.g=s.g) (ht:∀ t,s2.get t=s.get t):Good Γ c s2 a n where
 l:=hl.trans h.l
 g:=hg.trans h.g
 H:=h.H
 F t:=by rw [ht];exact h.F t
 G:=by rw [hg];exact h.G
 N:=h.N
 D:=h.D
section
variable {P:Program} {Γ : Ground} {C:Calls'} {n:Nat} {ops:Array Oper} {xs:List LOper} {M:Array Nat} {σ : Nat→St}
def Dn (xs:List LOper) (listed:Array Bool) (p:Nat):Bool:=decide (p<xs.length) && listed.getD (atP xs p).ix false
def Closed (ops:Array Oper) (xs:List LOper) (listed:Array Bool):Prop:=∀ p,p<xs.length→listed.getD (atP xs p).ix false=true→∀ e,e ∈ edges ops (atP xs p).ix→listed.getD e false=true
theorem bits_listed (F:DrawFacts P n ops xs M) {listed:Array Bool} (hc:Closed ops xs listed):∀ (m p:Nat),p≤m→p<xs.length→(∀ e,e ∈ edges ops (atP xs p).ix→listed.getD e false=true) →
    ∀ i,i<ops.size→(M.getD (atP xs p).ix 0).testBit i=true→listed.getD i false=true
  | m, p, hm, hp, he, i, hi, hb => by
    obtain ⟨o,ho,_⟩:=F.all p hp
    have hj:(atP xs p).ix<ops.size:=(Array.getElem?_eq_some_iff.1 ho).1
    obtain ⟨e,he1,he2⟩:=F.mat _ i hj hi hb
    rcases he2 with rfl | he2
    · exact he _ he1
    · obtain ⟨q,hq,hqe⟩:=F.lin p hp e he1
      rw [← hqe] at he2
      have hl:=he e he1
      rw [← hqe] at hl
      cases m with
      | zero=>omega
      | succ m=>exact bits_listed F hc m q (by omega) (by omega) (hc q (by omega) hl) i hi he2
theorem ix_inj (F:DrawFacts P n ops xs M) {q p:Nat} (hq:q<xs.length) (hp:p<xs.length) (h:(atP xs q).ix=(atP xs p).ix):q=p:=by
 rcases Nat.lt_trichotomy q p with h1 | h1 | h1
 ·have:=F.pair q p h1 hp
  simp [pairOk,h] at this
 ·exact h1
 ·have:=F.pair p q h1 hq
  simp [pairOk,h] at this
theorem pair_cases (F:DrawFacts P n ops xs M) {q p:Nat} (hqp:q<p) (hp:p<xs.length):(M.getD (atP xs p).ix 0).testBit (atP xs q).ix=true ∨
  (anyUse (atP xs p).dst (atP xs q).uses=false∧sameDst (atP xs p).dst (atP xs q).dst=false∧anyUse (atP xs q).dst (atP xs p).uses=false∧(atP xs q).op.calm=true ∧
   ((atP xs p).op.calm=true∨(atP xs q).op.blind=true∨((atP xs p).again.contains (atP xs q).ix=true∧keptBetween xs q p=true))):=by
 have:=F.pair q p hqp hp
 simp only [pairOk,Bool.and_eq_true,Bool.or_eq_true,Bool.not_eq_true'] at this
 rcases this.2 with h | h
 ·exact .inl h
 ·exact .inr ⟨h.1.1.1.1,h.1.1.1.2,h.1.1.2,h.1.2,by
   rcases h.2 with (h | h) | h
   ·exact .inl h
   ·exact .inr (.inl h)
   ·exact .inr (.inr h)⟩
structure Run (C:Calls') (xs:List LOper) (σ : Nat→St):Prop where
 step:∀ p,p<xs.length→stepOp C (atP xs p) (σ p)=some (σ (p+1))
 again:∀ p,p<xs.length→(atP xs p).again.all (againOne C ((xs.take p).reverse++[]) (σ (p+1)))=true
def Wp (xs:List LOper) (p:Nat):Option Nat:=(atP xs p).dst
def vp (xs:List LOper) (σ : Nat→St) (p:Nat):AV:=match (atP xs p).dst with
 | some d=>(σ (p+1)).get d
 | none => .bot
theorem run_get (R:Run C xs σ):∀ p,p≤xs.length→∀ t,(σ p).get t=curV (σ 0).get (Wp xs) (vp xs σ) (fun _=>true) p t
  | 0,_,t=>rfl
  | p + 1, hp, t => by
    simp only [curV,true_and]
    by_cases e:Wp xs p=some t
    · rw [if_pos e]
      simp only [Wp] at e
      simp only [vp,e]
    · rw [if_neg e,step_get (R.step p (by omega)) e,run_get R p (by omega) t]
theorem heap_same (R:Run C xs σ):∀ (m p q:Nat),q≤p+m→p≤q→q≤xs.length→(∀ r,p≤r→r<q→(atP xs r).op.calm=true)→(σ q).l=(σ p).l∧(σ q).g=(σ p).g
  | 0, p, q, h1, h2, h3, h4 => by have : p = q := by omega
                                  subst this;exact ⟨rfl,rfl⟩
  | m + 1, p, q, h1, h2, h3, h4 => by
    by_cases e:p=q
    · subst e;exact ⟨rfl,rfl⟩
    · obtain ⟨a1,a2⟩:=step_calm (h4 p (Nat.le_refl _) (by omega)) (R.step p (by omega))
      obtain ⟨b1,b2⟩:=heap_same R m (p+1) q (by omega) (by omega) h3 (fun r h h'=>h4 r (by omega) h')
      exact ⟨b1.trans a1,b2.trans a2⟩
theorem kept_get (R : Run C xs σ) {t : Nat} : ∀ (m p q : Nat), q ≤ p + m → p ≤ q → q ≤ xs.length → (∀ r, p ≤ r → r < q → (atP xs r).dst ≠ some t) → (σ q).get t = (σ p).get t
  | 0, p, q, h1, h2, h3, h4 => by have : p = q := by omega
                                  subst this;rfl
  | m + 1, p, q, h1, h2, h3, h4 => by
    by_cases e:p=q
    · subst e;rfl
    · rw [kept_get R m (p+1) q (by omega) (by omega) h3 (fun r h h'=>h4 r (by omega) h'),step_get (R.step p (by omega)) (h4 p (Nat.le_refl _) (by omega))]
theorem last_loud (f : Nat → Bool) (p : Nat) : ∀ k, (∀ q, p < q → q < k → f q = true) ∨ ∃ q, p < q ∧ q < k ∧ f q = false ∧ ∀ r, q < r → r < k → f r = true
  | 0 => .inl fun q _ h=>by omega
  | k + 1 => by
    by_cases hk:p<k∧f k=false
    · exact .inr ⟨k,hk.1,by omega,hk.2,fun r h1 h2=>by omega⟩
    · rcases last_loud f p k with h | ⟨q,h1,h2,h3,h4⟩
      · refine .inl fun q hq hq' => ?_
        by_cases e:q=k
        · subst e
          cases hf:f q with
          | true=>rfl
          | false=>exact absurd ⟨hq,hf⟩ hk
        · exact h q hq (by omega)
      · refine .inr ⟨q,h1,by omega,h3,fun r hr hr' => ?_⟩
        by_cases e:r=k
        · subst e
          cases hf:f r with
          | true=>rfl
          | false=>exact absurd ⟨by omega,hf⟩ hk
        · exact h4 r hr (by omega)
structure Inv (Γ : Ground) (n:Nat) (ops:Array Oper) (xs:List LOper) (σ : Nat→St) (listed:Array Bool) (k:Nat) (c:Cx) (a:Act):Prop where
 size:listed.size=ops.size
 closed:Closed ops xs listed
 le:k≤xs.length
 loud:∀ q,q<xs.length→(atP xs q).op.calm=false→(Dn xs listed q=true↔q<k)
 good:∃ fr,(∀ t,(⟨fr,(σ k).l,(σ k).g⟩:St).get t=curV (σ 0).get (Wp xs) (vp xs σ) (Dn xs listed) xs.length t)∧Good Γ c ⟨fr,(σ k).l,(σ k).g⟩ a n
theorem calm_of {b:Bool} (h:¬ b=false):b=true:=by cases b <;> simp_all
theorem draw_step (F : DrawFacts P n ops xs M) (R : Run C xs σ) (hC : SoundC P Γ C) {listed : Array Bool} {k : Nat} {c : Cx} {a : Act} (I : Inv Γ n ops xs σ listed k c a) {i : Nat} (hr : i ∈ Region.ready .any ops listed)
    {Q:Exit→Act→World→Prop} {K:Act→World→Prop}
    (hK:∀ k' c' a',Inv Γ n ops xs σ (listed.setIfInBounds i true) k' c' a'→Evolve c c'→left (Dn xs (listed.setIfInBounds i true)) xs.length+1=left (Dn xs listed) xs.length→K a' c'.w):wpOp P ops Q i K a c.w:=by
  obtain ⟨hun,o,ho,hedge⟩:=mem_ready.1 hr
  have hi:i<ops.size:=(Array.getElem?_eq_some_iff.1 ho).1
  obtain ⟨p,hp,rfl⟩:=F.ix i hi
  have hlf:listed.getD (atP xs p).ix false=false:=by
    have hlt:(atP xs p).ix<listed.size:=by rw [I.size];exact hi
    simp [hlt] at hun ⊢
    exact hun
  have hDp:Dn xs listed p=false:=by simp [Dn,hlf]
  have hed:∀ e,e ∈ edges ops (atP xs p).ix→listed.getD e false=true:=fun e he=>by
    obtain ⟨x,h1,h2,rfl⟩:=(mem_edges ho).1 he
    exact hedge x h1 h2
  have ixlt:∀ q,q<xs.length→(atP xs q).ix<ops.size:=fun q hq=>by
    obtain ⟨o',ho',_⟩:=F.all q hq
    exact (Array.getElem?_eq_some_iff.1 ho').1
  have ahead:∀ q,q<xs.length→(M.getD (atP xs p).ix 0).testBit (atP xs q).ix=true→Dn xs listed q=true:=fun q hq hb=>by
    simp only [Dn,hq,decide_true,Bool.true_and]
    exact bits_listed F I.closed p p (Nat.le_refl _) hp hed _ (ixlt q hq) hb
  have behind:∀ q,q<xs.length→(M.getD (atP xs q).ix 0).testBit (atP xs p).ix=true→Dn xs listed q=false:=fun q hq hb=>by
    cases hD:Dn xs listed q with
    | false=>rfl
    | true =>
      simp only [Dn,hq,decide_true,Bool.true_and] at hD
      have:=bits_listed F I.closed q q (Nat.le_refl _) hq (I.closed q hq hD) _ (ixlt p hp) hb
      rw [hlf] at this;cases this
  obtain ⟨fr,hfr,hgood⟩:=I.good
  have huse:∀ t,t ∈ (atP xs p).uses→(⟨fr,(σ k).l,(σ k).g⟩:St).get t=(σ p).get t:=fun t ht=>by
    rw [hfr,run_get R p (by omega)]
    refine curV_at (by omega) (fun q hq hw => ?_) (fun q hq hq' hw => ?_)
    · rcases pair_cases F hq hp with h | ⟨_,_,h,_⟩
      · exact ahead q (by omega) h
      · simp only [Wp] at hw;rw [hw,anyUse_true ht] at h;cases h
    · by_cases e:q=p
      · subst e;exact hDp
      · rcases pair_cases F (q:=p) (p:=q) (by omega) hq' with h | ⟨h,_⟩
        · exact behind q hq' h
        · simp only [Wp] at hw;rw [hw,anyUse_true ht] at h;cases h
  have loudlt:∀ q,q<p→(atP xs q).op.calm=false→q<k:=fun q hq hl=>by
    rcases pair_cases F hq hp with h | ⟨_,_,_,h,_⟩
    · exact (I.loud q (by omega) hl).1 (ahead q (by omega) h)
    · rw [h] at hl;cases hl
  have hst:=R.step p hp
  obtain ⟨s2, k', hs2, hk', hl2, hg2, hv2, hkl⟩ : ∃ s2 k', stepOp C (atP xs p) ⟨fr, (σ k).l, (σ k).g⟩ = some s2 ∧ k' ≤ xs.length ∧ s2.l = (σ k').l ∧ s2.g = (σ k').g ∧
      (∀ t,(atP xs p).dst=some t→s2.get t=(σ (p+1)).get t)∧∀ q,q<xs.length→(atP xs q).op.calm=false→(more (Dn xs listed) p q=true↔q<k'):=by
    by_cases hcp:(atP xs p).op.calm=true
    · -- calm
      have fin:∀ {s2:St},stepOp C (atP xs p) ⟨fr,(σ k).l,(σ k).g⟩=some s2→(∀ t,(atP xs p).dst=some t→s2.get t=(σ (p+1)).get t)→∃ s2 k',stepOp C (atP xs p) ⟨fr,(σ k).l,(σ k).g⟩=some s2∧k'≤xs.length∧s2.l=(σ k').l∧s2.g=(σ k').g ∧
          (∀ t,(atP xs p).dst=some t→s2.get t=(σ (p+1)).get t)∧∀ q,q<xs.length→(atP xs q).op.calm=false→(more (Dn xs listed) p q=true↔q<k'):=by
        intro s2 h1 h2
        obtain ⟨c1,c2⟩:=step_calm hcp h1
        refine ⟨s2,k,h1,I.le,c1,c2,h2,fun q hq hl => ?_⟩
        have:q≠p:=fun e=>by subst e;rw [hcp] at hl;cases hl
        simp only [more,if_neg this]
        exact I.loud q hq hl
      rcases last_loud (fun q=>(atP xs q).op.calm) p k with hnone | ⟨q,hpq,hqk,hql,hlast⟩
      · have hheap:(σ k).l=(σ p).l∧(σ k).g=(σ p).g:=by
          rcases Nat.le_total k p with hkp | hkp
          · obtain ⟨h1,h2⟩:=heap_same R p k p (by omega) hkp (by omega) (fun r h1 h2=>calm_of fun h=>by have:=loudlt r h2 h;omega)
            exact ⟨h1.symm,h2.symm⟩
          · refine heap_same R k p k (by omega) hkp I.le (fun r h1 h2 => ?_)
            by_cases e:r=p
            · subst e;exact hcp
            · exact hnone r (by omega) h2
        obtain ⟨s2,a1,a2,a3,a4⟩:=step_congr (s2:=⟨fr,(σ k).l,(σ k).g⟩) hst hheap.1 hheap.2 huse
        exact fin a1 (fun t ht=>by rw [a4 t,if_pos ht])
      · have hqn:q<xs.length:=by have:=I.le;omega
        have hDq:Dn xs listed q=true:=(I.loud q hqn hql).2 hqk
        rcases pair_cases F hpq hqn with h | ⟨_,_,_,_,h | h | ⟨hag,hkept⟩⟩
        · rw [behind q hqn h] at hDq;cases hDq
        · rw [h] at hql;cases hql
        · obtain ⟨s2,a1,a2,a3,a4⟩:=step_blind (s2:=⟨fr,(σ k).l,(σ k).g⟩) h hst huse
          exact fin a1 (fun t ht=>by rw [a4 t,if_pos ht])
        · have hall:=R.again q hqn
          rw [List.all_eq_true] at hall
          have hone:=hall _ (by simpa using hag)
          unfold againOne at hone
          split at hone
          rotate_left
          · cases hone
          rename_i x hx
          obtain ⟨hmem,hxi⟩:=findIx_done hx
          simp only [List.append_nil,List.mem_reverse] at hmem
          obtain ⟨r,hrq,hrx⟩:=mem_take_atP (by omega) hmem
          have hrp:r=p:=ix_inj F (by omega) hp (by rw [hrx];exact hxi)
          subst hrp
          subst hrx
          obtain ⟨s',b1,b2⟩:=again_step hone
          simp only [keptBetween,Bool.and_eq_true,Bool.not_eq_true',List.all_eq_true,List.mem_range,Bool.or_eq_true,decide_eq_true_eq] at hkept
          obtain ⟨hk1,hk2⟩:=hkept
          have hheap:(σ k).l=(σ (q+1)).l∧(σ k).g=(σ (q+1)).g:=heap_same R k (q+1) k (by omega) (by omega) I.le (fun r h1 h2=>hlast r (by omega) h2)
          have hu2:∀ t,t ∈ (atP xs r).uses→(⟨fr,(σ k).l,(σ k).g⟩:St).get t=(σ (q+1)).get t:=fun t ht=>by
            rw [huse t ht]
            refine (kept_get R (q+1) r (q+1) (by omega) (by omega) (by omega) (fun u h1 h2 hd => ?_)).symm
            by_cases e:u=r
            · subst e;rw [hd,anyUse_true ht] at hk1;cases hk1
            · rcases hk2 u (by omega) with h | ⟨h,_⟩
              · omega
              · rw [hd,anyUse_true ht] at h;cases h
          obtain ⟨s2,a1,a2,a3,a4⟩:=step_congr (s2:=⟨fr,(σ k).l,(σ k).g⟩) b1 hheap.1 hheap.2 hu2
          refine fin a1 (fun t ht => ?_)
          rw [a4 t,if_pos ht,b2 t]
          refine kept_get R q (r+1) (q+1) (by omega) (by omega) (by omega) (fun u h1 h2 hd => ?_)
          rcases hk2 u (by omega) with h | ⟨_,h⟩
          · omega
          · rw [hd,ht] at h;simp [sameDst] at h
    · -- loud
      have hcp':(atP xs p).op.calm=false:=by cases h:(atP xs p).op.calm with
        | true=>exact absurd h hcp
        | false=>rfl
      have hkp:k≤p:=by
        rcases Nat.lt_or_ge p k with h | h
        · have:=(I.loud p hp hcp').2 h
          rw [hDp] at this;cases this
        · exact h
      obtain ⟨h1,h2⟩:=heap_same R p k p (by omega) hkp (by omega) (fun r h1 h2=>calm_of fun h=>by have:=loudlt r h2 h;omega)
      obtain ⟨s2,a1,a2,a3,a4⟩:=step_congr (s2:=⟨fr,(σ k).l,(σ k).g⟩) hst h1.symm h2.symm huse
      refine ⟨s2,p+1,a1,by omega,a2,a3,fun t ht=>by rw [a4 t,if_pos ht],fun q hq hl => ?_⟩
      by_cases e:q=p
      · subst e;simp [more]
      · simp only [more,if_neg e]
        rcases Nat.lt_or_ge q p with h | h
        · have:=(I.loud q hq hl).2 (loudlt q h hl)
          simp [this];omega
        · have:Dn xs listed q=false:=by
            rcases pair_cases F (q:=p) (p:=q) (by omega) hq with hb | ⟨_,_,_,hb,_⟩
            · exact behind q hq hb
            · rw [hcp'] at hb;cases hb
          simp [this];omega
  have hDn:Dn xs (listed.setIfInBounds (atP xs p).ix true)=more (Dn xs listed) p:=funext fun q=>by
    by_cases e:q=p
    · subst e
      have hlt:(atP xs q).ix<listed.size:=by rw [I.size];exact hi
      simp [Dn,more,hp,hlt]
    · simp only [more,if_neg e,Dn]
      by_cases hq:q<xs.length
      · have:(atP xs p).ix≠(atP xs q).ix:=fun h=>e (ix_inj F hq hp h.symm)
        rw [getD_set_ne false this]
      · simp [hq]
  obtain ⟨o',ho',hok⟩:=F.all p hp
  rw [ho] at ho'
  cases ho'
  have := step_rel (Q := Q) (K := K) hC hgood hok hs2 (fun c' a' hg' hE => by
    refine hK k' c' a' ?_ hE ?_
    · refine ⟨by simpa using I.size, ?_,hk',by rw [hDn];exact hkl, ?_⟩
      · intro q hq hl e he
        by_cases hqp:q=p
        · subst hqp;exact getD_set_true (hed e he)
        · have hne:(atP xs p).ix≠(atP xs q).ix:=fun h=>hqp (ix_inj F hq hp h.symm)
          rw [getD_set_ne false hne] at hl
          exact getD_set_true (I.closed q hq hl e he)
      · obtain ⟨fr',hfr'⟩:=curV_fr (W:=Wp xs) (v:=vp xs σ) (D:=more (Dn xs listed) p) (σ 0) xs.length
        refine ⟨fr',fun t=>by rw [hDn];exact hfr' _ _ t,hg'.alike hl2.symm hg2.symm (fun t => ?_)⟩
        rw [hfr']
        by_cases ht:(atP xs p).dst=some t
        · rw [curV_more_eq hp ht (fun q h1 h2 h3 => ?_)]
          · simp only [vp,ht];exact (hv2 t ht).symm
          · rcases pair_cases F h1 h2 with h | ⟨_,h,_⟩
            · exact behind q h2 h
            · simp only [Wp] at h3;rw [h3,ht] at h;simp [sameDst] at h
        · rw [curV_more_ne ht,step_get hs2 ht,hfr]
    · rw [hDn]
      exact ((left_more hDp).1 hp).symm)
  unfold wpOp
  simp only [ho]
  split
  · rename_i hw;rw [if_pos hw] at this;exact .inl this
  · rename_i hw;rw [if_neg hw] at this;exact this
theorem draw_any (F : DrawFacts P n ops xs M) (R : Run C xs σ) (hC : SoundC P Γ C) {Q : Exit → Act → World → Prop} {c0 : Cx} (hQ : ∀ c' a', Good Γ c' (σ xs.length) a' n → Evolve c0 c' → Q .normal a' c'.w) :
    ∀ (fuel:Nat) (listed:Array Bool) (k:Nat) (c:Cx) (a:Act),Inv Γ n ops xs σ listed k c a→Evolve c0 c→left (Dn xs listed) xs.length≤fuel→wpAny P .any ops Q fuel listed a c.w:=by
  have done:∀ {listed:Array Bool} {k:Nat} {c:Cx} {a:Act},Inv Γ n ops xs σ listed k c a→Evolve c0 c→(∀ p,p<xs.length→Dn xs listed p=true)→Region.ready .any ops listed=[]∧Q .normal a c.w:=by
    intro listed k c a I hE hall
    refine ⟨?_, ?_⟩
    · refine List.eq_nil_iff_forall_not_mem.2 fun i hi => ?_
      obtain ⟨hun,o,ho,_⟩:=mem_ready.1 hi
      obtain ⟨p,hp,rfl⟩:=F.ix i (Array.getElem?_eq_some_iff.1 ho).1
      have:=hall p hp
      simp only [Dn,hp,decide_true,Bool.true_and] at this
      have hlt:(atP xs p).ix<listed.size:=by rw [I.size];exact (Array.getElem?_eq_some_iff.1 ho).1
      simp [hlt] at hun this
      rw [hun] at this;cases this
    · obtain ⟨fr,hfr,hgood⟩:=I.good
      obtain ⟨h1,h2⟩:=heap_same R xs.length k xs.length (by omega) I.le (Nat.le_refl _) (fun r h1 h2=>calm_of fun h=>by have:=(I.loud r h2 h).1 (hall r h2);omega)
      refine hQ c a (hgood.alike h1 h2 (fun t => ?_)) hE
      rw [hfr,run_get R xs.length (Nat.le_refl _)]
      exact (curV_all (fun q hq _=>hall q hq)).symm
  have noready:∀ {listed:Array Bool} {k:Nat} {c:Cx} {a:Act},Inv Γ n ops xs σ listed k c a→Region.ready .any ops listed=[]→∀ m p,p≤m→p<xs.length→Dn xs listed p=true:=by
    intro listed k c a I hr m
    induction m with
    | zero =>
      intro p hm hp
      have:p=0:=by omega
      subst this
      cases hD:Dn xs listed 0 with
      | true=>rfl
      | false =>
        obtain ⟨o,ho,_⟩:=F.all 0 hp
        have hlt:(atP xs 0).ix<listed.size:=by rw [I.size];exact (Array.getElem?_eq_some_iff.1 ho).1
        have:(atP xs 0).ix ∈ Region.ready .any ops listed:=mem_ready.2 ⟨by simp [Dn,hp,hlt] at hD ⊢;exact hD,o,ho,fun e he hb=>by
          obtain ⟨q,hq,_⟩:=F.lin 0 hp e.on ((mem_edges ho).2 ⟨e,he,hb,rfl⟩)
          omega⟩
        rw [hr] at this;cases this
    | succ m ih =>
      intro p hm hp
      cases hD:Dn xs listed p with
      | true=>rfl
      | false =>
        obtain ⟨o,ho,_⟩:=F.all p hp
        have hlt:(atP xs p).ix<listed.size:=by rw [I.size];exact (Array.getElem?_eq_some_iff.1 ho).1
        have:(atP xs p).ix ∈ Region.ready .any ops listed:=mem_ready.2 ⟨by simp [Dn,hp,hlt] at hD ⊢;exact hD,o,ho,fun e he hb=>by
          obtain ⟨q,hq,hqe⟩:=F.lin p hp e.on ((mem_edges ho).2 ⟨e,he,hb,rfl⟩)
          have:=ih q (by omega) (by omega)
          simp only [Dn,show q<xs.length by omega,decide_true,Bool.true_and,hqe] at this
          exact this⟩
        rw [hr] at this;cases this
  intro fuel
  induction fuel with
  | zero =>
    intro listed k c a I hE hf
    exact done I hE (left_zero (by omega))
  | succ fuel ih =>
    intro listed k c a I hE hf
    refine ⟨fun hr=>(done I hE (fun p hp=>noready I hr p p (Nat.le_refl _) hp)).2,fun i hi => ?_⟩
    exact draw_step F R hC I hi (fun k' c' a' I' hE' hl=>ih _ k' c' a' I' (hE.trans hE') (by omega))
theorem left_le (D:Nat→Bool):∀ n,left D n≤n
 | 0=>Nat.le_refl _
 | n+1=>by simp only [left];have:=left_le D n;split <;> omega
theorem draw_rel (hm : P.follows .mixedOrders = true) (hok : drawOk P n ops xs = true) (hC : SoundC P Γ C) {c : Cx} {s s' : St} {a : Act} (hg : Good Γ c s a n) (h : runD C [] xs s = some s') {id : Nat} {Q : Exit → Act → World → Prop}
    (hQ:∀ c' a',Good Γ c' s' a' n→Evolve c c'→Q .normal a' c'.w):(Code.region id ops true).wp P Q a c.w:=by
  refine wp_region_any hm ?_
  obtain ⟨σ,h0,h1,h2⟩:=runD_trace xs [] h
  have F:=drawFacts hok
  have R:Run C xs σ := ⟨fun p hp=>(h2 p hp).1,fun p hp=>(h2 p hp).2⟩
  have hb:Go.RowKit.Below c.w.heap.size c.w { c.w with drawn:=c.w.drawn+1 }:=⟨rfl,rfl,rfl,Nat.le_refl _,fun _ _=>rfl⟩
  have hE:=evolve_below hb hg.H.lt
  have hg1:Good Γ { c with w:={ c.w with drawn:=c.w.drawn+1 } } s a n:=⟨hg.l,hg.g,hg.H.below hb,fun t=>hE.relV (hg.F t),hg.G,hg.N,hg.D⟩
  have hno:∀ i,(Array.replicate ops.size false).getD i false=false:=fun i=>by
    by_cases e:i<ops.size <;> simp [e]
  have hD:Dn xs (Array.replicate ops.size false)=fun _=>false:=funext fun p=>by simp only [Dn,hno,Bool.and_false]
  have I0:Inv Γ n ops xs σ (Array.replicate ops.size false) 0 { c with w:={ c.w with drawn:=c.w.drawn+1 } } a:=by
    refine ⟨by simp,fun p hp hl => ?_,by omega,fun q hq hl => ?_,⟨s.fr,fun t => ?_, ?_⟩⟩
    · rw [hno] at hl;cases hl
    · rw [hD];simp
    · rw [hD]
      have:∀ n,curV (σ 0).get (Wp xs) (vp xs σ) (fun _=>false) n t=(σ 0).get t:=fun n=>by
        induction n with
        | zero=>rfl
        | succ n ih=>simp [curV,ih]
      rw [this,h0]
    · rw [h0];exact hg1
  exact draw_any F R hC (fun c' a' hg' hE'=>hQ c' a' (by rw [← h1];exact hg') (hE.trans hE')) ops.size _ 0 _ a I0 (Evolve.refl _) (by rw [← F.len];exact left_le _ _)
end
end Go.TA


end
