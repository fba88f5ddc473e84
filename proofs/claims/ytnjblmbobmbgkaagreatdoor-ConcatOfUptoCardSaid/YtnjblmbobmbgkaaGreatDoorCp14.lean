/- Part 14 of 15 of a proof; joined from CofFirstG, CofPNew, CofRunsNew, CofRMove, CofRRem, CofRWith, CofRSet, CofRMake, CofRNew, CofRDo, CofRDo2, CofRRun. The document's answer runs a script. -/
import Derived.Test.YtnjblmbobmbgkaaGreatDoorCp1
import Derived.Test.YtnjblmbobmbgkaaGreatDoorCp13
import Derived.Test.YtnjblmbobmbgkaaGreatDoorCp11
import Derived.Test.YtnjblmbobmbgkaaGreatDoorCp12
import Derived.Test.YtnjblmbobmbgkaaGreatDoorCp6
import Derived.Test.YtnjblmbobmbgkaaGreatDoorCp7
set_option linter.unusedSimpArgs false
set_option linter.unusedVariables false
section
/- The first operation of a list that may not be, by the program and by the document's answer. -/
set_option maxRecDepth 100000
set_option maxHeartbeats 8000000
namespace Go.TA.Tryz
noncomputable def firstE:List GOp→Nat→Nat × Int
 | [],i=>(0,0)
 | x::l,i=>if opErr x=0 then firstE l (i+1) else (i,opErr x)
theorem firstE_drop {L:List GOp} {i:Nat} {x:GOp} (hx:L[i]? = some x):firstE (L.drop i) i=if opErr x=0 then firstE (L.drop (i+1)) (i+1) else (i,opErr x):=by
 have:L.drop i=x::L.drop (i+1):=by rw [List.drop_eq_getElem?_toList_append,hx];rfl
 rw [this,firstE]
theorem firstE_err {L:List GOp} {i:Nat} (h:(firstE L i).2=0):firstE L i=(0,0)∧∀ x ∈ L,opErr x=0:=by
  induction L generalizing i with
  | nil=>exact ⟨rfl,by simp⟩
  | cons x l ih =>
    rw [firstE] at h ⊢
    by_cases e:opErr x=0
    · rw [if_pos e] at h ⊢
      obtain ⟨h1,h2⟩:=ih h
      exact ⟨h1,fun y hy=>(List.mem_cons.1 hy).elim (fun q=>q ▸ e) (h2 y)⟩
    · rw [if_neg e] at h
      exact absurd h e
theorem firstP_run (L : List GOp) (hL : ∀ x ∈ L, x.attrs.length ≤ 1048576) (hlen : L.length ≤ 1048576) (g : List AObj) {n : Nat} (hn : 1048577 < n) :
    acall T (n+39) 53 [.p (.list (L.map GOp.pv))] g=some (.tuple [.p (.int .i64 (firstE L 0).1),.p (.int .i64 (firstE L 0).2)],g):=by
  have key:=loop_inv (C:=acall T (n+38)) (N:=n+38) (B:=B53x0) (σ := Nat) (S:=fun i=>⟨[(7,.p (.list (L.map GOp.pv))),(8,.p (.int .i64 L.length)),(9,.p (.int .i64 i))],[],[]⟩)
    (I:=fun i=>i≤L.length∧firstE L 0=firstE (L.drop i) i) (μ := fun i=>L.length - i) (Q:=fun r=>(firstE L 0=(0,0)∧r=(.exit 0,⟨[],[],[]⟩))∨r=(.ret,⟨[(2,.p (.int .i64 (firstE L 0).1)),(3,.p (.int .i64 (firstE L 0).2))],[],[]⟩)) ?_ 0 (by simp) (by omega)
  · obtain ⟨r,hr,hq⟩:=key
    rw [acall_code T53,run_pure rfl rfl rfl]
    simp only [Int.natCast_zero] at hr
    rcases hq with ⟨e,rfl⟩ | rfl
    · rw [e]
      simp -implicitDefEqProofs (disch:=omega) only [Rx,simprocAttr,F53,hr,Int.natCast_zero]
    · simp -implicitDefEqProofs (disch:=omega) only [Rx,simprocAttr,F53,hr]
  rintro i ⟨hi,hf⟩
  by_cases h:i<L.length
  · obtain ⟨x,hx⟩:=get_some h
    have hg:=getD_map (f:=GOp.pv) hx
    have hxl:=hL x (List.mem_of_getElem? hx)
    have k1:(i:Int)<(L.length:Int):=by omega
    have k2:((i:Int)==1048576)=false:=by simp;omega
    have hc:=fun g=>opsP_run x g (n:=n) (by omega) hxl
    simp only [GOp.pv,attrsPV] at hc
    rw [firstE_drop hx] at hf
    by_cases he:opErr x=0
    · left
      rw [if_pos he] at hf
      refine ⟨i+1, ?_,⟨by omega,hf⟩,by omega⟩
      rw [he] at hc
      simp -implicitDefEqProofs (disch:=omega) only [Rx,simprocAttr,B53x0,k1,k2,hg,GOp.pv,attrsPV,hc]
    · right
      rw [if_neg he] at hf
      have he':(opErr x==0)=false:=by simpa using he
      refine ⟨_, ?_, ?_,.inr rfl⟩
      · rw [hf]
        simp -implicitDefEqProofs (disch:=omega) only [Rx,simprocAttr,B53x0,k1,k2,hg,GOp.pv,attrsPV,hc,he']
      · simp
  · right
    obtain rfl:i=L.length:=by omega
    have k1:¬ (L.length:Int)<(L.length:Int):=by omega
    rw [List.drop_length] at hf
    refine ⟨_, ?_, ?_,.inl ⟨hf,rfl⟩⟩
    · simp -implicitDefEqProofs (disch:=omega) only [Rx,simprocAttr,B53x0,k1]
    · simp
theorem firstR_run (L : List GOp) (hL : ∀ x ∈ L, x.attrs.length ≤ 1048576 ∧ smallAttrs x.attrs) (hlen : L.length ≤ 1048576) (g : List AObj) {n : Nat} (hn : 1048577 < n) :
    acall T (n+38) 55 [.p (.list (L.map GOp.pv))] g=some (.tuple [.p (.int .i64 (firstE L 0).1),.p (.int .i64 (firstE L 0).2)],g):=by
  have key:=loop_inv (C:=acall T (n+37)) (N:=n+37) (B:=B55x0) (σ := Nat) (S:=fun i=>⟨[(0,.p (.list (L.map GOp.pv))),(7,.p (.int .i64 L.length)),(8,.p (.int .i64 i))],[],[]⟩)
    (I:=fun i=>i≤L.length∧firstE L 0=firstE (L.drop i) i) (μ := fun i=>L.length - i) (Q:=fun r=>(firstE L 0=(0,0)∧r=(.exit 0,⟨[],[],[]⟩))∨r=(.ret,⟨[(2,.p (.int .i64 (firstE L 0).1)),(3,.p (.int .i64 (firstE L 0).2))],[],[]⟩)) ?_ 0 (by simp) (by omega)
  · obtain ⟨r,hr,hq⟩:=key
    rw [acall_code T55,run_pure rfl rfl rfl]
    simp only [Int.natCast_zero] at hr
    rcases hq with ⟨e,rfl⟩ | rfl
    · rw [e]
      simp -implicitDefEqProofs (disch:=omega) only [Rx,simprocAttr,F55,hr,Int.natCast_zero]
    · simp -implicitDefEqProofs (disch:=omega) only [Rx,simprocAttr,F55,hr]
  rintro i ⟨hi,hf⟩
  by_cases h:i<L.length
  · obtain ⟨x,hx⟩:=get_some h
    have hg:=getD_map (f:=GOp.pv) hx
    obtain ⟨hxl,hxs⟩:=hL x (List.mem_of_getElem? hx)
    have k1:(i:Int)<(L.length:Int):=by omega
    have k2:((i:Int)==1048576)=false:=by simp;omega
    have hc:=fun g=>ref25_run x hxs g (n:=n) (by omega) (by omega)
    simp only [GOp.pv,attrsPV] at hc
    rw [firstE_drop hx] at hf
    by_cases he:opErr x=0
    · left
      rw [if_pos he] at hf
      refine ⟨i+1, ?_,⟨by omega,hf⟩,by omega⟩
      rw [he] at hc
      simp -implicitDefEqProofs (disch:=omega) only [Rx,simprocAttr,B55x0,k1,k2,hg,GOp.pv,attrsPV,hc]
    · right
      rw [if_neg he] at hf
      have he':(opErr x==0)=false:=by simpa using he
      refine ⟨_, ?_, ?_,.inr rfl⟩
      · rw [hf]
        simp -implicitDefEqProofs (disch:=omega) only [Rx,simprocAttr,B55x0,k1,k2,hg,GOp.pv,attrsPV,hc,he']
      · simp
  · right
    obtain rfl:i=L.length:=by omega
    have k1:¬ (L.length:Int)<(L.length:Int):=by omega
    rw [List.drop_length] at hf
    refine ⟨_, ?_, ?_,.inl ⟨hf,rfl⟩⟩
    · simp -implicitDefEqProofs (disch:=omega) only [Rx,simprocAttr,B55x0,k1]
    · simp
end Go.TA.Tryz


end
section
/- The machine of rows that are right. -/
set_option maxRecDepth 100000
set_option maxHeartbeats 8000000
namespace Go.TA.Tryz
def newS (l:List GRow) (i:Nat) (av:Nat→AV) (rest:List AObj):St:=⟨[(5,.ptr true 1 1 1 0 0),(17,.p (.list (l.map GRow.pv))),(18,.p (.int .i64 l.length)),(19,.p (.int .i64 i))],[],machG (i+1) (st0 l) av rest⟩
theorem new_loop {n N : Nat} (l : List GRow) (hl : l.length ≤ 1048576) (hal : ∀ x ∈ l, x.attrs.length ≤ 1048577) (hs : standTo l l.length) (hN : l.length < N) :
    ∃ r,aexec (acall T (n+1)) N (.loop B12x0) (newS l 0 (fun _ => .nils) [])=some r∧∃ av rest,r=(.exit 0,⟨[(5,.ptr true 1 1 1 0 0)],[],machG (l.length+1) (st0 l) av rest⟩)∧MOk (l.length+1) av (kd0 l l.length) rest∧∀ h,h<l.length+1→∀ ks,av h ≠ .p ks:=by
  refine loop_inv (σ := Nat × (Nat→AV) × List AObj) (S:=fun s=>newS l s.1 s.2.1 s.2.2) (I:=fun s=>s.1≤l.length∧MOk (s.1+1) s.2.1 (kd0 l s.1) s.2.2∧∀ h,h<s.1+1→∀ ks,s.2.1 h ≠ .p ks) (μ := fun s=>l.length - s.1)
    (Q:=fun r=>∃ av rest,r=(.exit 0,⟨[(5,.ptr true 1 1 1 0 0)],[],machG (l.length+1) (st0 l) av rest⟩)∧MOk (l.length+1) av (kd0 l l.length) rest∧∀ h,h<l.length+1→∀ ks,av h ≠ .p ks) ?_ (0,(fun _ => .nils),[]) ⟨by omega,⟨fun h _ => .none,fun _ _ _ _ _ => .inl rfl⟩,fun h _ ks=>by simp⟩ (by simp only;omega)
  rintro ⟨i,av,rest⟩ ⟨h1,h2,h3⟩
  simp only at h1 h2 h3 ⊢
  by_cases hi:i<l.length
  · left
    obtain ⟨x,hx,hu⟩:=up_val hs (Nat.le_refl _) hi
    have hle:=upAt_le hs hi hi
    have hg:=getD_map (f:=GRow.pv) hx
    have k1:(i:Int)<(l.length:Int):=by omega
    have hcl:=cloneA_run x.attrs (hal x (List.mem_of_getElem? hx)) [] n
    generalize hU:upAt l (i+1)=u at hu hle
    have hst:st0 l (i+1)=nodeOf x:=by simp [st0,hx]
    have hpush:rowsAV (i+1) (st0 l) av++[[.p (.bool true),.p (.int .i64 u),.nils,.p (.str x.tag),.p (.str x.key),.p (.str x.text),.p (.list (x.attrs.map Attr.pv))]]=rowsAV (i+1+1) (st0 l) (upd av (i+1) .nils):=by
      have:=rowsAV_push (N:=i+1) (st:=st0 l) (av:=av) (nodeOf x) .nils
      simp only [nodeAV,nodeOf,hu] at this
      rw [this]
      refine rowsAV_congr fun k hk=>⟨?_,rfl⟩
      by_cases e:k=i+1
      · subst e;rw [upd_at,hst,nodeOf,hu]
      · rw [upd_ne e]
    have hM:=h2.push
    have len1:(rowsAV (i+1) (st0 l) av).length=i+1:=rowsAV_len
    have len2:(rowsAV (i+1+1) (st0 l) (upd av (i+1) .nils)).length=i+1+1:=rowsAV_len
    have hgu:(rowsAV (i+1+1) (st0 l) (upd av (i+1) .nils)).getD u []=nodeAV (st0 l u) (upd av (i+1) .nils u):=rowsAV_get (by omega)
    have hkd:∀ h,h<i+1+1→upd (upd (kd0 l i) (i+1) []) u (upd (kd0 l i) (i+1) [] u++[(i:Int)+1]) h=kd0 l (i+1) h:=by
      intro h hh
      have hnew:upd (kd0 l i) (i+1) [] h=kd0 l i h:=by
        by_cases e:h=i+1
        · subst e;rw [upd_at,kd0_new (hs.mono (by omega)) (by omega)]
        · rw [upd_ne e]
      rw [kd0_succ hx,hu]
      by_cases e:h=u
      · subst e
        rw [upd_at,hnew,if_pos rfl]
      · rw [upd_ne e,hnew,if_neg (by omega)]
    have hset:∀ a,(rowsAV (i+1+1) (st0 l) (upd av (i+1) .nils)).set u [.p (.bool (st0 l u).live),.p (.int .i64 (st0 l u).up),a,.p (.str (st0 l u).tag),.p (.str (st0 l u).key),.p (.str (st0 l u).text),.p (.list ((st0 l u).attrs.map Attr.pv))]=rowsAV (i+1+1) (st0 l) (upd (upd av (i+1) .nils) u a):=by
      intro a
      have:=rowsAV_set (N:=i+1+1) (st:=st0 l) (av:=upd av (i+1) .nils) (h:=u) (by omega) (st0 l u) a
      simp only [nodeAV] at this
      rw [this]
      refine rowsAV_congr fun k hk=>⟨?_,rfl⟩
      by_cases e:k=u
      · subst e;rw [upd_at]
      · rw [upd_ne e]
    have hK:=hM.kids u (by omega)
    generalize hav:upd av (i+1) .nils u=a at hK hgu
    generalize hks:upd (kd0 l i) (i+1) [] u=ks at hK hkd
    simp only [nodeAV] at hgu
    have hle2:(u:Int)<(i:Int)+1+1:=by omega
    have hkl:ks.length≤1048576:=by
      rw [← hks]
      by_cases e:u=i+1
      · rw [e,upd_at];simp
      · rw [upd_ne e]
        simp only [kd0,List.length_map]
        have:=List.length_filter_le (fun k=>((l[k]?).map (fun x=>x.up==(u:Int))).getD false) (List.range i)
        simp only [List.length_range] at this
        omega
    rcases hK.inv with ⟨rfl,rfl⟩ | ⟨r,rfl,hr⟩ | rfl
    · refine ⟨(i+1,upd (upd av (i+1) .nils) u (.own true (rest.length+1+1) 1),rest++[.pcells 1 [[.int .i64 ((i:Int)+1)]]]), ?_,⟨by omega, ?_, ?_⟩,by simp only;omega⟩
      · have hsl:∀ o o':AObj,(rest++[o]).set rest.length o'=rest++[o']:=fun o o'=>by simp [List.set_append]
        simp only [newS,machG]
        simp -implicitDefEqProofs (disch:=omega) only [Rx,simprocAttr,B12x0,k1,hg,GRow.pv,attrsPV,hcl,hpush,len1,len2,hgu,hset,hu,hle2,hsl]
      · have:=hM.fresh (u:=u) (by omega) [(i:Int)+1]
        simp only [List.length_singleton,intsPV,List.map_cons,List.map_nil] at this
        refine ⟨fun h hh => ?_,this.disj⟩
        have q:=this.kids h hh
        rw [← hkd h hh]
        simpa [hks] using q
      · intro h hh ks
        by_cases e:h=u
        · subst e;simp [upd]
        · simp only
          rw [upd_ne e]
          by_cases e':h=i+1
          · subst e';simp [upd]
          · rw [upd_ne e'];exact h3 h (by omega) ks
    · have hrl:r<rest.length:=(List.getElem?_eq_some_iff.1 hr).1
      refine ⟨(i+1,upd (upd av (i+1) .nils) u (.own true (r+1+1) (ks.length+1)),rest.set r (.pcells 1 (intsPV ks++[[.int .i64 ((i:Int)+1)]]))), ?_,⟨by omega, ?_, ?_⟩,by simp only;omega⟩
      · simp only [newS,machG]
        have il:=intsPV_len ks
        simp -implicitDefEqProofs (disch:=omega) only [Rx,simprocAttr,B12x0,k1,hg,GRow.pv,attrsPV,hcl,hpush,len1,len2,hgu,hset,hu,hle2,hr,il,List.length_append]
      · have:=hM.turn (u:=u) (r:=r) (by omega) (by rw [hav,hks]) hrl (ks++[(i:Int)+1])
        simp only [List.length_append,List.length_singleton, ← intsPV_snoc] at this
        refine ⟨fun h hh => ?_,this.disj⟩
        have q:=this.kids h hh
        rw [← hkd h hh]
        exact q
      · intro h hh ks
        by_cases e:h=u
        · subst e;simp [upd]
        · simp only
          rw [upd_ne e]
          by_cases e':h=i+1
          · subst e';simp [upd]
          · rw [upd_ne e'];exact h3 h (by omega) ks
    · exfalso
      by_cases e:u=i+1
      · rw [e,upd_at] at hav;cases hav
      · rw [upd_ne e] at hav;exact h3 u (by omega) _ hav
  · right
    obtain rfl:i=l.length:=by omega
    have k1:¬ (l.length:Int)<(l.length:Int):=by omega
    refine ⟨_, ?_, ?_,av,rest,rfl,h2,h3⟩
    · simp only [newS]
      simp -implicitDefEqProofs (disch:=omega) only [Rx,simprocAttr,B12x0,k1]
    · simp
theorem new_run (l:List GRow) {m:Nat} (hl:Rows.mid m l) (hm:m≤1048577) (h:check13 l=0) {n:Nat} (hn:1048577<n) :
  ∃ av rest,acall T (n+l.length+44) 12 [.p (.list (l.map GRow.pv))] []=some (.tuple [.ptr true 1 1 1 0 0,.p (.int .i64 0)],machG (l.length+1) (st0 l) av rest)∧MOk (l.length+1) av (kd0 l l.length) rest∧∀ h,h<l.length+1→∀ ks,av h ≠ .p ks:=by
 have hlen:=hl.len
 have hfc:=flatCheckE_mid l hl hm hn []
 rw [h] at hfc
 have hs:standTo l l.length:=formed_stands (check13_ok h).1
 obtain ⟨r,hr,av,rest,rfl,hok,hpp⟩:=new_loop (n:=n+l.length+42) (N:=n+l.length+43) l (by omega) (fun x hx=>by have:=(hl.row x hx).attrs;omega) hs (by omega)
 refine ⟨av,rest, ?_,hok,hpp⟩
 rw [acall_code T12,run_code rfl rfl]
 have h0:rowsAV 1 (st0 l) (fun _=>AV.nils)=[nodeAV holder .nils]:=rfl
 simp only [newS,machG,Nat.zero_add,Int.natCast_zero,h0,nodeAV,holder,List.map_nil] at hr ⊢
 simp -implicitDefEqProofs (disch:=omega) only [Rx,simprocAttr,F12,hfc,hr]
end Go.TA.Tryz


end
section
/- Rows that are not right: no machine. -/
set_option maxRecDepth 100000
set_option maxHeartbeats 8000000
namespace Go.TA.Tryz
theorem newE_run (l:List GRow) {m:Nat} (hl:Rows.mid m l) (hm:m≤1048577) (h:check13 l≠0) {n:Nat} (hn:1048577<n) :
  acall T (n+l.length+44) 12 [.p (.list (l.map GRow.pv))] []=some (.tuple [.p .nilp,.p (.int .i64 (check13 l))],[]):=by
 have hfc:=flatCheckE_mid l hl hm hn []
 have e1:(check13 l==0)=false:=by simpa using h
 rw [acall_code T12,run_code rfl rfl]
 generalize check13 l=e at hfc e1 ⊢
 simp -implicitDefEqProofs (disch:=omega) only [Rx,simprocAttr,F12,hfc,e1]
end Go.TA.Tryz


end
section
/- The document's answer: a node is put elsewhere below the same one. -/
set_option maxRecDepth 100000
set_option maxHeartbeats 8000000
namespace Go.TA.Tryz
section
variable {R:Nat} {S:MS} {nx:Int} {av:Nat→AV} {p q:Nat} {g:List AObj}
theorem moveD_run (hS : S.Ok R) (hD : DM (liveL S) S.st S.kd nx av p q g) (hL : (liveL S).length ≤ 4194304) (id b : Int) {n : Nat} (hn : (liveL S).length < n) :
    ∃ av' g',acall T (n+4) 85 [DP p,.p (.int .i64 id),.p (.int .i64 b)] g=some (.p (.int .i64 (moveD S id b).1),g')∧DM (liveL (moveD S id b).2) (moveD S id b).2.st (moveD S id b).2.kd nx av' p q g'∧DFr (liveL S) av p q g (liveL (moveD S id b).2) av' q g':=by
  obtain ⟨o,ho,hrep⟩:=hD.core.row
  have hob:=hD.core.obj
  have hix:=fun s i=>hrep.idx rowsD_len s true q i
  have hno:=noneD_run hD.core hL id (n:=n+1) (by omega)
  have hat:=fun id=>at_run hD.core hL id (n:=n+2) (by omega)
  unfold moveD
  by_cases hf:fitE S id≠0
  · rw [if_pos hf]
    have e1:(fitE S id==0)=false:=by simpa using hf
    refine ⟨av,g, ?_,hD,DFr.refl _ _ _ _ _⟩
    rw [acall_code T85,run_code rfl rfl]
    generalize fitE S id=e at hno e1 ⊢
    simp -implicitDefEqProofs (disch:=omega) only [Rx,simprocAttr,F85,hno,e1]
  rw [if_neg hf]
  obtain ⟨c,rfl,hcL,hc0⟩:=fit_live hf
  simp only [ne_eq,Decidable.not_not] at hf
  rw [hf] at hno
  have hat3:=hat b
  by_cases hl:liveB S b=false
  · rw [if_pos hl]
    refine ⟨av,g, ?_,hD,DFr.refl _ _ _ _ _⟩
    rw [posL_dead hl] at hat3
    rw [acall_code T85,run_code rfl rfl]
    simp -implicitDefEqProofs (disch:=omega) only [Rx,simprocAttr,F85,hno,hat3]
  rw [if_neg hl]
  simp only [Bool.not_eq_false] at hl
  obtain ⟨w,rfl,hwL⟩:=live_liveL hl
  obtain ⟨ic,hpc,hic⟩:=posL_in hcL
  obtain ⟨iw,hpw,hiw⟩:=posL_in hwL
  have hat1:=hat (c:Int)
  rw [hpc] at hat1
  rw [hpw] at hat3
  have lc:=(List.getElem?_eq_some_iff.1 hic).1
  have lw:=(List.getElem?_eq_some_iff.1 hiw).1
  have kc:(ic:Int)<((liveL S).length:Int):=by omega
  have kw:(iw:Int)<((liveL S).length:Int):=by omega
  have kw0:¬ (iw:Int)<0:=by omega
  have rdc:=rd_node hrep hic (j:=1) (by omega)
  have rdw:=rd_node hrep hiw (j:=1) (by omega)
  simp only [nAV] at rdc rdw
  have uo:upOf S (c:Int)=(S.st c).up:=rfl
  have ub:upOf S (w:Int)=(S.st w).up:=rfl
  rw [uo,ub]
  simp only [Int.toNat_natCast]
  obtain ⟨hcN,hcl⟩:=mem_liveL.1 hcL
  obtain ⟨hwN,hwl⟩:=mem_liveL.1 hwL
  by_cases h16:(S.st c).up<0
  · rw [if_pos h16]
    refine ⟨av,g, ?_,hD,DFr.refl _ _ _ _ _⟩
    rw [acall_code T85,run_code rfl rfl]
    simp -implicitDefEqProofs (disch:=omega) only [Rx,simprocAttr,F85,hno,hat1,hat3,kw0,hob,ho,hix,rdc,h16]
  rw [if_neg h16]
  obtain ⟨u,hu,huN,hul,hkid⟩:=hS.up_nat hcN (by omega)
  rw [hu] at h16 rdc ⊢
  by_cases e0:(w:Int)=(c:Int)
  · rw [if_pos (.inl e0)]
    have q1:((w:Int)==(c:Int))=true:=by simpa using e0
    refine ⟨av,g, ?_,hD,DFr.refl _ _ _ _ _⟩
    rw [acall_code T85,run_code rfl rfl]
    simp -implicitDefEqProofs (disch:=omega) only [Rx,simprocAttr,F85,hno,hat1,hat3,kw0,hob,ho,hix,rdc,h16,q1]
  have q1:((w:Int)==(c:Int))=false:=by simpa using e0
  by_cases h18:(w:Int)≠0∧(S.st w).up≠(u:Int)
  · rw [if_pos (.inr h18)]
    refine ⟨av,g, ?_,hD,DFr.refl _ _ _ _ _⟩
    have e1:((w:Int)==0)=false:=by simpa using h18.1
    have e2:((S.st w).up==(u:Int))=false:=by simpa using h18.2
    rw [acall_code T85,run_code rfl rfl]
    simp -implicitDefEqProofs (disch:=omega) only [Rx,simprocAttr,F85,hno,hat1,hat3,kw0,hob,ho,hix,rdc,rdw,h16,q1,e1,e2]
  rw [if_neg (fun h=>h.elim e0 h18)]
  simp only [Int.toNat_natCast]
  have huL:u ∈ liveL S:=mem_liveL.2 ⟨huN,hul⟩
  obtain ⟨iu,hpu,hiu⟩:=posL_in huL
  have hat2:=hat (u:Int)
  rw [hpu] at hat2
  have lu:=(List.getElem?_eq_some_iff.1 hiu).1
  have ku:(iu:Int)<((liveL S).length:Int):=by omega
  have hkl:=kd_len hS huN
  have hK:=hD.kids u huL
  generalize hl1:(S.kd u).filter (fun k => !(k==(c:Int)))=l1
  have hl1n:l1.length≤(S.kd u).length:=by rw [← hl1];exact List.length_filter_le _ _
  have hbk:(w:Int)=0∨(w:Int) ∈ l1:=by
    by_cases e:(w:Int)=0
    · exact .inl e
    · right
      by_cases e2:(S.st w).up=(u:Int)
      · rw [← hl1,List.mem_filter]
        exact ⟨kid_in hS hwN e2,by simp;omega⟩
      · exact absurd ⟨e,e2⟩ h18
  have hks:=inL_insI (l:=l1) (h:=(c:Int)) (by rw [← hl1];exact (hS.nodup u huN).filter _) (by rw [← hl1];exact fun h=>zero_kid hS huN (List.mem_filter.1 h).1) hbk
  have hout:=out_run (S.kd u) (c:Int) (by omega) [] (n:=n+2) (by omega)
  rw [hl1] at hout
  have hin:=in_run l1 (c:Int) (w:Int) (by omega) [] (n:=n+2) (by omega)
  rw [hks] at hin
  have hD1:=hD.core.kill (hD.away u huL).1 (hD.away u huL).2
  obtain ⟨o1,hk1,hr1⟩:=kidsF_run hD1 hL huL (intsPV (insI l1 (c:Int) (w:Int))) (n:=n+1) (by omega)
  have hD2:=hD.fix huL (insI l1 (c:Int) (w:Int)) hr1
  have hF2:=DFr.fix hD huL (intsPV (insI l1 (c:Int) (w:Int))) o1
  have htk:takeM S c=⟨S.N,upd S.st c { S.st c with up := -1 },upd S.kd u l1⟩:=by
    unfold takeM
    rw [if_neg (by omega),hu,Int.toNat_natCast,hl1]
  have hlive:liveL (placeM (takeM S c) c u (w:Int))=liveL S:=liveL_congr (by rw [htk];rfl) (fun k=>by
    rw [htk]
    simp only [placeM]
    by_cases e:k=c
    · subst e;rw [upd_at,upd_at]
    · rw [upd_ne e,upd_ne e])
  refine ⟨_,_, ?_,by
    rw [hlive]
    refine hD2.congr fun k hk=>⟨?_, ?_⟩
    · rw [htk]
      simp only [placeM]
      by_cases e:k=c
      · subst e;rw [upd_at,upd_at, ← hu]
      · rw [upd_ne e,upd_ne e]
    · rw [htk]
      simp only [placeM,upd_at]
      by_cases e:k=u
      · subst e;rw [upd_at,upd_at]
      · rw [upd_ne e,upd_ne e,upd_ne e],by rw [hlive];exact hF2⟩
  have rdu:=rd_node hrep hiu (j:=2) (by omega)
  simp only [nAV] at rdu
  generalize insI l1 (c:Int) (w:Int)=ks' at hin hk1
  have hfz:=hK.frz
  generalize killG g (av u)=g1 at hk1 hfz
  generalize av u=au at rdu hfz
  rw [acall_code T85,run_code rfl rfl]
  by_cases e:(w:Int)=0
  · have e1:((w:Int)==0)=true:=by simpa using e
    simp -implicitDefEqProofs (disch:=omega) only [Rx,simprocAttr,F85,hno,hat1,hat2,hat3,kw0,hob,ho,hix,rdc,rdu,h16,q1,e1,hout,hin,hk1,hfz]
  · have e1:((w:Int)==0)=false:=by simpa using e
    have e2:((S.st w).up==(u:Int))=true:=by
      by_cases e2:(S.st w).up=(u:Int)
      · simpa using e2
      · exact absurd ⟨e,e2⟩ h18
    simp -implicitDefEqProofs (disch:=omega) only [Rx,simprocAttr,F85,hno,hat1,hat2,hat3,kw0,hob,ho,hix,rdc,rdw,rdu,h16,q1,e1,e2,hout,hin,hk1,hfz]
end
end Go.TA.Tryz


end
section
/- The document's answer: a node ends, and all below it. -/
set_option maxRecDepth 100000
set_option maxHeartbeats 8000000
namespace Go.TA
noncomputable def removeD (S:MS) (id:Int):Int × MS:=if fitE S id≠0 then (fitE S id,S) else (0,endM (takeM S id.toNat) id)
theorem below_same {S S':MS} {t:Int} (h:∀ y:Int,y≠t→upOf S' y=upOf S y) (y:Int):Below S t y↔Below S' t y:=by
  constructor
  · intro hb
    induction hb with
    | here=>exact .here
    | @up y h1 h2 ih =>
      by_cases e:y=t
      · subst e;exact .here
      · exact .up h1 (by rw [h y e];exact ih)
  · intro hb
    induction hb with
    | here=>exact .here
    | @up y h1 h2 ih =>
      by_cases e:y=t
      · subst e;exact .here
      · exact .up h1 (by rw [← h y e];exact ih)
theorem take_below {S:MS} {c:Nat} (hc:0<c) (y:Int):Below S (c:Int) y↔Below (takeM S c) (c:Int) y:=by
 refine below_same (fun z hz => ?_) y
 unfold takeM
 split
 ·rfl
 ·have:z.toNat≠c:=by omega
  simp only [upOf]
  rw [upd_ne this]
theorem DM.swap {L L':List Nat} {st:Nat→MNode} {kd:Nat→List Int} {nx:Int} {av:Nat→AV} {p q:Nat} {g:List AObj} (h:DM L st kd nx av p q g) (hs:∀ k ∈ L',k ∈ L) (hn:L'.Nodup) {o:AObj} (hr:RowRep 7 (rowsD L' st av) o):DM L' st kd nx av p g.length ((g++[o]).set p (.cells 2 [[.own true g.length L'.length,.p (.int .i64 nx)]])):=by
 have hp:=(List.getElem?_eq_some_iff.1 h.core.obj).1
 refine ⟨⟨?_,⟨o, ?_,hr⟩,by omega,hn⟩,fun k hk => ?_,fun k hk => ?_,fun k k' hk hk' hne=>h.disj k k' (hs k hk) (hs k' hk') hne⟩
 ·rw [List.getElem?_set,if_pos rfl,if_pos (by rw [List.length_append];omega)]
 ·rw [List.getElem?_set,if_neg (by omega)];simp
 ·refine (h.kids k (hs k hk)).keep fun r hr => ?_
  have:=(h.kids k (hs k hk)).ref_lt hr
  rw [List.getElem?_set,if_neg (fun e=>(h.away k (hs k hk)).1 (by rw [e];exact hr)),List.getElem?_append_left this]
 ·refine ⟨(h.away k (hs k hk)).1,fun hr => ?_⟩
  have:=(h.kids k (hs k hk)).ref_lt hr
  omega
theorem DFr.swap {L L':List Nat} {av:Nat→AV} {p q:Nat} {g:List AObj} (hs:∀ k ∈ L',k ∈ L) (o o':AObj):DFr L av p q g L' av g.length ((g++[o]).set p o') where
 len:=by simp
 keep j hj hp hq hn:=by rw [List.getElem?_set,if_neg (fun e=>hp e.symm),List.getElem?_append_left hj]
 row:=.inr (Nat.le_refl _)
 refs k hk j hj _:=⟨k,hs k hk,hj⟩
theorem liveL_end {S:MS} {c:Nat} (hc:0<c):liveL (endM (takeM S c) (c:Int))=(liveL S).filter fun h:Nat => !(underB S (h:Int) (c:Int)):=by
 classical
 unfold liveL
 rw [List.filter_filter,show (endM (takeM S c) (c:Int)).N=S.N from takeM_N S c]
 congr 1
 funext h
 simp only [endM]
 by_cases hb:Below (takeM S c) (c:Int) (h:Int)
 ·rw [if_pos hb,underB_iff.2 ((take_below hc _).2 hb)];rfl
 ·have:underB S (h:Int) (c:Int)=false:=by
   cases e:underB S (h:Int) (c:Int) with
   | false=>rfl
   | true=>exact absurd ((take_below hc _).1 (underB_iff.1 e)) hb
  rw [if_neg hb,takeM_live,this];simp
theorem end_kept {S:MS} {c:Nat} (hc:0<c):∀ k ∈ (liveL S).filter fun h:Nat => !(underB S (h:Int) (c:Int)),S.st k=(endM (takeM S c) (c:Int)).st k∧(takeM S c).kd k=(endM (takeM S c) (c:Int)).kd k:=by
 classical
 intro k hk
 have hu:=(List.mem_filter.1 hk).2
 simp only [Bool.not_eq_true'] at hu
 have hb:¬ Below (takeM S c) (c:Int) (k:Int):=fun h=>by
  rw [underB_iff.2 ((take_below hc _).2 h)] at hu;cases hu
 have hne:k≠c:=fun e=>by subst e;exact hb .here
 simp only [endM,if_neg hb,and_true]
 unfold takeM
 split
 ·rfl
 ·simp only;rw [upd_ne hne]
namespace Tryz
section
variable {R:Nat} {S:MS} {nx:Int} {av:Nat→AV} {p q:Nat} {g:List AObj}
def remS (p:Nat) (c k n i:Nat) (q1:Nat) (G:List AObj):St:=⟨[(0,DP p),(1,.p (.int .i64 c)),(7,.own true q1 k),(46,.p (.int .i64 n)),(47,.p (.int .i64 i))],[],G⟩
theorem rem_loop (hS : S.Ok R) (hD : DC (liveL S) S.st nx av p q g) (hL : (liveL S).length ≤ 4194304) (hno : ∀ h, h ∈ liveL S → noLocal (av h) = true) (c : Nat) {n : Nat} (hn : (liveL S).length < n) (hR : R + 3 < n) (N : Nat) (hN : (liveL S).length < N) :
    ∃ o,aexec (acall T (n+2)) N (.loop B86x0) (remS p c 0 (liveL S).length 0 g.length (g++[.pcells 7 []]))=some (.exit 0,⟨[(0,DP p),(7,.own true g.length ((liveL S).filter fun h:Nat => !(underB S (h:Int) (c:Int))).length)],[],g++[o]⟩)∧RowRep 7 (rowsD ((liveL S).filter fun h:Nat => !(underB S (h:Int) (c:Int))) S.st av) o:=by
  generalize hP:(fun h:Nat => !(underB S (h:Int) (c:Int)))=P
  have key:=loop_inv (C:=acall T (n+2)) (N:=N) (B:=B86x0) (σ := Nat × AObj) (S:=fun s=>remS p c (((liveL S).take s.1).filter P).length (liveL S).length s.1 g.length (g++[s.2]))
    (I:=fun s=>s.1≤(liveL S).length∧RowRep 7 (rowsD (((liveL S).take s.1).filter P) S.st av) s.2) (μ := fun s=>(liveL S).length - s.1) (Q:=fun r=>∃ o,r=(.exit 0,⟨[(0,DP p),(7,.own true g.length ((liveL S).filter P).length)],[],g++[o]⟩)∧RowRep 7 (rowsD ((liveL S).filter P) S.st av) o) ?_ (0,.pcells 7 []) ⟨by simp,RowRep.nil 7⟩ (by simp only;omega)
  · obtain ⟨r,hr,o,rfl,hro⟩:=key
    exact ⟨o,by simpa using hr,hro⟩
  rintro ⟨i,oi⟩ ⟨h1,h2⟩
  simp only at h1 h2 ⊢
  by_cases hi:i<(liveL S).length
  · left
    obtain ⟨h,hh⟩:=get_some hi
    have hhL:=List.mem_of_getElem? hh
    have hDi:=hD.more [oi]
    obtain ⟨o,ho,hrep⟩:=hDi.row
    have hob:=hDi.obj
    have hix:=fun s i=>hrep.idx rowsD_len s true q i
    have rd0:=rd_node hrep hh (j:=0) (by omega)
    have rdA:=hrep.rdA rowsD_len hi (rowsD_get hh) rfl
    have un:=underD_run hS hDi hL c h hhL (n:=n) hn hR
    have k1:(i:Int)<((liveL S).length:Int):=by omega
    have hs:((liveL S).take (i+1)).filter P=((liveL S).take i).filter P++if P h=true then [h] else []:=by
      rw [List.take_add_one,hh,List.filter_append]
      simp [List.filter_cons]
    have hlen:(((liveL S).take i).filter P).length≤4194304:=by
      have h3:=List.length_filter_le P ((liveL S).take i)
      rw [List.length_take] at h3
      omega
    cases hb:underB S (h:Int) (c:Int) with
    | true =>
      have hPh:P h=false:=by rw [← hP];simp [hb]
      rw [hPh] at hs
      simp only [Bool.false_eq_true,if_false,List.append_nil] at hs
      rw [hb] at un
      refine ⟨(i+1,oi), ?_,⟨by simp only;omega,by simp only [hs];exact h2⟩,by simp only;omega⟩
      simp only [hs,remS]
      simp only [nAV] at rd0
      generalize g++[oi]=G at hob ho un
      simp -implicitDefEqProofs (disch:=omega) only [Rx,simprocAttr,B86x0,k1,hob,ho,hix,rd0,un]
    | false =>
      have hPh:P h=true:=by rw [← hP];simp [hb]
      rw [hPh,if_pos rfl] at hs
      rw [hb] at un
      have hnl:noLocals (nAV h (S.st h) (av h))=true:=by simp [nAV,noLocals,noLocal,hno h hhL]
      obtain ⟨o',happ,hro'⟩:=h2.app (bytes:=112) rowsD_len (by omega) (c:=nAV h (S.st h) (av h)) rfl hnl
      have hpush:rowsD (((liveL S).take i).filter P) S.st av++[nAV h (S.st h) (av h)]=rowsD (((liveL S).take (i+1)).filter P) S.st av:=by
        rw [hs];simp [rowsD]
      rw [hpush] at hro'
      refine ⟨(i+1,o'), ?_,⟨by simp only;omega,hro'⟩,by simp only;omega⟩
      have hsl:(((liveL S).take (i+1)).filter P).length=(((liveL S).take i).filter P).length+1:=by rw [hs,List.length_append];rfl
      have hcv:=cells_ofCells (nAV h (S.st h) (av h))
      have hlast:(g++[oi])[g.length]? = some oi:=by simp
      have hset:(g++[oi]).set g.length o'=g++[o']:=by simp [List.set_append]
      simp only [hsl,remS]
      simp only [nAV] at rd0 rdA hcv happ
      generalize ofCells [.p (.int .i64 (h:Int)),.p (.int .i64 (S.st h).up),av h,.p (.str (S.st h).tag),.p (.str (S.st h).key),.p (.str (S.st h).text),.p (.list ((S.st h).attrs.map Attr.pv))]=v at rdA hcv
      generalize g++[o']=G' at hset
      generalize g++[oi]=G at hob ho un hlast hset
      simp -implicitDefEqProofs (disch:=omega) only [Rx,simprocAttr,B86x0,k1,hob,ho,hix,rd0,rdA,un,hcv,happ,hlast,hset]
  · right
    obtain rfl:i=(liveL S).length:=by omega
    have k1:¬ ((liveL S).length:Int)<((liveL S).length:Int):=by omega
    rw [List.take_length] at h2
    refine ⟨_, ?_, ?_,oi,rfl,h2⟩
    · simp only [List.take_length,remS]
      simp -implicitDefEqProofs (disch:=omega) only [Rx,simprocAttr,B86x0,k1]
    · simp
theorem removeD_run (hS:S.Ok R) (hD:DM (liveL S) S.st S.kd nx av p q g) (hL:(liveL S).length≤4194304) (id:Int) {n:Nat} (hn:(liveL S).length<n) (hR:R+3<n) :
  ∃ av' q' g',acall T (n+4) 86 [DP p,.p (.int .i64 id)] g=some (.p (.int .i64 (removeD S id).1),g')∧DM (liveL (removeD S id).2) (removeD S id).2.st (removeD S id).2.kd nx av' p q' g'∧DFr (liveL S) av p q g (liveL (removeD S id).2) av' q' g':=by
 obtain ⟨o,ho,hrep⟩:=hD.core.row
 have hob:=hD.core.obj
 have hix:=fun s i=>hrep.idx rowsD_len s true q i
 have hno:=noneD_run hD.core hL id (n:=n+1) (by omega)
 have hat:=fun id=>at_run hD.core hL id (n:=n+2) (by omega)
 unfold removeD
 by_cases hf:fitE S id≠0
 ·rw [if_pos hf]
  have e1:(fitE S id==0)=false:=by simpa using hf
  refine ⟨av,q,g, ?_,hD,DFr.refl _ _ _ _ _⟩
  rw [acall_code T86,run_code rfl rfl]
  generalize fitE S id=e at hno e1 ⊢
  simp -implicitDefEqProofs (disch:=omega) only [Rx,simprocAttr,F86,hno,e1]
 rw [if_neg hf]
 obtain ⟨c,rfl,hcL,hc0⟩:=fit_live hf
 simp only [ne_eq,Decidable.not_not] at hf
 rw [hf] at hno
 obtain ⟨ic,hpc,hic⟩:=posL_in hcL
 have hat1:=hat (c:Int)
 rw [hpc] at hat1
 have lc:=(List.getElem?_eq_some_iff.1 hic).1
 have kc:(ic:Int)<((liveL S).length:Int):=by omega
 have rdc:=rd_node hrep hic (j:=1) (by omega)
 simp only [nAV] at rdc
 obtain ⟨hcN,hcl⟩:=mem_liveL.1 hcL
 simp only [Int.toNat_natCast]
 have hfil:∀ k ∈ (liveL S).filter fun h:Nat => !(underB S (h:Int) (c:Int)),k ∈ liveL S:=fun k hk=>(List.mem_filter.1 hk).1
 have hfn:((liveL S).filter fun h:Nat => !(underB S (h:Int) (c:Int))).Nodup:=(liveL_nodup S).filter _
 have hle:=liveL_end (S:=S) hc0
 have hke:=end_kept (S:=S) hc0
 by_cases h16:(S.st c).up<0
 ·have htk:takeM S c=S:=by unfold takeM;rw [if_pos h16]
  obtain ⟨oe,hloop,hro⟩:=rem_loop hS hD.core hL (fun h hh=>(hD.kids h hh).noLocal) c (n:=n+1) (by omega) (by omega) (n+3) (by omega)
  have hDs:=hD.swap hfil hfn hro
  have hFs:=DFr.swap (L:=liveL S) (av:=av) (p:=p) (q:=q) (g:=g) hfil oe (.cells 2 [[.own true g.length ((liveL S).filter fun h:Nat => !(underB S (h:Int) (c:Int))).length,.p (.int .i64 nx)]])
  refine ⟨av,g.length,_, ?_,by rw [hle];exact hDs.congr fun k hk=>by rw [← (hke k hk).1, ← (hke k hk).2,htk];exact ⟨rfl,rfl⟩,by rw [hle];exact hFs⟩
  have k16:¬ (S.st c).up ≥ 0:=by omega
  have hob2:=(hD.core.more [oe]).obj
  have hob3:=(hD.core.more [.pcells 7 []]).obj
  simp only [remS,Int.natCast_zero] at hloop
  generalize ((liveL S).filter fun h:Nat => !(underB S (h:Int) (c:Int))).length=k at hloop
  rw [acall_code T86,run_code rfl rfl]
  simp -implicitDefEqProofs (disch:=omega) only [Rx,simprocAttr,F86,hno,hat1,hob,ho,hix,rdc,k16,hloop,hob2,hob3]
 ·obtain ⟨u,hu,huN,hul,hkid⟩:=hS.up_nat hcN (by omega)
  have huL:u ∈ liveL S:=mem_liveL.2 ⟨huN,hul⟩
  obtain ⟨iu,hpu,hiu⟩:=posL_in huL
  have hat2:=hat (u:Int)
  rw [hpu] at hat2
  have lu:=(List.getElem?_eq_some_iff.1 hiu).1
  have ku:(iu:Int)<((liveL S).length:Int):=by omega
  have hkl:=kd_len hS huN
  have hK:=hD.kids u huL
  have hout:=out_run (S.kd u) (c:Int) (by omega) [] (n:=n+2) (by omega)
  generalize hl1:(S.kd u).filter (fun k => !(k==(c:Int)))=l1 at hout
  have hD1:=hD.core.kill (hD.away u huL).1 (hD.away u huL).2
  obtain ⟨o1,hk1,hr1⟩:=kidsF_run hD1 hL huL (intsPV l1) (n:=n+1) (by omega)
  have hD2:=hD.fix huL l1 hr1
  have hF2:=DFr.fix hD huL (intsPV l1) o1
  generalize hav2:upd av u (.p (.list (intsPV l1)))=av2 at hD2 hF2
  generalize hg2:(killG g (av u)).set q o1=g2 at hk1 hD2 hF2
  have htk:(takeM S c).kd=upd S.kd u l1:=by
   unfold takeM
   rw [if_neg h16,hu,Int.toNat_natCast,hl1]
  obtain ⟨oe,hloop,hro⟩:=rem_loop hS hD2.core hL (fun h hh=>(hD2.kids h hh).noLocal) c (n:=n+1) (by omega) (by omega) (n+3) (by omega)
  have hDs:=hD2.swap hfil hfn hro
  have hFs:=hF2.trans (DFr.swap (L:=liveL S) (av:=av2) (p:=p) (q:=q) (g:=g2) hfil oe (.cells 2 [[.own true g2.length ((liveL S).filter fun h:Nat => !(underB S (h:Int) (c:Int))).length,.p (.int .i64 nx)]]))
  refine ⟨av2,g2.length,_, ?_,by rw [hle];exact hDs.congr fun k hk=>by rw [← (hke k hk).1, ← (hke k hk).2,htk];exact ⟨rfl,rfl⟩,by rw [hle];exact hFs⟩
  have k16:(u:Int) ≥ 0:=by omega
  rw [hu] at rdc
  have rdu:=rd_node hrep hiu (j:=2) (by omega)
  simp only [nAV] at rdu
  have hob2:=(hD2.core.more [oe]).obj
  have hob3:=(hD2.core.more [.pcells 7 []]).obj
  have hfz:=hK.frz
  generalize killG g (av u)=g1 at hk1 hfz
  generalize av u=au at rdu hfz
  simp only [remS,Int.natCast_zero] at hloop
  generalize ((liveL S).filter fun h:Nat => !(underB S (h:Int) (c:Int))).length=k at hloop
  rw [acall_code T86,run_code rfl rfl]
  simp -implicitDefEqProofs (disch:=omega) only [Rx,simprocAttr,F86,hno,hat1,hat2,hob,ho,hix,rdc,rdu,k16,hout,hk1,hfz,hloop,hob2,hob3]
end
end Tryz
end Go.TA


end
section
/- Attributes with one more, or without one: the document's answer. -/
set_option maxRecDepth 100000
set_option maxHeartbeats 8000000
namespace Go.TA
def findA (l:List Attr) (name:Bs):Int:=if fstAt l name<l.length then (fstAt l name:Int) else -1
theorem fstAt_hit {l:List Attr} {name:Bs} {i:Nat} {a:Attr} (ha:l[i]? = some a) (h:i=fstAt l name):a.name=name:=by
 obtain ⟨hi,e⟩:=List.getElem?_eq_some_iff.1 ha
 have:=List.findIdx_getElem (xs:=l) (p:=fun a=>a.name==name) (w:=by unfold fstAt at h;omega)
 unfold fstAt at h
 simp only [← h,e] at this
 simpa using this
theorem fstAt_miss {l:List Attr} {name:Bs} {i:Nat} {a:Attr} (ha:l[i]? = some a) (h:i<fstAt l name):a.name≠name:=by
 obtain ⟨hi,e⟩:=List.getElem?_eq_some_iff.1 ha
 have:=List.not_of_lt_findIdx (xs:=l) (p:=fun a:Attr=>a.name==name) (i:=i) (by unfold fstAt at h;exact h)
 rw [e] at this
 simpa using this
theorem take_snoc {α : Type} {l:List α} {i:Nat} {a : α} (h:l[i]? = some a):l.take (i+1)=l.take i++[a]:=by
 rw [List.take_add_one,h];rfl
namespace Tryz
theorem find09_run (l : List Attr) (name : Bs) (hl : l.length ≤ 1048577) (g : List AObj) {n : Nat} (hn : l.length < n) :
    acall T (n+1) 128 [.p (.list (l.map Attr.pv)),.p (.str name)] g=some (.p (.int .i64 (findA l name)),g):=by
  have ll:(l.map Attr.pv).length=l.length:=by simp
  have key:=loop_inv (C:=acall T n) (N:=n) (B:=B128x0) (σ := Nat) (S:=fun i=>⟨[(0,.p (.list (l.map Attr.pv))),(1,.p (.str name)),(7,.p (.int .i64 l.length)),(8,.p (.int .i64 i))],[],[]⟩)
    (I:=fun i=>i≤l.length∧i≤fstAt l name) (μ := fun i=>l.length - i) (Q:=fun r=>r=if fstAt l name<l.length then (.ret,⟨[(4,.p (.int .i64 (fstAt l name)))],[],[]⟩) else (.exit 0,⟨[],[],[]⟩)) ?_ 0 ⟨by omega,by omega⟩ (by omega)
  · obtain ⟨r,hq,rfl⟩:=key
    simp only [Int.natCast_zero] at hq
    unfold findA
    rw [acall_code T128,run_pure rfl rfl rfl]
    by_cases hc:fstAt l name<l.length
    · rw [if_pos hc] at hq ⊢
      simp -implicitDefEqProofs (disch:=omega) only [Rx,simprocAttr,F128,hq,ll]
    · rw [if_neg hc] at hq ⊢
      simp -implicitDefEqProofs (disch:=omega) only [Rx,simprocAttr,F128,hq,ll]
  rintro i ⟨h1,h2⟩
  by_cases hi:i<l.length
  · have k1:(i:Int)<(l.length:Int):=by omega
    obtain ⟨a,ha⟩:=get_some hi
    have hg:=getD_map (f:=Attr.pv) ha
    by_cases e:i=fstAt l name
    · right
      have hp:(a.name==name)=true:=by simpa using fstAt_hit ha e
      refine ⟨_, ?_, ?_,rfl⟩
      · rw [if_pos (by omega), ← e]
        simp -implicitDefEqProofs (disch:=omega) only [Rx,simprocAttr,B128x0,k1,hg,ll,Attr.pv,hp]
      · rw [if_pos (by omega)];simp
    · left
      have hp:(a.name==name)=false:=by simpa using fstAt_miss ha (by omega)
      refine ⟨i+1, ?_,⟨by omega,by omega⟩,by omega⟩
      simp -implicitDefEqProofs (disch:=omega) only [Rx,simprocAttr,B128x0,k1,hg,ll,Attr.pv,hp]
  · right
    obtain rfl:i=l.length:=by omega
    have k1:¬ (l.length:Int)<(l.length:Int):=by omega
    refine ⟨_, ?_, ?_,rfl⟩
    · rw [if_neg (by omega)]
      simp -implicitDefEqProofs (disch:=omega) only [Rx,simprocAttr,B128x0,k1]
    · rw [if_neg (by omega)];simp
theorem without09_run (l:List Attr) (name:Bs) (hl:l.length≤1048577) (g:List AObj) {n:Nat} (hn:l.length<n) :
  acall T (n+1) 118 [.p (.list (l.map Attr.pv)),.p (.str name)] g=some (.tuple [.p (.list ((withoutA l name).map Attr.pv)),.p (.bool (decide ((withoutA l name).length<l.length)))],g):=by
 have ll:(l.map Attr.pv).length=l.length:=by simp
 unfold withoutA
 have hlen:∀ i,((l.take i).filter (notN name)).length≤l.length:=fun i=>by
  have:=List.length_filter_le (notN name) (l.take i)
  have h2:(l.take i).length≤l.length:=by rw [List.length_take];omega
  omega
 have key:=loop_inv (C:=acall T n) (N:=n) (B:=B118x0) (σ := Nat) (S:=fun i=>⟨[(0,.p (.list (l.map Attr.pv))),(1,.p (.str name)),(6,.own false 1000 ((l.take i).filter (notN name)).length),(9,.p (.int .i64 l.length)),(10,.p (.int .i64 i))],[(1000,.pcells 2 (((l.take i).filter (notN name)).map Attr.pv))],[]⟩)
  (I:=fun i=>i≤l.length) (μ := fun i=>l.length - i) (Q:=fun r=>r=(.exit 0,⟨[(0,.p (.list (l.map Attr.pv))),(6,.own false 1000 (l.filter (notN name)).length)],[(1000,.pcells 2 ((l.filter (notN name)).map Attr.pv))],[]⟩)) ?_ 0 (by omega) (by omega)
 ·obtain ⟨r,hq,rfl⟩:=key
  simp only [List.take_zero,List.filter_nil,List.length_nil,List.map_nil,Int.natCast_zero] at hq
  have hll:=hlen l.length
  rw [List.take_length] at hll
  generalize l.filter (notN name)=acc at hq hll
  have la:(acc.map Attr.pv).length=acc.length:=by simp
  rw [acall_code T118,run_pure rfl rfl rfl]
  by_cases hc:acc.length<l.length
  ·have k1:(acc.length:Int)<(l.length:Int):=by omega
   have ed:decide (acc.length<l.length)=true:=by simpa using hc
   simp -implicitDefEqProofs (disch:=omega) only [Rx,simprocAttr,F118,hq,ll,la,k1,ed]
  ·have k1:¬ (acc.length:Int)<(l.length:Int):=by omega
   have ed:decide (acc.length<l.length)=false:=by simpa using hc
   simp -implicitDefEqProofs (disch:=omega) only [Rx,simprocAttr,F118,hq,ll,la,k1,ed]
 intro i h1
 by_cases hi:i<l.length
 ·left
  have k1:(i:Int)<(l.length:Int):=by omega
  obtain ⟨a,ha⟩:=get_some hi
  have hg:=getD_map (f:=Attr.pv) ha
  have hs:(l.take (i+1)).filter (notN name)=(l.take i).filter (notN name)++if notN name a=true then [a] else []:=by
   rw [take_snoc ha,List.filter_append]
   simp [List.filter_cons]
  have hll:=hlen i
  refine ⟨i+1, ?_,by omega,by omega⟩
  rw [hs]
  generalize (l.take i).filter (notN name)=acc at hll
  have la:(acc.map Attr.pv).length=acc.length:=by simp
  by_cases e:a.name=name
  ·have e1:(a.name==name)=true:=by simpa using e
   have hfx:notN name a=false:=by simp [notN,e]
   rw [hfx]
   simp only [Bool.false_eq_true,if_false,List.append_nil]
   simp -implicitDefEqProofs (disch:=omega) only [Rx,simprocAttr,B118x0,k1,hg,ll,Attr.pv,e1]
  ·have e1:(a.name==name)=false:=by simpa using e
   have hfx:notN name a=true:=by simp [notN,e]
   rw [hfx,if_pos rfl]
   have os1:acc.map Attr.pv++[[.str a.name,.str a.value]]=(acc++[a]).map Attr.pv:=by simp [Attr.pv]
   have ol1:((acc++[a]).map Attr.pv).length=acc.length+1:=by simp
   have ol3:(acc++[a]).length=acc.length+1:=by simp
   rw [ol3]
   generalize acc++[a]=acc1 at os1 ol1
   simp -implicitDefEqProofs (disch:=omega) only [Rx,simprocAttr,B118x0,k1,hg,ll,la,Attr.pv,e1,os1,ol1]
 ·right
  obtain rfl:i=l.length:=by omega
  have k1:¬ (l.length:Int)<(l.length:Int):=by omega
  refine ⟨_, ?_, ?_,rfl⟩
  ·rw [List.take_length]
   simp -implicitDefEqProofs (disch:=omega) only [Rx,simprocAttr,B118x0,k1]
  ·simp
def leAt (l:List Attr) (name:Bs):Nat:=l.findIdx (fun a=>decide (0<cmpB a.name name))
theorem le_loop (l : List Attr) (name v : Bs) (at' : Int) (hl : l.length ≤ 1048577) (hnl : name.length ≤ 1048577) {n : Nat} (hn : name.length < n) (N : Nat) (hN : l.length < N) :
    aexec (acall T (n+1)) N (.loop B117x0) ⟨[(0,.p (.list (l.map Attr.pv))),(1,.p (.str name)),(2,.p (.str v)),(7,.p (.int .i64 at')),(8,.p (.int .i64 ((0:Nat):Int)))],[],[]⟩=some (.exit 0,⟨[(0,.p (.list (l.map Attr.pv))),(1,.p (.str name)),(2,.p (.str v)),(7,.p (.int .i64 at')),(8,.p (.int .i64 (leAt l name)))],[],[]⟩):=by
  have ll:(l.map Attr.pv).length=l.length:=by simp
  have hle:leAt l name≤l.length:=List.findIdx_le_length
  refine loop_rule' (C:=acall T (n+1)) (N:=N) (B:=B117x0) (σ := Nat) (S:=fun i=>⟨[(0,.p (.list (l.map Attr.pv))),(1,.p (.str name)),(2,.p (.str v)),(7,.p (.int .i64 at')),(8,.p (.int .i64 i))],[],[]⟩) (I:=fun i=>i≤leAt l name) (μ := fun i=>l.length - i) (Φ := fun i=>(.exit 0,⟨[(0,.p (.list (l.map Attr.pv))),(1,.p (.str name)),(2,.p (.str v)),(7,.p (.int .i64 at')),(8,.p (.int .i64 (leAt l name)))],[],[]⟩)) ?_ 0 (by omega) (by omega)
  intro i hi
  by_cases h1:i<l.length
  · have k1:(i:Int)<(l.length:Int):=by omega
    obtain ⟨a,ha⟩:=get_some h1
    have hg:=getD_map (f:=Attr.pv) ha
    obtain ⟨_,ea⟩:=List.getElem?_eq_some_iff.1 ha
    have hc:=cmp_run (n:=n) a.name name [] hn hnl
    by_cases e:i=leAt l name
    · right
      have hp:¬ cmpB a.name name≤0:=by
        have:=List.findIdx_getElem (xs:=l) (p:=fun a=>decide (0<cmpB a.name name)) (w:=by unfold leAt at e;omega)
        unfold leAt at e
        simp only [← e,ea] at this
        simp only [decide_eq_true_eq] at this
        omega
      refine ⟨?_,by simp⟩
      rw [← e]
      simp -implicitDefEqProofs (disch:=omega) only [Rx,simprocAttr,B117x0,k1,hg,ll,Attr.pv,hc,hp]
    · left
      have hp:cmpB a.name name≤0:=by
        have:=List.not_of_lt_findIdx (xs:=l) (p:=fun a=>decide (0<cmpB a.name name)) (i:=i) (by unfold leAt at e hi;omega)
        rw [ea] at this
        have h2:¬ 0<cmpB a.name name:=by simpa using this
        omega
      refine ⟨i+1, ?_,by omega,by omega,rfl⟩
      simp -implicitDefEqProofs (disch:=omega) only [Rx,simprocAttr,B117x0,k1,hg,ll,Attr.pv,hc,hp]
  · right
    have e:i=leAt l name:=by omega
    have k1:¬ (i:Int)<(l.length:Int):=by omega
    refine ⟨?_,by simp⟩
    rw [← e]
    simp -implicitDefEqProofs (disch:=omega) only [Rx,simprocAttr,B117x0,k1,ll]
theorem leAt_pos {l : List Attr} {name : Bs} (h : ¬ fstAt l name < l.length) : leAt l name = posAt l name := by
  unfold leAt posAt
  have hne:∀ a ∈ l,a.name≠name:=fun a ha e=>h (List.findIdx_lt_length_of_exists ⟨a,ha,by simpa using e⟩)
  clear h
  induction l with
  | nil=>rfl
  | cons a l ih =>
    have h1:=hne a (by simp)
    have h2:=cmpB_less h1
    have h3:(a.name==name)=false:=by simpa using h1
    rw [h3,Bool.or_false] at h2
    have e:decide (0<cmpB a.name name) = !(strLess a.name name):=by
      by_cases hs:strLess a.name name=true
      · rw [hs] at h2
        have h4:¬ 0<cmpB a.name name:=fun h=>by have:=h2.1 h;cases this
        simp [hs,h4]
      · simp only [Bool.not_eq_true] at hs
        simp [hs,h2.2 hs]
    rw [List.findIdx_cons,List.findIdx_cons,e,ih (fun b hb=>hne b (by simp [hb]))]
def withS (l:List Attr) (name v:Bs) (at':Int) (to:Nat) (acc:List Attr) (i:Nat):St:=⟨[(0,.p (.list (l.map Attr.pv))),(1,.p (.str name)),(2,.p (.str v)),(7,.p (.int .i64 at')),(8,.p (.int .i64 to)),(9,.own false 1000 acc.length),(32,.p (.int .i64 l.length)),(33,.p (.int .i64 i))],[(1000,.pcells 2 (acc.map Attr.pv))],[]⟩
def withE (l:List Attr) (name v:Bs) (at':Int) (to:Nat) (acc:List Attr):Ex × St:=(.exit 2,⟨[(0,.p (.list (l.map Attr.pv))),(1,.p (.str name)),(2,.p (.str v)),(7,.p (.int .i64 at')),(8,.p (.int .i64 to)),(9,.own false 1000 acc.length)],[(1000,.pcells 2 (acc.map Attr.pv))],[]⟩)
theorem with_found (l:List Attr) (name v:Bs) (to k:Nat) (hl:l.length≤1048577) (hk:k<l.length) (hkn:∀ a,l[k]? = some a→a.name=name) (C:Calls') (N:Nat) (hN:l.length<N) :
  aexec C N (.loop B117x1) (withS l name v (k:Int) to [] 0)=some (withE l name v (k:Int) to (l.set k ⟨name,v⟩)):=by
 have ll:(l.map Attr.pv).length=l.length:=by simp
 have key:=loop_inv (C:=C) (N:=N) (B:=B117x1) (σ := Nat) (S:=fun i=>withS l name v (k:Int) to ((l.set k ⟨name,v⟩).take i) i) (I:=fun i=>i≤l.length) (μ := fun i=>l.length - i) (Q:=fun r=>r=withE l name v (k:Int) to (l.set k ⟨name,v⟩)) ?_ 0 (by omega) (by omega)
 ·obtain ⟨r,hq,rfl⟩:=key
  simpa using hq
 intro i hi
 by_cases h1:i<l.length
 ·left
  have k1:(i:Int)<(l.length:Int):=by omega
  obtain ⟨a,ha⟩:=get_some h1
  have hg:=getD_map (f:=Attr.pv) ha
  have hw:(l.set k ⟨name,v⟩)[i]? = some (if k=i then ⟨name,v⟩ else a):=by
   rw [List.getElem?_set]
   split
   ·rename_i e;subst e;first | rfl | rw [if_pos h1]
   ·rw [ha]
  have hs:=take_snoc hw
  have hll:((l.set k ⟨name,v⟩).take i).length≤1048577:=by rw [List.length_take,List.length_set];omega
  refine ⟨i+1, ?_,by omega,by omega⟩
  simp only [withS]
  rw [hs]
  generalize (l.set k ⟨name,v⟩).take i=acc at hll
  have la:(acc.map Attr.pv).length=acc.length:=by simp
  have k0:¬ (k:Int)<0:=by omega
  by_cases e:k=i
  ·rw [if_pos e]
   have e1:((i:Int)==(k:Int))=true:=by simp;omega
   have hn:=hkn a (by rw [e];exact ha)
   have os1:acc.map Attr.pv++[[.str name,.str v]]=(acc++[(⟨name,v⟩:Attr)]).map Attr.pv:=by simp [Attr.pv]
   have ol1:((acc++[(⟨name,v⟩:Attr)]).map Attr.pv).length=acc.length+1:=by simp
   have ol3:(acc++[(⟨name,v⟩:Attr)]).length=acc.length+1:=by simp
   rw [ol3]
   generalize acc++[(⟨name,v⟩:Attr)]=acc1 at os1 ol1
   simp -implicitDefEqProofs (disch:=omega) only [Rx,simprocAttr,B117x1,k0,k1,hg,ll,la,Attr.pv,e1,hn,os1,ol1]
  ·rw [if_neg e]
   have e1:((i:Int)==(k:Int))=false:=by simp;omega
   have os1:acc.map Attr.pv++[[.str a.name,.str a.value]]=(acc++[a]).map Attr.pv:=by simp [Attr.pv]
   have ol1:((acc++[a]).map Attr.pv).length=acc.length+1:=by simp
   have ol3:(acc++[a]).length=acc.length+1:=by simp
   rw [ol3]
   generalize acc++[a]=acc1 at os1 ol1
   simp -implicitDefEqProofs (disch:=omega) only [Rx,simprocAttr,B117x1,k0,k1,hg,ll,la,Attr.pv,e1,os1,ol1]
 ·right
  obtain rfl:i=l.length:=by omega
  have k1:¬ (l.length:Int)<(l.length:Int):=by omega
  refine ⟨_, ?_, ?_,rfl⟩
  ·have:(l.set k ⟨name,v⟩).take l.length=l.set k ⟨name,v⟩:=List.take_of_length_le (by simp)
   rw [this]
   simp only [withS,withE]
   simp -implicitDefEqProofs (disch:=omega) only [Rx,simprocAttr,B117x1,k1]
  ·simp [withE]
def putA (l:List Attr) (to:Nat) (a:Attr) (i:Nat):List Attr:=if i≤to then l.take i else l.take to++a::(l.drop to).take (i - to)
theorem with_new (l : List Attr) (name v : Bs) (to : Nat) (hl : l.length ≤ 1048577) (C : Calls') (N : Nat) (hN : l.length < N) :
    aexec C N (.loop B117x1) (withS l name v (-1) to [] 0)=some (withE l name v (-1) to (putA l to ⟨name,v⟩ l.length)):=by
  have ll:(l.map Attr.pv).length=l.length:=by simp
  have key:=loop_inv (C:=C) (N:=N) (B:=B117x1) (σ := Nat) (S:=fun i=>withS l name v (-1) to (putA l to ⟨name,v⟩ i) i) (I:=fun i=>i≤l.length) (μ := fun i=>l.length - i) (Q:=fun r=>r=withE l name v (-1) to (putA l to ⟨name,v⟩ l.length)) ?_ 0 (by omega) (by omega)
  · obtain ⟨r,hq,rfl⟩:=key
    have:putA l to ⟨name,v⟩ 0=[]:=by simp [putA]
    rw [this] at hq
    exact hq
  intro i hi
  by_cases h1:i<l.length
  · left
    have k1:(i:Int)<(l.length:Int):=by omega
    obtain ⟨a,ha⟩:=get_some h1
    have hg:=getD_map (f:=Attr.pv) ha
    have e9:((i:Int) == -1)=false:=by simp <;> omega
    have hll:(putA l to ⟨name,v⟩ i).length≤1048579:=by
      unfold putA
      split
      · rw [List.length_take];omega
      · rw [List.length_append,List.length_cons,List.length_take,List.length_take,List.length_drop];omega
    refine ⟨i+1, ?_,by omega,by omega⟩
    by_cases e:i=to
    · have hs:putA l to ⟨name,v⟩ (i+1)=putA l to ⟨name,v⟩ i++[⟨name,v⟩]++[a]:=by
        subst e
        have hd:l.drop i=a::l.drop (i+1):=by rw [List.drop_eq_getElem?_toList_append,ha];rfl
        simp only [putA,Nat.le_refl,if_true]
        rw [if_neg (by omega),show i+1 - i=1 by omega,hd]
        simp
      have e1:((i:Int)==(to:Int))=true:=by simp;omega
      rw [hs]
      generalize putA l to ⟨name,v⟩ i=acc at hll
      have la:(acc.map Attr.pv).length=acc.length:=by simp
      have os1:acc.map Attr.pv++[[.str name,.str v]]=(acc++[(⟨name,v⟩:Attr)]).map Attr.pv:=by simp [Attr.pv]
      have ol1:((acc++[(⟨name,v⟩:Attr)]).map Attr.pv).length=acc.length+1:=by simp
      have os2:(acc++[(⟨name,v⟩:Attr)]).map Attr.pv++[[.str a.name,.str a.value]]=(acc++[(⟨name,v⟩:Attr)]++[a]).map Attr.pv:=by simp [Attr.pv]
      have ol2:((acc++[(⟨name,v⟩:Attr)]++[a]).map Attr.pv).length=acc.length+1+1:=by simp
      have ol3:(acc++[(⟨name,v⟩:Attr)]++[a]).length=acc.length+1+1:=by simp
      simp only [withS]
      rw [ol3]
      generalize acc++[(⟨name,v⟩:Attr)]++[a]=acc2 at os2 ol2
      generalize acc++[(⟨name,v⟩:Attr)]=acc1 at os1 os2 ol1
      simp -implicitDefEqProofs (disch:=omega) only [Rx,simprocAttr,B117x1,k1,hg,ll,la,Attr.pv,e1,e9,os1,os2,ol1,ol2]
    · have hs:putA l to ⟨name,v⟩ (i+1)=putA l to ⟨name,v⟩ i++[a]:=by
        unfold putA
        by_cases e2:i+1≤to
        · rw [if_pos e2,if_pos (by omega),take_snoc ha]
        · rw [if_neg e2,if_neg (by omega),show i+1 - to=i - to+1 by omega]
          have hd:(l.drop to)[i - to]? = some a:=by rw [List.getElem?_drop,show to+(i - to)=i by omega];exact ha
          rw [take_snoc hd]
          simp
      have e1:((i:Int)==(to:Int))=false:=by simp;omega
      rw [hs]
      generalize putA l to ⟨name,v⟩ i=acc at hll
      have la:(acc.map Attr.pv).length=acc.length:=by simp
      have os1:acc.map Attr.pv++[[.str a.name,.str a.value]]=(acc++[a]).map Attr.pv:=by simp [Attr.pv]
      have ol1:((acc++[a]).map Attr.pv).length=acc.length+1:=by simp
      have ol3:(acc++[a]).length=acc.length+1:=by simp
      simp only [withS]
      rw [ol3]
      generalize acc++[a]=acc1 at os1 ol1
      simp -implicitDefEqProofs (disch:=omega) only [Rx,simprocAttr,B117x1,k1,hg,ll,la,Attr.pv,e1,e9,os1,ol1]
  · right
    obtain rfl:i=l.length:=by omega
    have k1:¬ (l.length:Int)<(l.length:Int):=by omega
    refine ⟨_, ?_, ?_,rfl⟩
    · simp only [withS,withE]
      simp -implicitDefEqProofs (disch:=omega) only [Rx,simprocAttr,B117x1,k1]
    · simp [withE]
theorem with09_run (l : List Attr) (name v : Bs) (hl : l.length ≤ 1048577) (hnl : name.length ≤ 1048577) (g : List AObj) {n : Nat} (hn : l.length < n) (hn2 : name.length < n) :
    acall T (n+2) 117 [.p (.list (l.map Attr.pv)),.p (.str name),.p (.str v)] g=some (.p (.list ((withA l name v).map Attr.pv)),g):=by
  have ll:(l.map Attr.pv).length=l.length:=by simp
  have hfi:=fun g=>find09_run l name hl g (n:=n) hn
  have hle:=le_loop l name v (findA l name) hl hnl (n:=n) hn2 (n+1) (by omega)
  simp only [Int.natCast_zero] at hle
  unfold withA
  rw [acall_code T117,run_pure rfl rfl rfl]
  by_cases hf:fstAt l name<l.length
  · rw [if_pos hf]
    have hfa:findA l name=(fstAt l name:Int):=by simp [findA,hf]
    have hlo:=with_found l name v (leAt l name) (fstAt l name) hl hf (fun a ha=>fstAt_hit ha rfl) (acall T (n+1)) (n+1) (by omega)
    rw [hfa] at hfi hle
    have hwl:(l.set (fstAt l name) ⟨name,v⟩).length≤1048577:=by simp;omega
    generalize l.set (fstAt l name) ⟨name,v⟩=w at hlo hwl
    have wl:(w.map Attr.pv).length=w.length:=by simp
    generalize fstAt l name=k at hfi hle hlo
    generalize leAt l name=to at hle hlo
    simp only [withS,withE,List.map_nil,List.length_nil,Int.natCast_zero] at hlo
    have k0:¬ (k:Int)<0:=by omega
    simp -implicitDefEqProofs (disch:=omega) only [Rx,simprocAttr,F117,hfi,hle,hlo,ll,wl,k0]
  · rw [if_neg hf]
    have hfa:findA l name = -1:=by simp [findA,hf]
    have hlo:=with_new l name v (leAt l name) hl (acall T (n+1)) (n+1) (by omega)
    rw [hfa] at hfi hle
    rw [leAt_pos hf] at hle hlo
    have hpl:posAt l name≤l.length:=List.findIdx_le_length
    generalize hto:posAt l name=to at hle hlo hpl
    have hacc:(putA l to ⟨name,v⟩ l.length).length≤1048579:=by
      unfold putA
      split
      · rw [List.length_take];omega
      · rw [List.length_append,List.length_cons,List.length_take,List.length_take,List.length_drop];omega
    by_cases e:to=l.length
    · have hr:l.take to++⟨name,v⟩::l.drop to=putA l to ⟨name,v⟩ l.length++[⟨name,v⟩]:=by
        subst e;simp [putA]
      rw [hr]
      generalize putA l to ⟨name,v⟩ l.length=acc at hlo hacc
      have la:(acc.map Attr.pv).length=acc.length:=by simp
      have os1:acc.map Attr.pv++[[.str name,.str v]]=(acc++[(⟨name,v⟩:Attr)]).map Attr.pv:=by simp [Attr.pv]
      have ol1:((acc++[(⟨name,v⟩:Attr)]).map Attr.pv).length=acc.length+1:=by simp
      generalize acc++[(⟨name,v⟩:Attr)]=acc1 at os1 ol1
      have e1:((to:Int)==(l.length:Int))=true:=by simp;omega
      simp only [withS,withE,List.map_nil,List.length_nil,Int.natCast_zero] at hlo
      simp -implicitDefEqProofs (disch:=omega) only [Rx,simprocAttr,F117,hfi,hle,hlo,ll,la,os1,ol1,e1]
    · have hr:l.take to++⟨name,v⟩::l.drop to=putA l to ⟨name,v⟩ l.length:=by
        unfold putA
        rw [if_neg (by omega),List.take_of_length_le (l:=l.drop to) (by rw [List.length_drop];omega)]
      rw [hr]
      generalize putA l to ⟨name,v⟩ l.length=acc at hlo hacc
      have la:(acc.map Attr.pv).length=acc.length:=by simp
      have e1:((to:Int)==(l.length:Int))=false:=by simp;omega
      simp only [withS,withE,List.map_nil,List.length_nil,Int.natCast_zero] at hlo
      simp -implicitDefEqProofs (disch:=omega) only [Rx,simprocAttr,F117,hfi,hle,hlo,ll,la,e1]
end Tryz
end Go.TA


end
section
/- The document's answer: a node's attributes and text; a node is made. -/
set_option maxRecDepth 100000
set_option maxHeartbeats 8000000
namespace Go.TA
def nodeM (S:MS) (h:Nat) (s:MNode):MS:=⟨S.N,upd S.st h s,S.kd⟩
theorem liveL_node {S:MS} {h:Nat} {s:MNode} (hs:s.live=(S.st h).live):liveL (nodeM S h s)=liveL S:=liveL_congr rfl (fun k=>by
 simp only [nodeM]
 by_cases e:k=h
 ·subst e;rw [upd_at,hs]
 ·rw [upd_ne e])
namespace Tryz
def setD (S:MS) (id:Int) (name v:Bs):Int × MS :=
 if fitE S id≠0 then (fitE S id,S) else if namedB true name=false then (8,S) else if 65536<(v.length:Int) then (3,S)
 else if 64<((withA (S.st id.toNat).attrs name v).length:Int) then (12,S) else (0,setM S id.toNat (withA (S.st id.toNat).attrs name v))
def delD (S:MS) (id:Int) (name:Bs):Int × MS :=
 if fitE S id≠0 then (fitE S id,S)
 else if (withoutA (S.st id.toNat).attrs name).length<(S.st id.toNat).attrs.length then (0,setM S id.toNat (withoutA (S.st id.toNat).attrs name)) else (8,S)
def textD (S:MS) (id:Int) (s:Bs):Int × MS :=
 if fitE S id≠0 then (fitE S id,S) else if 65536<(s.length:Int) then (3,S) else (0,textM S id.toNat s)
def createErr (N:Nat) (x:GOp):Int:=if namedB false x.tag=false then 7 else if 65536<(x.key.length:Int)∨65536<(x.text.length:Int) then 3 else if attrsErr x.attrs≠0 then attrsErr x.attrs else if 4294967295<(N:Int) then 21 else 0
theorem named_len {more:Bool} {s:Bs} (h:namedB more s=true):s.length≤32:=by
 unfold namedB at h
 split at h
 ·cases h
 ·simp only [Bool.and_eq_true,decide_eq_true_eq] at h
  simp_all
section
variable {R:Nat} {S:MS} {av:Nat→AV} {p q:Nat} {g:List AObj} {nx:Int}
theorem textD_run (hD:DM (liveL S) S.st S.kd nx av p q g) (hL:(liveL S).length≤4194304) (id:Int) (s:Bs) {n:Nat} (hn:(liveL S).length<n) :
  ∃ g',acall T (n+3) 89 [DP p,.p (.int .i64 id),.p (.str s)] g=some (.p (.int .i64 (textD S id s).1),g')∧DM (liveL (textD S id s).2) (textD S id s).2.st (textD S id s).2.kd nx av p q g'∧DFr (liveL S) av p q g (liveL (textD S id s).2) av q g':=by
 obtain ⟨o,ho,hrep⟩:=hD.core.row
 have hob:=hD.core.obj
 have hix:=fun s i=>hrep.idx rowsD_len s true q i
 have hno:=noneD_run hD.core hL id (n:=n) (by omega)
 unfold textD
 by_cases hf:fitE S id≠0
 ·rw [if_pos hf]
  have e1:(fitE S id==0)=false:=by simpa using hf
  refine ⟨g, ?_,hD,DFr.refl _ _ _ _ _⟩
  rw [acall_code T89,run_code rfl rfl]
  generalize fitE S id=e at hno e1 ⊢
  simp -implicitDefEqProofs (disch:=omega) only [Rx,simprocAttr,F89,hno,e1]
 rw [if_neg hf]
 obtain ⟨c,rfl,hcL,hc0⟩:=fit_live hf
 simp only [ne_eq,Decidable.not_not] at hf
 rw [hf] at hno
 by_cases hl:65536<(s.length:Int)
 ·rw [if_pos hl]
  have e1:(s.length:Int) > 65536:=hl
  refine ⟨g, ?_,hD,DFr.refl _ _ _ _ _⟩
  rw [acall_code T89,run_code rfl rfl]
  simp -implicitDefEqProofs (disch:=omega) only [Rx,simprocAttr,F89,hno,e1]
 rw [if_neg hl]
 have e1:¬ (s.length:Int) > 65536:=hl
 obtain ⟨ic,hpc,hic⟩:=posL_in hcL
 have hat1:=at_run hD.core hL (c:Int) (n:=n+1) (by omega)
 rw [hpc] at hat1
 have lc:=(List.getElem?_eq_some_iff.1 hic).1
 have kc:(ic:Int)<((liveL S).length:Int):=by omega
 obtain ⟨o',hw,hr'⟩:=wr_node hrep hic (j:=5) (by omega) (.p (.str s))
 have e3:(rowsD (liveL S) S.st av).set ic ((nAV c (S.st c) (av c)).set 5 (.p (.str s)))=rowsD (liveL S) (upd S.st c { S.st c with text:=s }) av:=by
  rw [← rows_node hD.core.nodup hic];rfl
 rw [e3] at hr'
 have hlv:liveL (textM S c s)=liveL S:=liveL_node (S:=S) (h:=c) (s:={ S.st c with text:=s }) rfl
 simp only [Int.toNat_natCast]
 refine ⟨g.set q o', ?_,by rw [hlv];exact hD.node _ hr',by rw [hlv];exact DFr.node o'⟩
 rw [acall_code T89,run_code rfl rfl]
 simp -implicitDefEqProofs (disch:=omega) only [Rx,simprocAttr,F89,hno,e1,hat1,hob,ho,hix,hw]
theorem setD_run (hS:S.Ok R) (hD:DM (liveL S) S.st S.kd nx av p q g) (hL:(liveL S).length≤4194304) (id:Int) (name v:Bs) {n:Nat} (hn:(liveL S).length<n) (hn2:1048577<n) :
  ∃ g',acall T (n+36) 87 [DP p,.p (.int .i64 id),.p (.str name),.p (.str v)] g=some (.p (.int .i64 (setD S id name v).1),g')∧DM (liveL (setD S id name v).2) (setD S id name v).2.st (setD S id name v).2.kd nx av p q g'∧DFr (liveL S) av p q g (liveL (setD S id name v).2) av q g':=by
 obtain ⟨o,ho,hrep⟩:=hD.core.row
 have hob:=hD.core.obj
 have hix:=fun s i=>hrep.idx rowsD_len s true q i
 have hno:=noneD_run hD.core hL id (n:=n+33) (by omega)
 unfold setD
 by_cases hf:fitE S id≠0
 ·rw [if_pos hf]
  have e1:(fitE S id==0)=false:=by simpa using hf
  refine ⟨g, ?_,hD,DFr.refl _ _ _ _ _⟩
  rw [acall_code T87,run_code rfl rfl]
  generalize fitE S id=e at hno e1 ⊢
  simp -implicitDefEqProofs (disch:=omega) only [Rx,simprocAttr,F87,hno,e1]
 rw [if_neg hf]
 obtain ⟨c,rfl,hcL,hc0⟩:=fit_live hf
 simp only [ne_eq,Decidable.not_not] at hf
 rw [hf] at hno
 have hnm:=fun g=>named02_run name true g n
 by_cases hm:namedB true name=false
 ·rw [if_pos hm]
  rw [hm] at hnm
  refine ⟨g, ?_,hD,DFr.refl _ _ _ _ _⟩
  rw [acall_code T87,run_code rfl rfl]
  simp -implicitDefEqProofs (disch:=omega) only [Rx,simprocAttr,F87,hno,hnm]
 rw [if_neg hm]
 simp only [Bool.not_eq_false] at hm
 have hnl:=named_len hm
 rw [hm] at hnm
 by_cases hl:65536<(v.length:Int)
 ·rw [if_pos hl]
  have e1:(v.length:Int) > 65536:=hl
  refine ⟨g, ?_,hD,DFr.refl _ _ _ _ _⟩
  rw [acall_code T87,run_code rfl rfl]
  simp -implicitDefEqProofs (disch:=omega) only [Rx,simprocAttr,F87,hno,hnm,e1]
 rw [if_neg hl]
 have e1:¬ (v.length:Int) > 65536:=hl
 obtain ⟨ic,hpc,hic⟩:=posL_in hcL
 have hat1:=at_run hD.core hL (c:Int) (n:=n+34) (by omega)
 rw [hpc] at hat1
 have lc:=(List.getElem?_eq_some_iff.1 hic).1
 have kc:(ic:Int)<((liveL S).length:Int):=by omega
 have rdc:=rd_node hrep hic (j:=6) (by omega)
 simp only [nAV] at rdc
 obtain ⟨hcN,hcl⟩:=mem_liveL.1 hcL
 have hal:=hS.attrs c hcN
 have hwi:=fun g=>with09_run (S.st c).attrs name v hal (by omega) g (n:=n+33) (by omega) (by omega)
 simp only [Int.toNat_natCast]
 generalize hwa:withA (S.st c).attrs name v=w at hwi
 have wl:(w.map Attr.pv).length=w.length:=by simp
 by_cases h64:64<(w.length:Int)
 ·rw [if_pos h64]
  have k64:(w.length:Int) > 64:=h64
  refine ⟨g, ?_,hD,DFr.refl _ _ _ _ _⟩
  rw [acall_code T87,run_code rfl rfl]
  simp -implicitDefEqProofs (disch:=omega) only [Rx,simprocAttr,F87,hno,hnm,e1,hat1,hob,ho,hix,rdc,hwi,wl,k64]
 rw [if_neg h64]
 have k64:¬ (w.length:Int) > 64:=h64
 obtain ⟨o',hw,hr'⟩:=wr_node hrep hic (j:=6) (by omega) (.p (.list (w.map Attr.pv)))
 have e3:(rowsD (liveL S) S.st av).set ic ((nAV c (S.st c) (av c)).set 6 (.p (.list (w.map Attr.pv))))=rowsD (liveL S) (upd S.st c { S.st c with attrs:=w }) av:=by
  rw [← rows_node hD.core.nodup hic];rfl
 rw [e3] at hr'
 have hlv:liveL (setM S c w)=liveL S:=liveL_node (S:=S) (h:=c) (s:={ S.st c with attrs:=w }) rfl
 refine ⟨g.set q o', ?_,by rw [hlv];exact hD.node _ hr',by rw [hlv];exact DFr.node o'⟩
 rw [acall_code T87,run_code rfl rfl]
 simp -implicitDefEqProofs (disch:=omega) only [Rx,simprocAttr,F87,hno,hnm,e1,hat1,hob,ho,hix,rdc,hwi,wl,k64,hw]
theorem delD_run (hS:S.Ok R) (hD:DM (liveL S) S.st S.kd nx av p q g) (hL:(liveL S).length≤4194304) (id:Int) (name:Bs) {n:Nat} (hn:(liveL S).length<n) (hn2:1048577<n) :
  ∃ g',acall T (n+3) 88 [DP p,.p (.int .i64 id),.p (.str name)] g=some (.p (.int .i64 (delD S id name).1),g')∧DM (liveL (delD S id name).2) (delD S id name).2.st (delD S id name).2.kd nx av p q g'∧DFr (liveL S) av p q g (liveL (delD S id name).2) av q g':=by
 obtain ⟨o,ho,hrep⟩:=hD.core.row
 have hob:=hD.core.obj
 have hix:=fun s i=>hrep.idx rowsD_len s true q i
 have hno:=noneD_run hD.core hL id (n:=n) (by omega)
 unfold delD
 by_cases hf:fitE S id≠0
 ·rw [if_pos hf]
  have e1:(fitE S id==0)=false:=by simpa using hf
  refine ⟨g, ?_,hD,DFr.refl _ _ _ _ _⟩
  rw [acall_code T88,run_code rfl rfl]
  generalize fitE S id=e at hno e1 ⊢
  simp -implicitDefEqProofs (disch:=omega) only [Rx,simprocAttr,F88,hno,e1]
 rw [if_neg hf]
 obtain ⟨c,rfl,hcL,hc0⟩:=fit_live hf
 simp only [ne_eq,Decidable.not_not] at hf
 rw [hf] at hno
 obtain ⟨ic,hpc,hic⟩:=posL_in hcL
 have hat1:=at_run hD.core hL (c:Int) (n:=n+1) (by omega)
 rw [hpc] at hat1
 have lc:=(List.getElem?_eq_some_iff.1 hic).1
 have kc:(ic:Int)<((liveL S).length:Int):=by omega
 have rdc:=rd_node hrep hic (j:=6) (by omega)
 simp only [nAV] at rdc
 obtain ⟨hcN,hcl⟩:=mem_liveL.1 hcL
 have hal:=hS.attrs c hcN
 have hwi:=fun g=>without09_run (S.st c).attrs name hal g (n:=n+1) (by omega)
 simp only [Int.toNat_natCast]
 generalize hwa:withoutA (S.st c).attrs name=w at hwi
 have wl:(w.map Attr.pv).length=w.length:=by simp
 by_cases hlt:w.length<(S.st c).attrs.length
 rotate_left
 ·rw [if_neg hlt]
  have ed:decide (w.length<(S.st c).attrs.length)=false:=by simpa using hlt
  rw [ed] at hwi
  refine ⟨g, ?_,hD,DFr.refl _ _ _ _ _⟩
  rw [acall_code T88,run_code rfl rfl]
  simp -implicitDefEqProofs (disch:=omega) only [Rx,simprocAttr,F88,hno,hat1,hob,ho,hix,rdc,hwi]
 rw [if_pos hlt]
 have ed:decide (w.length<(S.st c).attrs.length)=true:=by simpa using hlt
 rw [ed] at hwi
 obtain ⟨o',hw,hr'⟩:=wr_node hrep hic (j:=6) (by omega) (.p (.list (w.map Attr.pv)))
 have e3:(rowsD (liveL S) S.st av).set ic ((nAV c (S.st c) (av c)).set 6 (.p (.list (w.map Attr.pv))))=rowsD (liveL S) (upd S.st c { S.st c with attrs:=w }) av:=by
  rw [← rows_node hD.core.nodup hic];rfl
 rw [e3] at hr'
 have hlv:liveL (setM S c w)=liveL S:=liveL_node (S:=S) (h:=c) (s:={ S.st c with attrs:=w }) rfl
 refine ⟨g.set q o', ?_,by rw [hlv];exact hD.node _ hr',by rw [hlv];exact DFr.node o'⟩
 rw [acall_code T88,run_code rfl rfl]
 simp -implicitDefEqProofs (disch:=omega) only [Rx,simprocAttr,F88,hno,hat1,hob,ho,hix,rdc,hwi,hw]
end
end Tryz
end Go.TA


end
section
/- The document's answer: a node is made; any operation. -/
set_option maxRecDepth 100000
set_option maxHeartbeats 8000000
namespace Go.TA
theorem liveL_create (S:MS) (x:GOp):liveL (S.create x)=liveL S++[S.N]:=by
 unfold liveL
 simp only [MS.create,List.range_succ,List.filter_append,List.filter_cons,List.filter_nil,upd_at,if_true]
 congr 1
 refine List.filter_congr fun k hk => ?_
 have:=List.mem_range.1 hk
 rw [upd_ne (by omega)]
theorem DM.push {L : List Nat} {st : Nat → MNode} {kd : Nat → List Int} {nx : Int} {av : Nat → AV} {p q : Nat} {g : List AObj} (h : DM L st kd nx av p q g) {N : Nat} (hN : N ∉ L) (s : MNode) (nx' : Int) {o' : AObj} (hr : RowRep 7 (rowsD (L ++ [N]) (upd st N s) (upd av N .nils)) o') : DM (L ++ [N]) (upd st N s) (upd kd N []) nx' (upd av N .nils) p q ((g.set q o').set p (.cells 2 [[.own true q (L.length + 1), .p (.int .i64 nx')]])) := by
  have hp:=(List.getElem?_eq_some_iff.1 h.core.obj).1
  obtain ⟨o,ho,_⟩:=h.core.row
  have hq:=(List.getElem?_eq_some_iff.1 ho).1
  have hmem:∀ k,k ∈ L++[N]→k=N∨(k ∈ L∧k≠N):=fun k hk=>by
    rcases List.mem_append.1 hk with h1 | h1
    · exact .inr ⟨h1,fun e=>hN (e ▸ h1)⟩
    · simp at h1;exact .inl h1
  refine ⟨⟨?_,⟨o', ?_,hr⟩,h.core.pq, ?_⟩,fun k hk => ?_,fun k hk => ?_,fun k k' hk hk' hne => ?_⟩
  · rw [List.getElem?_set,if_pos rfl,if_pos (by rw [List.length_set];exact hp)];simp
  · rw [List.getElem?_set,if_neg h.core.pq,List.getElem?_set,if_pos rfl,if_pos hq]
  · rw [List.nodup_append]
    refine ⟨h.core.nodup,by simp,fun a ha b hb e => ?_⟩
    simp at hb;subst hb;subst e;exact hN ha
  · rcases hmem k hk with rfl | ⟨h1,h2⟩
    · rw [upd_at,upd_at];exact .none
    · rw [upd_ne h2,upd_ne h2]
      refine (h.kids k h1).keep fun r hr => ?_
      rw [List.getElem?_set,if_neg (fun e=>(h.away k h1).1 (by rw [e];exact hr)),List.getElem?_set,if_neg (fun e=>(h.away k h1).2 (by rw [e];exact hr))]
  · rcases hmem k hk with rfl | ⟨h1,h2⟩
    · rw [upd_at];simp [refOf]
    · rw [upd_ne h2];exact h.away k h1
  · rcases hmem k hk with rfl | ⟨h1,h2⟩
    · left;rw [upd_at];rfl
    · rw [upd_ne h2]
      rcases hmem k' hk' with rfl | ⟨h3,h4⟩
      · rw [upd_at]
        cases hr:refOf (av k) with
        | none=>exact .inl rfl
        | some q=>exact .inr (by simp [refOf])
      · rw [upd_ne h4];exact h.disj k k' h1 h3 hne
theorem DFr.push {L:List Nat} {av:Nat→AV} {p q:Nat} {g:List AObj} {N:Nat} (hN:N ∉ L) (o o':AObj):DFr L av p q g (L++[N]) (upd av N .nils) q ((g.set q o).set p o') where
 len:=by simp
 keep j hj hp hq hn:=by rw [List.getElem?_set,if_neg (fun e=>hp e.symm),List.getElem?_set,if_neg (fun e=>hq e.symm)]
 row:=.inl rfl
 refs k hk j hj _:=by
  rcases List.mem_append.1 hk with h1 | h1
  ·have:k≠N:=fun e=>hN (e ▸ h1)
   rw [upd_ne this] at hj;exact ⟨k,h1,hj⟩
  ·simp at h1;subst h1;rw [upd_at] at hj;cases hj
namespace Tryz
noncomputable def doD (S:MS) (x:GOp):Int × Int × MS :=
 if x.kind=1 then (if createErr S.N x=0 then ((S.N:Int),0,S.create x) else (0,createErr S.N x,S))
 else if x.kind=2 then (0,insertD S x.node x.up x.before)
 else if x.kind=3 then (0,moveD S x.node x.before)
 else if x.kind=4 then (0,removeD S x.node)
 else if x.kind=5 then (0,setD S x.node x.name x.text)
 else if x.kind=6 then (0,delD S x.node x.name)
 else if x.kind=7 then (0,textD S x.node x.text)
 else (0,0,S)
section
variable {R:Nat} {S:MS} {av:Nat→AV} {p q:Nat} {g:List AObj}
theorem createD_run (hD:DM (liveL S) S.st S.kd S.N av p q g) (hL:(liveL S).length≤4194304) (x:GOp) (hs:smallAttrs x.attrs) {n:Nat} (hn:x.attrs.length<n) (hn2:1048576<n) :
    ∃ av' g', acall T (n + 37) 83 [DP p, .p (.str x.tag), .p (.str x.key), .p (.str x.text), .p (.list (x.attrs.map Attr.pv))] g = some (if createErr S.N x = 0 then .tuple [.p (.int .i64 S.N), .p (.int .i64 0)] else .tuple [.p (.int .i64 0), .p (.int .i64 (createErr S.N x))], g')
      ∧ DM (liveL (if createErr S.N x=0 then S.create x else S)) (if createErr S.N x=0 then S.create x else S).st (if createErr S.N x=0 then S.create x else S).kd (if createErr S.N x=0 then S.create x else S).N av' p q g'∧DFr (liveL S) av p q g (liveL (if createErr S.N x=0 then S.create x else S)) av' q g':=by
  obtain ⟨o,ho,hrep⟩:=hD.core.row
  have hob:=hD.core.obj
  have hnm:=fun g=>named02_run x.tag false g (n+1)
  have hat:=fun g=>a09_run x.attrs hs g (n:=n) (by omega) hn2
  have bad:∀ e:Int,createErr S.N x=e→e≠0→acall T (n+37) 83 [DP p,.p (.str x.tag),.p (.str x.key),.p (.str x.text),.p (.list (x.attrs.map Attr.pv))] g=some (.tuple [.p (.int .i64 0),.p (.int .i64 e)],g) →
      ∃ av' g',acall T (n+37) 83 [DP p,.p (.str x.tag),.p (.str x.key),.p (.str x.text),.p (.list (x.attrs.map Attr.pv))] g=some (if createErr S.N x=0 then .tuple [.p (.int .i64 S.N),.p (.int .i64 0)] else .tuple [.p (.int .i64 0),.p (.int .i64 (createErr S.N x))],g')
      ∧ DM (liveL (if createErr S.N x=0 then S.create x else S)) (if createErr S.N x=0 then S.create x else S).st (if createErr S.N x=0 then S.create x else S).kd (if createErr S.N x=0 then S.create x else S).N av' p q g'∧DFr (liveL S) av p q g (liveL (if createErr S.N x=0 then S.create x else S)) av' q g':=fun e he hne hr=>by
    rw [he,if_neg hne,if_neg hne]
    exact ⟨av,g,hr,hD,DFr.refl _ _ _ _ _⟩
  by_cases h7:namedB false x.tag=false
  · refine bad 7 (by simp [createErr,h7]) (by decide) ?_
    rw [h7] at hnm
    rw [acall_code T83,run_code rfl rfl]
    simp -implicitDefEqProofs (disch:=omega) only [Rx,simprocAttr,F83,hnm]
  simp only [Bool.not_eq_false] at h7
  rw [h7] at hnm
  by_cases h3:65536<(x.key.length:Int)
  · refine bad 3 (by simp only [createErr,h7,Bool.true_eq_false,if_false,if_pos (Or.inl h3:65536<(x.key.length:Int)∨65536<(x.text.length:Int))]) (by decide) ?_
    have k3:(x.key.length:Int) > 65536:=h3
    rw [acall_code T83,run_code rfl rfl]
    simp -implicitDefEqProofs (disch:=omega) only [Rx,simprocAttr,F83,hnm,k3]
  have k3:¬ (x.key.length:Int) > 65536:=h3
  by_cases h4:65536<(x.text.length:Int)
  · refine bad 3 (by simp only [createErr,h7,Bool.true_eq_false,if_false,if_pos (Or.inr h4:65536<(x.key.length:Int)∨65536<(x.text.length:Int))]) (by decide) ?_
    have k4:(x.text.length:Int) > 65536:=h4
    rw [acall_code T83,run_code rfl rfl]
    simp -implicitDefEqProofs (disch:=omega) only [Rx,simprocAttr,F83,hnm,k3,k4]
  have k4:¬ (x.text.length:Int) > 65536:=h4
  have h34:¬ (65536<(x.key.length:Int)∨65536<(x.text.length:Int)):=fun h=>h.elim h3 h4
  by_cases h5:attrsErr x.attrs≠0
  · refine bad (attrsErr x.attrs) (by simp only [createErr,h7,Bool.true_eq_false,if_false,if_neg h34,if_pos h5]) h5 ?_
    have k5:(attrsErr x.attrs==0)=false:=by simpa using h5
    generalize attrsErr x.attrs=e at hat k5
    rw [acall_code T83,run_code rfl rfl]
    simp -implicitDefEqProofs (disch:=omega) only [Rx,simprocAttr,F83,hnm,k3,k4,hat,k5]
  simp only [ne_eq,Decidable.not_not] at h5
  rw [h5] at hat
  by_cases h6:4294967295<(S.N:Int)
  · refine bad 21 (by simp only [createErr,h7,Bool.true_eq_false,if_false,if_neg h34,h5,ne_eq,not_true_eq_false,if_pos h6]) (by decide) ?_
    have k6:(S.N:Int) > 4294967295:=h6
    rw [acall_code T83,run_code rfl rfl]
    simp -implicitDefEqProofs (disch:=omega) only [Rx,simprocAttr,F83,hnm,k3,k4,hat,hob,k6]
  have k6:¬ (S.N:Int) > 4294967295:=h6
  have hz:createErr S.N x=0:=by simp only [createErr,h7,Bool.true_eq_false,if_false,if_neg h34,h5,ne_eq,not_true_eq_false,if_neg h6]
  rw [hz,if_pos rfl,if_pos rfl]
  have hNL:S.N ∉ liveL S:=fun h=>by have:=(mem_liveL.1 h).1;omega
  obtain ⟨o',happ,hr'⟩:=hrep.app (bytes:=112) rowsD_len (by omega) (c:=nAV S.N ⟨true, -1,x.tag,x.key,x.text,x.attrs⟩ .nils) rfl rfl
  rw [rowsD_push hNL] at hr'
  have hDp:=hD.push hNL ⟨true, -1,x.tag,x.key,x.text,x.attrs⟩ ((S.N:Int)+1) hr'
  have hFp:=DFr.push (av:=av) (p:=p) (q:=q) (g:=g) hNL o' (.cells 2 [[.own true q ((liveL S).length+1),.p (.int .i64 ((S.N:Int)+1))]])
  refine ⟨upd av S.N .nils,_, ?_,by rw [liveL_create];exact hDp,by rw [liveL_create];exact hFp⟩
  have hpl:=(List.getElem?_eq_some_iff.1 hob).1
  have hob2:(g.set q o')[p]? = some (.cells 2 [[.own true q (liveL S).length,.p (.int .i64 S.N)]]):=by
    rw [List.getElem?_set,if_neg (fun e=>hD.core.pq e.symm)];exact hob
  have hA:∀ X:AObj,((g.set q o').set p X)[p]? = some X:=fun X=>by rw [List.getElem?_set,if_pos rfl,if_pos (by rw [List.length_set];exact hpl)]
  have hss:∀ X Y:AObj,((g.set q o').set p X).set p Y=(g.set q o').set p Y:=fun X Y=>by simp
  have e9:(S.N:Int)+1 - 1=S.N:=by omega
  generalize hG:g.set q o'=G at hob2 hA hss
  simp only [nAV,List.map_nil] at happ
  rw [acall_code T83,run_code rfl rfl]
  simp -implicitDefEqProofs (disch:=omega) only [Rx,simprocAttr,F83,hnm,k3,k4,hat,hob,ho,k6,happ,hG,hob2,hA,hss,e9]
end
end Tryz
end Go.TA


end
section
/- The document's answer, of rows. -/
set_option maxRecDepth 100000
set_option maxHeartbeats 8000000
namespace Go.TA
structure Behind (g0:List AObj) (L:List Nat) (av:Nat→AV) (g:List AObj):Prop where
 len:g0.length≤g.length
 keep:∀ j,j<g0.length→g[j]? = g0[j]?
 refs:∀ h,h ∈ L→∀ r,refOf (av h)=some r→g0.length≤r
theorem DM.grow {L : List Nat} {st : Nat → MNode} {kd : Nat → List Int} {nx : Int} {av : Nat → AV} {p q : Nat} {g : List AObj} (h : DM L st kd nx av p q g) {c r : Nat} (hc : c ∈ L) (ha : av c = .own true r (kd c).length) (k : Int) {o' : AObj} (hr : RowRep 7 (rowsD L st (upd av c (.own true r ((kd c).length + 1)))) o') : DM L st (upd kd c (kd c ++ [k])) nx (upd av c (.own true r ((kd c).length + 1))) p q ((g.set r (.pcells 1 (intsPV (kd c ++ [k])))).set q o') := by
  have hro:refOf (av c)=some r:=by rw [ha];rfl
  have hrp:=(h.away c hc).1
  have hrq:=(h.away c hc).2
  rw [hro] at hrp hrq
  simp only [ne_eq,Option.some.injEq] at hrp hrq
  have hrl:=(h.kids c hc).ref_lt hro
  obtain ⟨o,ho,_⟩:=h.core.row
  have hql:=(List.getElem?_eq_some_iff.1 ho).1
  have hrn:∀ n,refOf (.own true r n)=some r:=fun n=>rfl
  refine ⟨⟨?_,⟨o', ?_,hr⟩,h.core.pq,h.core.nodup⟩,fun y hy => ?_,fun y hy => ?_,fun y y' hy hy' hne => ?_⟩
  · rw [List.getElem?_set,if_neg (fun e=>h.core.pq e.symm),List.getElem?_set,if_neg hrp];exact h.core.obj
  · rw [List.getElem?_set,if_pos rfl,if_pos (by rw [List.length_set];exact hql)]
  · by_cases e:y=c
    · subst e
      rw [upd_at,upd_at]
      have:=KG.own (g:=(g.set r (.pcells 1 (intsPV (kd y++[k])))).set q o') (r:=r) (ks:=kd y++[k]) (by rw [List.getElem?_set,if_neg (fun e=>hrq e.symm),List.getElem?_set,if_pos rfl,if_pos hrl])
      simpa using this
    · rw [upd_ne e,upd_ne e]
      refine (h.kids y hy).keep fun r' hr' => ?_
      rw [List.getElem?_set,if_neg (fun e=>(h.away y hy).2 (by rw [e];exact hr')),List.getElem?_set,if_neg]
      intro e2
      rcases h.disj y c hy hc e with h1 | h1
      · rw [h1] at hr';cases hr'
      · exact h1 (by rw [hr',hro,e2])
  · by_cases e:y=c
    · subst e;rw [upd_at,hrn];simp [hrp,hrq]
    · rw [upd_ne e];exact h.away y hy
  · have e0:∀ n,refOf (.own true r n)=refOf (av c):=fun n=>by rw [hro];rfl
    by_cases e:y=c
    · subst e
      rw [upd_at,upd_ne (fun e=>hne e.symm),e0]
      exact h.disj y y' hy hy' hne
    · rw [upd_ne e]
      by_cases e':y'=c
      · subst e'
        rw [upd_at,e0]
        exact h.disj y y' hy hy' hne
      · rw [upd_ne e'];exact h.disj y y' hy hy' hne
theorem DM.first {L : List Nat} {st : Nat → MNode} {kd : Nat → List Int} {nx : Int} {av : Nat → AV} {p q : Nat} {g : List AObj} (h : DM L st kd nx av p q g) {c : Nat} (hc : c ∈ L) (k : Int) {o' : AObj} (hr : RowRep 7 (rowsD L st (upd av c (.own true g.length 1))) o') : DM L st (upd kd c [k]) nx (upd av c (.own true g.length 1)) p q ((g ++ [AObj.pcells 1 (intsPV [k])]).set q o') := by
  obtain ⟨o,ho,_⟩:=h.core.row
  have hql:=(List.getElem?_eq_some_iff.1 ho).1
  have hpl:=(List.getElem?_eq_some_iff.1 h.core.obj).1
  have hrn:refOf (.own true g.length 1)=some g.length:=rfl
  refine ⟨⟨?_,⟨o', ?_,hr⟩,h.core.pq,h.core.nodup⟩,fun y hy => ?_,fun y hy => ?_,fun y y' hy hy' hne => ?_⟩
  · rw [List.getElem?_set,if_neg (fun e=>h.core.pq e.symm),List.getElem?_append_left hpl];exact h.core.obj
  · rw [List.getElem?_set,if_pos rfl,if_pos (by rw [List.length_append];omega)]
  · by_cases e:y=c
    · subst e
      rw [upd_at,upd_at]
      exact KG.own (ks:=[k]) (by rw [List.getElem?_set,if_neg (by omega)];simp)
    · rw [upd_ne e,upd_ne e]
      refine (h.kids y hy).keep fun r' hr' => ?_
      have:=(h.kids y hy).ref_lt hr'
      rw [List.getElem?_set,if_neg (fun e=>(h.away y hy).2 (by rw [e];exact hr')),List.getElem?_append_left this]
  · by_cases e:y=c
    · subst e;rw [upd_at,hrn];simp;omega
    · rw [upd_ne e];exact h.away y hy
  · by_cases e:y=c
    · subst e
      rw [upd_at,upd_ne (fun e=>hne e.symm),hrn]
      cases hr:refOf (av y') with
      | none=>exact .inr (by simp)
      | some r =>
        right
        have:=(h.kids y' hy').ref_lt hr
        simp only [ne_eq,Option.some.injEq];omega
    · rw [upd_ne e]
      by_cases e':y'=c
      · subst e'
        rw [upd_at,hrn]
        cases hr:refOf (av y) with
        | none=>exact .inl rfl
        | some r =>
          right
          have:=(h.kids y hy).ref_lt hr
          simp only [ne_eq,Option.some.injEq];omega
      · rw [upd_ne e'];exact h.disj y y' hy hy' hne
namespace Tryz
def newD (l:List GRow) (p i:Nat) (g:List AObj):St:=⟨[(0,.p (.list (l.map GRow.pv))),(3,DP p),(8,.p (.int .i64 l.length)),(9,.p (.int .i64 i))],[],g⟩
theorem newD_loop {C : Calls'} {N : Nat} (l : List GRow) (hl : l.length ≤ 1048576) (hs : standTo l l.length) (hN : l.length < N) (g0 : List AObj) (av0 : Nat → AV) (g1 : List AObj) (p q : Nat) (hD0 : DM (List.range 1) (st0 l) (kd0 l 0) 1 av0 p q g1) (hav0 : ∀ h, h ∈ List.range 1 → ∀ ks, av0 h ≠ .p ks) (hB0 : Behind g0 (List.range 1) av0 g1) (hp : g0.length ≤ p) (hq : g0.length ≤ q) :
    ∃ r,aexec C N (.loop B19x0) (newD l p 0 g1)=some r∧∃ av g,r=(.exit 0,⟨[(0,.p (.list (l.map GRow.pv))),(3,DP p)],[],g⟩)∧DM (List.range (l.length+1)) (st0 l) (kd0 l l.length) 1 av p q g∧Behind g0 (List.range (l.length+1)) av g:=by
  refine loop_inv (σ := Nat × (Nat→AV) × List AObj) (S:=fun s=>newD l p s.1 s.2.2) (I:=fun s=>s.1≤l.length∧DM (List.range (s.1+1)) (st0 l) (kd0 l s.1) 1 s.2.1 p q s.2.2∧(∀ h,h ∈ List.range (s.1+1)→∀ ks,s.2.1 h ≠ .p ks)∧Behind g0 (List.range (s.1+1)) s.2.1 s.2.2) (μ := fun s=>l.length - s.1)
    (Q:=fun r=>∃ av g,r=(.exit 0,⟨[(0,.p (.list (l.map GRow.pv))),(3,DP p)],[],g⟩)∧DM (List.range (l.length+1)) (st0 l) (kd0 l l.length) 1 av p q g∧Behind g0 (List.range (l.length+1)) av g) ?_ (0,av0,g1) ⟨by omega,hD0,hav0,hB0⟩ (by simp only;omega)
  rintro ⟨i,av,g⟩ ⟨h1,hD,h3,hB⟩
  simp only at h1 hD h3 hB ⊢
  by_cases hi:i<l.length
  · left
    obtain ⟨x,hx⟩:=get_some hi
    have hu:=hs i x hi hx
    obtain ⟨u,hue⟩:∃ u:Nat,x.up=(u:Int):=⟨x.up.toNat,by omega⟩
    have hg:=getD_map (f:=GRow.pv) hx
    have k1:(i:Int)<(l.length:Int):=by omega
    have hst:st0 l (i+1)=nodeOf x:=by simp [st0,hx]
    obtain ⟨o,ho,hrep⟩:=hD.core.row
    have hob:=hD.core.obj
    have hrl:(List.range (i+1)).length=i+1:=by simp
    rw [hrl] at hob
    have hNL:i+1 ∉ List.range (i+1):=by simp
    obtain ⟨o1,happ,hr1⟩:=hrep.app (n:=i+1) (bytes:=112) (by rw [rowsD_len,hrl]) (by omega) (c:=nAV (i+1) (nodeOf x) .nils) rfl rfl
    rw [rowsD_push hNL] at hr1
    have hD1:=hD.push hNL (nodeOf x) 1 hr1
    rw [hrl] at hD1
    have hD2:DM (List.range (i+1+1)) (st0 l) (upd (kd0 l i) (i+1) []) 1 (upd av (i+1) .nils) p q ((g.set q o1).set p (.cells 2 [[.own true q (i+1+1),.p (.int .i64 1)]])):=by
      rw [List.range_succ]
      refine hD1.congr fun k hk=>⟨?_,rfl⟩
      by_cases e:k=i+1
      · subst e;rw [upd_at,hst]
      · rw [upd_ne e]
    have hB2:Behind g0 (List.range (i+1+1)) (upd av (i+1) .nils) ((g.set q o1).set p (.cells 2 [[.own true q (i+1+1),.p (.int .i64 1)]])):=by
      refine ⟨by simpa using hB.len,fun j hj => ?_,fun h hh r hr => ?_⟩
      · rw [List.getElem?_set,if_neg (by omega),List.getElem?_set,if_neg (by omega)];exact hB.keep j hj
      · by_cases e:h=i+1
        · subst e;rw [upd_at] at hr;cases hr
        · rw [upd_ne e] at hr
          exact hB.refs h (by have:=List.mem_range.1 hh;exact List.mem_range.2 (by omega)) r hr
    have h32:∀ h,h ∈ List.range (i+1+1)→∀ ks,upd av (i+1) .nils h ≠ .p ks:=fun h hh ks=>by
      by_cases e:h=i+1
      · subst e;rw [upd_at];simp
      · rw [upd_ne e];exact h3 h (by have:=List.mem_range.1 hh;exact List.mem_range.2 (by omega)) ks
    have hpl:=(List.getElem?_eq_some_iff.1 hob).1
    have hob1:(g.set q o1)[p]? = some (.cells 2 [[.own true q (i+1),.p (.int .i64 1)]]):=by
      rw [List.getElem?_set,if_neg (fun e=>hD.core.pq e.symm)];exact hob
    generalize hG:g.set q o1=G at hD2 hB2 hob1
    generalize hG2:G.set p (.cells 2 [[.own true q (i+1+1),.p (.int .i64 1)]])=G2 at hD2 hB2
    generalize hav2:upd av (i+1) .nils=av2 at hD2 hB2 h32
    have hrl2:(List.range (i+1+1)).length=i+1+1:=by simp
    obtain ⟨o2,ho2,hrep2⟩:=hD2.core.row
    have hob2:=hD2.core.obj
    rw [hrl2] at hob2
    have hix2:=fun s i=>hrep2.idx (by rw [rowsD_len,hrl2]) s true q i
    have hul:u<i+1+1:=by omega
    have huL:u ∈ List.range (i+1+1):=List.mem_range.2 hul
    have hiu:(List.range (i+1+1))[u]? = some u:=List.getElem?_range hul
    have ku:(u:Int)<((i+1+1:Nat):Int):=by omega
    have rdu:=rd_node hrep2 hiu (j:=2) (by omega)
    rw [hrl2] at rdu
    simp only [nAV] at rdu
    have hK:=hD2.kids u huL
    have hkd:∀ h,h ∈ List.range (i+1+1)→upd (upd (kd0 l i) (i+1) []) u (upd (kd0 l i) (i+1) [] u++[(i:Int)+1]) h=kd0 l (i+1) h:=by
      intro h hh
      have hnew:upd (kd0 l i) (i+1) [] h=kd0 l i h:=by
        by_cases e:h=i+1
        · subst e;rw [upd_at,kd0_new (hs.mono (by omega)) (by omega)]
        · rw [upd_ne e]
      rw [kd0_succ hx,hue]
      by_cases e:h=u
      · subst e
        rw [upd_at,hnew,if_pos rfl]
      · rw [upd_ne e,hnew,if_neg (by omega)]
    have hkl:(upd (kd0 l i) (i+1) [] u).length≤1048576:=by
      by_cases e:u=i+1
      · rw [e,upd_at];simp
      · rw [upd_ne e]
        simp only [kd0,List.length_map]
        have:=List.length_filter_le (fun k=>((l[k]?).map (fun x=>x.up==(u:Int))).getD false) (List.range i)
        simp only [List.length_range] at this
        omega
    generalize hkd2:upd (kd0 l i) (i+1) []=kd2 at hD2 hK hkd hkl
    have hwr:=fun a=>wr_node hrep2 hiu (j:=2) (by omega) a
    have hql:=(List.getElem?_eq_some_iff.1 ho2).1
    have hp2:=(List.getElem?_eq_some_iff.1 hob2).1
    simp only [nAV,nodeOf,hue] at happ
    have c1:((i+1:Nat):Int)=(i:Int)+1:=by omega
    rw [c1] at happ
    rcases hK.inv with ⟨hav,hk0⟩ | ⟨r,hav,hr⟩ | hav
    · rw [hav] at rdu
      obtain ⟨o3,hw,hr3⟩:=hwr (.own true G2.length 1)
      rw [rows_kids List.nodup_range hiu] at hr3
      rw [hrl2] at hw
      have hD3:=hD2.first huL ((i:Int)+1) hr3
      refine ⟨(i+1,upd av2 u (.own true G2.length 1),(G2++[AObj.pcells 1 (intsPV [(i:Int)+1])]).set q o3), ?_,⟨by simp only;omega,hD3.congr fun h hh=>⟨rfl,by rw [← hkd h hh,hk0];rfl⟩,fun h hh ks => ?_, ?_,fun j hj => ?_,fun h hh r hr => ?_⟩,by simp only;omega⟩
      · have hlast:(G2++[AObj.pcells 1 []])[G2.length]? = some (.pcells 1 []):=by simp
        have hset:∀ X,(G2++[AObj.pcells 1 []]).set G2.length X=G2++[X]:=fun X=>by simp [List.set_append]
        have hob3:∀ X,(G2++[X])[p]? = some (.cells 2 [[.own true q (i+1+1),.p (.int .i64 1)]]):=fun X=>by rw [List.getElem?_append_left hp2];exact hob2
        have ho3:∀ X,(G2++[X])[q]? = some o2:=fun X=>by rw [List.getElem?_append_left hql];exact ho2
        have ei:intsPV [(i:Int)+1]=[[.int .i64 ((i:Int)+1)]]:=rfl
        rw [ei]
        simp only [newD]
        simp -implicitDefEqProofs (disch:=omega) only [Rx,simprocAttr,B19x0,k1,hg,GRow.pv,attrsPV,hob,ho,happ,hG,hob1,hG2,hob2,ho2,hix2,hue,rdu,hset,hob3,ho3,hw]
      · by_cases e:h=u
        · subst e;simp [upd]
        · simp only;rw [upd_ne e];exact h32 h hh ks
      · have:=hB2.len;simp;omega
      · have:=hB2.len
        simp only
        rw [List.getElem?_set,if_neg (by omega),List.getElem?_append_left (by omega)];exact hB2.keep j hj
      · simp only at hr
        by_cases e:h=u
        · subst e
          rw [upd_at] at hr
          simp only [refOf,Option.some.injEq] at hr
          have:=hB2.len;omega
        · rw [upd_ne e] at hr;exact hB2.refs h hh r hr
    · rw [hav] at rdu
      obtain ⟨o3,hw,hr3⟩:=hwr (.own true r ((kd2 u).length+1))
      rw [rows_kids List.nodup_range hiu] at hr3
      rw [hrl2] at hw
      have hD3:=hD2.grow huL hav ((i:Int)+1) hr3
      have hro:refOf (av2 u)=some r:=by rw [hav];rfl
      have hrb:=hB2.refs u huL r hro
      refine ⟨(i+1,upd av2 u (.own true r ((kd2 u).length+1)),(G2.set r (.pcells 1 (intsPV (kd2 u++[(i:Int)+1])))).set q o3), ?_,⟨by simp only;omega,hD3.congr fun h hh=>⟨rfl,by rw [← hkd h hh]⟩,fun h hh ks => ?_, ?_,fun j hj => ?_,fun h hh r' hr' => ?_⟩,by simp only;omega⟩
      · have hrp:=(hD2.away u huL).1
        have hrq:=(hD2.away u huL).2
        rw [hro] at hrp hrq
        simp only [ne_eq,Option.some.injEq] at hrp hrq
        have hob3:∀ X,(G2.set r X)[p]? = some (.cells 2 [[.own true q (i+1+1),.p (.int .i64 1)]]):=fun X=>by rw [List.getElem?_set,if_neg hrp];exact hob2
        have ho3:∀ X,(G2.set r X)[q]? = some o2:=fun X=>by rw [List.getElem?_set,if_neg hrq];exact ho2
        have il:=intsPV_len (kd2 u)
        have os:=intsPV_snoc (kd2 u) ((i:Int)+1)
        have ol:(intsPV (kd2 u++[(i:Int)+1])).length=(kd2 u).length+1:=by rw [intsPV_len];simp
        generalize kd2 u++[(i:Int)+1]=ks2 at os ol
        simp only [newD]
        simp -implicitDefEqProofs (disch:=omega) only [Rx,simprocAttr,B19x0,k1,hg,GRow.pv,attrsPV,hob,ho,happ,hG,hob1,hG2,hob2,ho2,hix2,hue,rdu,hr,il,os,ol,hob3,ho3,hw]
      · by_cases e:h=u
        · subst e;simp [upd]
        · simp only;rw [upd_ne e];exact h32 h hh ks
      · have:=hB2.len;simp;omega
      · have:=hB2.len
        simp only
        rw [List.getElem?_set,if_neg (by omega),List.getElem?_set,if_neg (by omega)];exact hB2.keep j hj
      · simp only at hr'
        by_cases e:h=u
        · subst e
          rw [upd_at] at hr'
          simp only [refOf,Option.some.injEq] at hr'
          omega
        · rw [upd_ne e] at hr';exact hB2.refs h hh r' hr'
    · exact absurd hav (h32 u huL _)
  · right
    obtain rfl:i=l.length:=by omega
    have k1:¬ (l.length:Int)<(l.length:Int):=by omega
    refine ⟨_, ?_, ?_,av,g,rfl,hD,hB⟩
    · simp only [newD]
      simp -implicitDefEqProofs (disch:=omega) only [Rx,simprocAttr,B19x0,k1]
    · simp
theorem new20_run (nx:Int) (g:List AObj) (n:Nat):acall T (n+1) 49 [.p (.int .i64 nx)] g=some (DP (g.length+1),g++[.cells 7 [nAV 0 holder .nils]]++[.cells 2 [[.own true g.length 1,.p (.int .i64 nx)]]]):=by
 rw [acall_code T49,run_code rfl rfl]
 have e:(g++[AObj.cells 7 [nAV 0 holder .nils]]).length=g.length+1:=by simp
 simp only [nAV,holder,List.map_nil,Int.natCast_zero] at e ⊢
 simp -implicitDefEqProofs (disch:=omega) only [Rx,simprocAttr,F49,e]
theorem S0_live (l:List GRow):liveL (S0 l)=List.range (l.length+1):=by
  unfold liveL
  refine List.filter_eq_self.2 fun c hc => ?_
  have hc:=List.mem_range.1 hc
  simp only [S0] at hc ⊢
  cases c with
  | zero=>rfl
  | succ j =>
    obtain ⟨x,hx⟩:=get_some (show j<l.length by omega)
    simp [st0,hx,nodeOf]
theorem newR_run (l:List GRow) (hl:l.length≤1048576) (hs:standTo l l.length) (g:List AObj) {n:Nat} (hn:l.length<n) :
  ∃ av g',acall T (n+2) 19 [.p (.list (l.map GRow.pv))] g=some (DP (g.length+1),g')∧DM (liveL (S0 l)) (S0 l).st (S0 l).kd (S0 l).N av (g.length+1) g.length g'∧Behind g (liveL (S0 l)) av g':=by
 have hn20:=new20_run 1 g n
 have hr1:List.range 1=[0]:=rfl
 have hD0:DM (List.range 1) (st0 l) (kd0 l 0) 1 (fun _ => .nils) (g.length+1) g.length (g++[.cells 7 [nAV 0 holder .nils]]++[.cells 2 [[.own true g.length 1,.p (.int .i64 1)]]]):=by
  refine ⟨⟨?_,⟨.cells 7 [nAV 0 holder .nils], ?_,.inl rfl⟩,by omega,List.nodup_range⟩,fun h hh => ?_,fun h hh=>by simp [refOf],fun h h' hh hh' hne => .inl rfl⟩
  ·rw [List.getElem?_append_right (by simp)];simp
  ·rw [List.append_assoc,List.getElem?_append_right (Nat.le_refl _)];simp
  ·exact .none
 have hB0:Behind g (List.range 1) (fun _ => .nils) (g++[.cells 7 [nAV 0 holder .nils]]++[.cells 2 [[.own true g.length 1,.p (.int .i64 1)]]]):=⟨by simp <;> omega,fun j hj=>by rw [List.append_assoc,List.getElem?_append_left hj],fun h hh r hr=>by cases hr⟩
 obtain ⟨r,hr,av,g2,rfl,hD,hB⟩:=newD_loop (C:=acall T (n+1)) (N:=n+1) l hl hs (by omega) g _ _ (g.length+1) g.length hD0 (fun h hh ks=>by simp) hB0 (by omega) (by omega)
 have hpl:=(List.getElem?_eq_some_iff.1 hD.core.obj).1
 have hob:=hD.core.obj
 have hll:(List.range (l.length+1)).length=l.length+1:=by simp
 rw [hll] at hob
 refine ⟨av,g2.set (g.length+1) (.cells 2 [[.own true g.length (l.length+1),.p (.int .i64 ((l.length:Int)+1))]]), ?_, ?_, ?_⟩
 ·generalize g++[AObj.cells 7 [nAV 0 holder .nils]]++[.cells 2 [[.own true g.length 1,.p (.int .i64 1)]]]=g1 at hn20 hr
  have ll:(l.map GRow.pv).length=l.length:=by simp
  simp only [newD,Int.natCast_zero] at hr
  rw [acall_code T19,run_code rfl rfl]
  simp -implicitDefEqProofs (disch:=omega) only [Rx,simprocAttr,F19,hn20,hr,hob,ll]
 ·rw [S0_live]
  have hne:=hD.core.pq
  refine ⟨⟨?_, ?_,hne,hD.core.nodup⟩,fun h hh=>(hD.kids h hh).keep fun r hr => ?_,hD.away,hD.disj⟩
  ·rw [List.getElem?_set,if_pos rfl,if_pos hpl,hll];simp [S0]
  ·obtain ⟨o,h1,h2⟩:=hD.core.row
   exact ⟨o,by rw [List.getElem?_set,if_neg hne];exact h1,h2⟩
  ·rw [List.getElem?_set,if_neg (fun e=>(hD.away h hh).1 (by rw [e];exact hr))]
 ·rw [S0_live]
  refine ⟨by simpa using hB.len,fun j hj => ?_,hB.refs⟩
  rw [List.getElem?_set,if_neg (by omega)];exact hB.keep j hj
end Tryz
end Go.TA


end
section
/- The document's answer: any operation. -/
set_option maxRecDepth 100000
set_option maxHeartbeats 8000000
namespace Go.TA.Tryz
section
variable {R:Nat} {S:MS} {av:Nat→AV} {p q:Nat} {g:List AObj}
theorem insertD_N (S:MS) (id up b:Int):(insertD S id up b).2.N=S.N:=by
 unfold insertD;repeat' split
 all_goals rfl
theorem moveD_N (S:MS) (id b:Int):(moveD S id b).2.N=S.N:=by
 unfold moveD;repeat' split
 all_goals first | rfl | simp [placeM,takeM_N]
theorem removeD_N (S:MS) (id:Int):(removeD S id).2.N=S.N:=by
 unfold removeD;split
 ·rfl
 ·simp [endM,takeM_N]
theorem setD_N (S:MS) (id:Int) (name v:Bs):(setD S id name v).2.N=S.N:=by
 unfold setD;repeat' split
 all_goals rfl
theorem delD_N (S:MS) (id:Int) (name:Bs):(delD S id name).2.N=S.N:=by
 unfold delD;repeat' split
 all_goals rfl
theorem textD_N (S:MS) (id:Int) (s:Bs):(textD S id s).2.N=S.N:=by
 unfold textD;repeat' split
 all_goals rfl
theorem doD_run (hS:S.Ok R) (hD:DM (liveL S) S.st S.kd S.N av p q g) (hL:(liveL S).length≤4194304) (x:GOp) (hs:smallAttrs x.attrs) {n:Nat} (hn:(liveL S).length<n) (hR:R+3<n) (hx:x.attrs.length<n) (hn2:1048577<n) :
  ∃ av' q' g',acall T (n+38) 52 [DP p,.p (.agg x.pv)] g=some (.tuple [.p (.int .i64 (doD S x).1),.p (.int .i64 (doD S x).2.1)],g')∧DM (liveL (doD S x).2.2) (doD S x).2.2.st (doD S x).2.2.kd (doD S x).2.2.N av' p q' g'∧DFr (liveL S) av p q g (liveL (doD S x).2.2) av' q' g':=by
 unfold doD
 by_cases h1:x.kind=1
 ·rw [if_pos h1]
  have e1:(x.kind==1)=true:=by simpa using h1
  obtain ⟨av',g',hc,hD',hF⟩:=createD_run hD hL x hs (n:=n) (by omega) (by omega)
  by_cases hz:createErr S.N x=0
  ·rw [if_pos hz] at hc hD' hF ⊢
   refine ⟨av',q,g', ?_,hD',hF⟩
   rw [acall_code T52,run_code rfl rfl]
   simp -implicitDefEqProofs (disch:=omega) only [Rx,simprocAttr,F52,GOp.pv,attrsPV,e1,hc]
  ·rw [if_neg hz] at hc hD' hF ⊢
   refine ⟨av',q,g', ?_,hD',hF⟩
   generalize createErr S.N x=e at hc
   rw [acall_code T52,run_code rfl rfl]
   simp -implicitDefEqProofs (disch:=omega) only [Rx,simprocAttr,F52,GOp.pv,attrsPV,e1,hc]
 rw [if_neg h1]
 have e1:(x.kind==1)=false:=by simpa using h1
 by_cases h2:x.kind=2
 ·rw [if_pos h2]
  have e2:(x.kind==2)=true:=by simpa using h2
  obtain ⟨av',g',hc,hD',hF⟩:=insertD_run hS hD hL x.node x.up x.before (n:=n+33) (by omega) (by omega)
  refine ⟨av',q,g', ?_,by rw [insertD_N];exact hD',hF⟩
  generalize insertD S x.node x.up x.before=z at hc
  rw [acall_code T52,run_code rfl rfl]
  simp -implicitDefEqProofs (disch:=omega) only [Rx,simprocAttr,F52,GOp.pv,attrsPV,e1,e2,hc]
 rw [if_neg h2]
 have e2:(x.kind==2)=false:=by simpa using h2
 by_cases h3:x.kind=3
 ·rw [if_pos h3]
  have e3:(x.kind==3)=true:=by simpa using h3
  obtain ⟨av',g',hc,hD',hF⟩:=moveD_run hS hD hL x.node x.before (n:=n+33) (by omega)
  refine ⟨av',q,g', ?_,by rw [moveD_N];exact hD',hF⟩
  generalize moveD S x.node x.before=z at hc
  rw [acall_code T52,run_code rfl rfl]
  simp -implicitDefEqProofs (disch:=omega) only [Rx,simprocAttr,F52,GOp.pv,attrsPV,e1,e2,e3,hc]
 rw [if_neg h3]
 have e3:(x.kind==3)=false:=by simpa using h3
 by_cases h4:x.kind=4
 ·rw [if_pos h4]
  have e4:(x.kind==4)=true:=by simpa using h4
  obtain ⟨av',q',g',hc,hD',hF⟩:=removeD_run hS hD hL x.node (n:=n+33) (by omega) (by omega)
  refine ⟨av',q',g', ?_,by rw [removeD_N];exact hD',hF⟩
  generalize removeD S x.node=z at hc
  rw [acall_code T52,run_code rfl rfl]
  simp -implicitDefEqProofs (disch:=omega) only [Rx,simprocAttr,F52,GOp.pv,attrsPV,e1,e2,e3,e4,hc]
 rw [if_neg h4]
 have e4:(x.kind==4)=false:=by simpa using h4
 by_cases h5:x.kind=5
 ·rw [if_pos h5]
  have e5:(x.kind==5)=true:=by simpa using h5
  obtain ⟨g',hc,hD',hF⟩:=setD_run hS hD hL x.node x.name x.text (n:=n+1) (by omega) (by omega)
  refine ⟨av,q,g', ?_,by rw [setD_N];exact hD',hF⟩
  generalize setD S x.node x.name x.text=z at hc
  rw [acall_code T52,run_code rfl rfl]
  simp -implicitDefEqProofs (disch:=omega) only [Rx,simprocAttr,F52,GOp.pv,attrsPV,e1,e2,e3,e4,e5,hc]
 rw [if_neg h5]
 have e5:(x.kind==5)=false:=by simpa using h5
 by_cases h6:x.kind=6
 ·rw [if_pos h6]
  have e6:(x.kind==6)=true:=by simpa using h6
  obtain ⟨g',hc,hD',hF⟩:=delD_run hS hD hL x.node x.name (n:=n+34) (by omega) (by omega)
  refine ⟨av,q,g', ?_,by rw [delD_N];exact hD',hF⟩
  generalize delD S x.node x.name=z at hc
  rw [acall_code T52,run_code rfl rfl]
  simp -implicitDefEqProofs (disch:=omega) only [Rx,simprocAttr,F52,GOp.pv,attrsPV,e1,e2,e3,e4,e5,e6,hc]
 rw [if_neg h6]
 have e6:(x.kind==6)=false:=by simpa using h6
 by_cases h7:x.kind=7
 ·rw [if_pos h7]
  have e7:(x.kind==7)=true:=by simpa using h7
  obtain ⟨g',hc,hD',hF⟩:=textD_run hD hL x.node x.text (n:=n+34) (by omega)
  refine ⟨av,q,g', ?_,by rw [textD_N];exact hD',hF⟩
  generalize textD S x.node x.text=z at hc
  rw [acall_code T52,run_code rfl rfl]
  simp -implicitDefEqProofs (disch:=omega) only [Rx,simprocAttr,F52,GOp.pv,attrsPV,e1,e2,e3,e4,e5,e6,e7,hc]
 rw [if_neg h7]
 have e7:(x.kind==7)=false:=by simpa using h7
 refine ⟨av,q,g, ?_,hD,DFr.refl _ _ _ _ _⟩
 rw [acall_code T52,run_code rfl rfl]
 simp -implicitDefEqProofs (disch:=omega) only [Rx,simprocAttr,F52,GOp.pv,attrsPV,e1,e2,e3,e4,e5,e6,e7]
end
end Go.TA.Tryz


end
section
/- The document's answer does what a machine does. -/
set_option maxRecDepth 100000
set_option maxHeartbeats 8000000
namespace Go.TA.Tryz
structure FineOp (x:GOp):Prop where
 kind:1≤x.kind∧x.kind≤7
 tag:x.kind=1→namedB false x.tag=true
 name:x.kind=5∨x.kind=6→namedB true x.name=true
 key:(x.key.length:Int)≤65536
 text:(x.text.length:Int)≤65536
 attrs:attrsErr x.attrs=0
 hs:0≤x.node∧x.node≤4294967295∧0≤x.up∧x.up≤4294967295∧0≤x.before∧x.before≤4294967295
 none:noneB x=false
theorem fineOp_of {x:GOp} (h:opErr x=0):FineOp x:=by
 unfold opErr at h
 split at h
 ·omega
 split at h
 ·omega
 split at h
 ·omega
 split at h
 ·omega
 split at h
 ·omega
 split at h
 ·omega
 split at h
 ·omega
 split at h
 ·omega
 split at h
 ·omega
 split at h
 ·omega
 rename_i h1 h2 h3 h4 h5 h6 h7 h8 h9 h10
 simp only [Bool.not_eq_false,Bool.not_eq_true] at h3 h4 h5 h6 h7 h8
 simp only [hOk,Bool.and_eq_true,decide_eq_true_eq] at h3 h4 h5
 refine ⟨⟨by omega,by omega⟩,fun hk => ?_,fun hk => ?_,by omega,by omega,h,⟨h3.1,h3.2,h4.1,h4.2,h5.1,h5.2⟩,h6⟩
 ·simpa [tagBad,hk] using h7
 ·rcases hk with hk | hk
  ·simpa [nameBad,hk] using h8
  ·simpa [nameBad,hk] using h8
theorem fit_node {S:MS} {h:Int} (h0:h≠0):fitE S h=if liveB S h=true then 0 else 13:=by simp [fitE,h0]
theorem doD_doM {S:MS} {x:GOp} (h:opErr x=0) (hN:S.N≤4294967295):(doD S x).2=doM S x:=by
 have hf:=fineOp_of h
 unfold doD doM
 by_cases h1:x.kind=1
 ·rw [if_pos h1,if_pos h1]
  have hz:createErr S.N x=0:=by
   have:=hf.key
   have:=hf.text
   simp only [createErr,hf.tag h1,Bool.true_eq_false,if_false,hf.attrs,ne_eq,not_true_eq_false]
   rw [if_neg (by omega),if_neg (by omega)]
  rw [if_pos hz]
 rw [if_neg h1,if_neg h1]
 by_cases h0:x.node=0
 ·rw [if_pos h0]
  have f0:fitE S x.node=14:=by simp [fitE,h0]
  by_cases h2:x.kind=2
  ·simp only [if_pos h2,insertD,f0];rfl
  rw [if_neg h2]
  by_cases h3:x.kind=3
  ·simp only [if_pos h3,moveD,f0];rfl
  rw [if_neg h3]
  by_cases h4:x.kind=4
  ·simp only [if_pos h4,removeD,f0];rfl
  rw [if_neg h4]
  by_cases h5:x.kind=5
  ·simp only [if_pos h5,setD,f0];rfl
  rw [if_neg h5]
  by_cases h6:x.kind=6
  ·simp only [if_pos h6,delD,f0];rfl
  rw [if_neg h6]
  have h7:x.kind=7:=by have:=hf.kind;omega
  simp only [if_pos h7,textD,f0];rfl
 rw [if_neg h0]
 have fn:=fit_node (S:=S) h0
 by_cases h2:x.kind=2
 ·rw [if_pos h2,if_pos h2]
  unfold insertD insertM
  rw [fn]
  cases hl:liveB S x.node <;> simp
 rw [if_neg h2,if_neg h2]
 by_cases h3:x.kind=3
 ·rw [if_pos h3,if_pos h3]
  unfold moveD moveM
  rw [fn]
  cases hl:liveB S x.node <;> simp
 rw [if_neg h3,if_neg h3]
 by_cases h4:x.kind=4
 ·rw [if_pos h4,if_pos h4]
  unfold removeD
  rw [fn]
  cases hl:liveB S x.node <;> simp
 rw [if_neg h4,if_neg h4]
 unfold changeM
 by_cases h5:x.kind=5
 ·have:=hf.text
  have hn:=hf.name (.inl h5)
  rw [if_pos h5,if_pos h5]
  unfold setD
  rw [fn]
  cases hl:liveB S x.node
  ·simp
  ·simp only [if_true,ne_eq,not_true_eq_false,if_false,hn,Bool.true_eq_false]
   rw [if_neg (by omega)]
 rw [if_neg h5,if_neg h5]
 by_cases h6:x.kind=6
 ·rw [if_pos h6,if_pos h6]
  unfold delD
  rw [fn]
  cases hl:liveB S x.node <;> simp
 rw [if_neg h6,if_neg h6]
 have h7:x.kind=7:=by have:=hf.kind;omega
 rw [if_pos h7,if_pos h7]
 unfold textD
 rw [fn]
 have:=hf.text
 cases hl:liveB S x.node
 ·simp
 ·simp only [if_true,ne_eq,not_true_eq_false,if_false,Bool.true_eq_false]
  rw [if_neg (by omega)]
section
variable {R:Nat} {S:MS} {av:Nat→AV} {p q:Nat} {g:List AObj}
theorem refDo_run (hS:S.Ok R) (hD:DM (liveL S) S.st S.kd S.N av p q g) (hL:(liveL S).length≤4194304) (hN:S.N≤4294967295) (x:GOp) (hs:smallAttrs x.attrs) {n:Nat} (hn:(liveL S).length<n) (hR:R+3<n) (hx:x.attrs.length<n) (hn2:1048577<n) :
  ∃ av' q' g',acall T (n+39) 25 [DP p,.p (.agg x.pv)] g=some (.p (.int .i64 (doE S x).1),g')∧DM (liveL (doE S x).2) (doE S x).2.st (doE S x).2.kd (doE S x).2.N av' p q' g'∧DFr (liveL S) av p q g (liveL (doE S x).2) av' q' g':=by
 have hck:=fun g=>ref25_run x hs g (n:=n+1) (by omega) (by omega)
 unfold doE
 by_cases h:opErr x=0
 ·rw [if_pos h]
  rw [h] at hck
  obtain ⟨av',q',g',hc,hD',hF⟩:=doD_run hS hD hL x hs hn hR hx hn2
  have e:=doD_doM (S:=S) h hN
  rw [e] at hc hD' hF
  refine ⟨av',q',g', ?_,hD',hF⟩
  rw [acall_code T25,run_code rfl rfl]
  generalize (doD S x).1=z at hc
  generalize doM S x=y at hc
  simp only [GOp.pv,attrsPV] at hc hck
  simp -implicitDefEqProofs (disch:=omega) only [Rx,simprocAttr,F25,GOp.pv,attrsPV,hck,hc]
 ·rw [if_neg h]
  have e1:(opErr x==0)=false:=by simpa using h
  refine ⟨av,q,g, ?_,hD,DFr.refl _ _ _ _ _⟩
  rw [acall_code T25,run_code rfl rfl]
  generalize opErr x=e at hck e1 ⊢
  simp only [GOp.pv,attrsPV] at hck
  simp -implicitDefEqProofs (disch:=omega) only [Rx,simprocAttr,F25,GOp.pv,attrsPV,hck,e1]
end
end Go.TA.Tryz


end
section
/- The document's answer runs a script. -/
set_option maxRecDepth 100000
set_option maxHeartbeats 8000000
namespace Go.TA.Tryz
theorem refRun_run {R : Nat} {S : MS} (hS : S.Ok R) (L : List GOp) (hL : ∀ x ∈ L, x.attrs.length ≤ 1048576 ∧ smallAttrs x.attrs) (hN : S.N + L.length ≤ 4194303) (hLl : L.length ≤ 1048576) (av : Nat → AV) (p q : Nat) (g : List AObj) (hD : DM (liveL S) S.st S.kd S.N av p q g) {F : Nat} (hF : S.N + L.length + bnd R L.length + bnd R L.length + 1048700 < F) :
    ∃ av' q' g', acall T (F + 1) 20 [DP p, .p (.list (L.map GOp.pv))] g = some (.tuple [.p (.int .i64 (runM S L 0).1), .p (.int .i64 (runM S L 0).2.1)], g')
      ∧ DM (liveL (runM S L 0).2.2) (runM S L 0).2.2.st (runM S L 0).2.2.kd (runM S L 0).2.2.N av' p q' g'∧DFr (liveL S) av p q g (liveL (runM S L 0).2.2) av' q' g':=by
  have key:=loop_inv (C:=acall T F) (N:=F) (B:=B20x0) (σ := Nat × MS × (Nat→AV) × Nat × List AObj) (S:=fun s=>⟨[(0,DP p),(1,.p (.list (L.map GOp.pv))),(9,.p (.int .i64 L.length)),(10,.p (.int .i64 s.1))],[],s.2.2.2.2⟩)
    (I:=fun s=>s.1≤L.length∧s.2.1.Ok (bnd R s.1)∧DM (liveL s.2.1) s.2.1.st s.2.1.kd s.2.1.N s.2.2.1 p s.2.2.2.1 s.2.2.2.2∧s.2.1.N≤S.N+s.1∧runM S L 0=runM s.2.1 (L.drop s.1) s.1∧DFr (liveL S) av p q g (liveL s.2.1) s.2.2.1 s.2.2.2.1 s.2.2.2.2) (μ := fun s=>L.length - s.1)
    (Q:=fun z=>∃ av' q' g',(((runM S L 0).2.1=0∧(runM S L 0).1=L.length∧z=(.exit 0,⟨[(1,.p (.list (L.map GOp.pv)))],[],g'⟩))∨z=(.ret,⟨[(4,.p (.int .i64 (runM S L 0).1)),(5,.p (.int .i64 (runM S L 0).2.1))],[],g'⟩))
      ∧ DM (liveL (runM S L 0).2.2) (runM S L 0).2.2.st (runM S L 0).2.2.kd (runM S L 0).2.2.N av' p q' g'∧DFr (liveL S) av p q g (liveL (runM S L 0).2.2) av' q' g') ?_ (0,S,av,q,g) ⟨by simp,hS,hD,by simp,by simp,DFr.refl _ _ _ _ _⟩ (by simp only;omega)
  · obtain ⟨z,hz,av',q',g',hz2,h2⟩:=key
    refine ⟨av',q',g', ?_,h2⟩
    have ll:(L.map GOp.pv).length=L.length:=by simp
    rw [acall_code T20,run_code rfl rfl]
    simp only [Int.natCast_zero] at hz
    rcases hz2 with ⟨z1,z2,rfl⟩ | rfl
    · rw [z1,z2]
      simp -implicitDefEqProofs (disch:=omega) only [Rx,simprocAttr,F20,ll,hz]
    · simp -implicitDefEqProofs (disch:=omega) only [Rx,simprocAttr,F20,ll,hz]
  rintro ⟨i,S1,av1,q1,g1⟩ ⟨h1,h2,h3,h4,h5,h6⟩
  simp only at h1 h2 h3 h4 h5 h6 ⊢
  have hb:=bnd_mono R h1
  by_cases hi:i<L.length
  · obtain ⟨x,hx⟩:∃ x,L[i]? = some x:=⟨_,List.getElem?_eq_getElem hi⟩
    obtain ⟨hxm,hxs⟩:=hL x (List.mem_of_getElem? hx)
    have k1:(i:Int)<(L.length:Int):=by omega
    have hg:=getD_map (f:=GOp.pv) hx
    have hll:=liveL_len S1
    obtain ⟨av2,q2,g2,hd,hD2,hfr⟩:=refDo_run h2 h3 (by omega) (by omega) x hxs (n:=F - 39) (by omega) (by omega) (by omega) (by omega)
    rw [show F - 39+39=F by omega] at hd
    obtain ⟨hok,hn1,hn2⟩:=doE_ok h2 x (by omega)
    have hr:=runM_drop hx S1
    by_cases e:(doE S1 x).1=0
    · left
      rw [if_pos e] at hr
      rw [hr] at h5
      refine ⟨(i+1,(doE S1 x).2,av2,q2,g2), ?_,⟨by simp only;omega,hok,hD2,by simp only;omega,h5,h6.trans hfr⟩,by simp only;omega⟩
      rw [e] at hd
      simp only [GOp.pv,attrsPV] at hd
      simp -implicitDefEqProofs (disch:=omega) only [Rx,simprocAttr,B20x0,k1,hg,GOp.pv,attrsPV,hd]
    · right
      rw [if_neg e] at hr
      rw [hr] at h5
      rw [h5]
      simp only
      refine ⟨_, ?_, ?_,av2,q2,g2,.inr rfl,hD2,h6.trans hfr⟩
      · have e1:((doE S1 x).1==0)=false:=by simpa using e
        generalize (doE S1 x).1=z at hd e1
        simp only [GOp.pv,attrsPV] at hd
        simp -implicitDefEqProofs (disch:=omega) only [Rx,simprocAttr,B20x0,k1,hg,GOp.pv,attrsPV,hd,e1]
      · simp
  · right
    obtain rfl:i=L.length:=by omega
    have k1:¬ (L.length:Int)<(L.length:Int):=by omega
    have hr:runM S1 (L.drop L.length) L.length=(L.length,0,S1):=by rw [List.drop_length];rfl
    rw [hr] at h5
    rw [h5]
    simp only
    refine ⟨_, ?_, ?_,av1,q1,g1,.inl ⟨trivial,trivial,rfl⟩,h3,h6⟩
    · simp -implicitDefEqProofs (disch:=omega) only [Rx,simprocAttr,B20x0,k1]
    · simp
end Go.TA.Tryz


end
