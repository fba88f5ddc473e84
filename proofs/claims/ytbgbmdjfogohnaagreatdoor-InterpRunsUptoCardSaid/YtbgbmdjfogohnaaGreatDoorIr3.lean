/- Part 3 of 15 of a proof; joined from LibC. More operations are sound. -/
import Derived.Test.YtbgbmdjfogohnaaGreatDoorIr2
import Derived.Laws.IdiomStrings
import Derived.Laws.MakeOwn
import Derived.Laws.Tables
import Derived.Carry
set_option linter.unusedSimpArgs false
set_option linter.unusedVariables false
set_option linter.defProp false
set_option maxRecDepth 100000
set_option maxHeartbeats 8000000
section
/- More operations are sound. -/
namespace Go.TA
section
variable {P:Program} {Γ : Ground} {c:Cx} {s:St} {ρ : Operand→Value} {o:Oper}
theorem bound_rel (hρ : RelA c s ρ) {x:Option LOpd} {y:Option Operand} {d:Int} {n:Int} (h:bound s x d=some n) (hok:optOk x y=true):(∃ k,y.map ρ = some (.int k n))∨(y=none∧n=d):=by
 cases x <;> cases y <;> simp [optOk] at hok
 ·simp [bound] at h
  exact .inr ⟨rfl,h.symm⟩
 ·simp only [bound] at h
  obtain ⟨⟨k,m⟩,hv,h⟩:=bk_eq h
  simp at h
  subst h
  have r:=hρ _ _ hok
  rw [asInt_some hv] at r
  exact .inl ⟨k,by simp [relV_int r]⟩
theorem bounds_run (hρ : RelA c s ρ) {lo hi:Option LOpd} {lo' hi':Option Operand} {l h:Int} {len cap:Nat} (h1:bound s lo 0=some l) (h2:bound s hi len=some h) (o1:optOk lo lo'=true) (o2:optOk hi hi'=true)
  (hl0:0≤l) (hlh:l≤h) (hle:h≤len) (hlc:len≤cap) (isS:Bool) (w:World):(Instr.sliceBounds isS len cap (lo'.map ρ) (hi'.map ρ) none).run P w = .ok (l.toNat,h.toNat,cap) w:=by
 have hb:∀ (k:IntKind) (n:Int) (y:Nat) (code:BoundsCode),0≤n→n≤y→(Instr.sliceBound (.int k n) y code).run P w = .ok n.toNat w:=fun k n y code a b=>by
  simp [Instr.sliceBound,asIntOf,a,b]
 unfold Instr.sliceBounds
 rcases bound_rel hρ h1 o1 with ⟨k1,e1⟩ | ⟨rfl,rfl⟩ <;> rcases bound_rel hρ h2 o2 with ⟨k2,e2⟩ | ⟨rfl,rfl⟩
 ·simp only [e1,e2,Sem.run_bind,Sem.run_pure,Result.andThen_ok,hb k2 h cap _ (by omega) (by omega),hb k1 l h.toNat _ hl0 (by omega)]
 ·simp only [e1,Option.map_none,Sem.run_bind,Sem.run_pure,Result.andThen_ok,hb k1 l len _ hl0 (by omega)]
  simp
 ·simp only [e2,Option.map_none,Sem.run_bind,Sem.run_pure,Result.andThen_ok,hb k2 h cap _ (by omega) (by omega)]
  simp
 ·simp only [Option.map_none,Sem.run_bind,Sem.run_pure,Result.andThen_ok]
  simp
theorem relP_sub {w:World} {N:Nat→Prop} {xs:List (List PV)} {b off cap sz l h:Nat} {f:Nat→Nat→Value} (hN:N b) (hb:b<w.heap.size) (hc:xs.length≤cap) (hm:cap≤maxLen) (hl:∀ i (h:i<xs.length),(xs[i]).length=sz)
  (hcell:∀ i j,i<xs.length→j<sz→w.cell? ⟨b,off+(i*sz+j),none⟩=some (f i j)) (h1:∀ i j,(f i j).oneCell'=true) (hr:∀ i j (hi:i<xs.length) (hj:j<(xs[i]).length),RelP w N (xs[i][j]) (f i j)) (hlh:l≤h) (hhx:h≤xs.length) :
  RelP w N (.list ((xs.take h).drop l)) (.slice (some ⟨b,off+l*sz,none⟩) (h - l) (cap - l)):=by
 have e:((xs.take h).drop l).length=h - l:=by simp;omega
 rw [← e]
 refine .list _ b _ _ sz (fun i j=>f (l+i) j) hN hb (by omega) (by omega) (fun i hi => ?_) (fun i j hi hj => ?_) (fun i j=>h1 _ _) (fun i j hi hj => ?_)
 ·simp only [List.getElem_drop,List.getElem_take]
  exact hl _ _
 ·rw [e] at hi
  have:=hcell (l+i) j (by omega) hj
  rw [← this]
  congr 2
  rw [Nat.add_mul]
  omega
 ·rw [e] at hi
  simp only [List.getElem_drop,List.getElem_take] at hj ⊢
  exact hr _ _ _ _
theorem put_l (hl:s.l=c.l) {z:Bool} {k:Nat} {ob:AObj} {m:Option Nat} {w:World}:(c.set z k ob m w).l=(s.putObj z k ob).l:=by
 unfold St.putObj Cx.set;cases z <;> simp [hl]
theorem put_g (hg:s.g=c.g) {z:Bool} {k:Nat} {ob:AObj} {m:Option Nat} {w:World}:(c.set z k ob m w).g=(s.putObj z k ob).g:=by
 unfold St.putObj Cx.set;cases z <;> simp [hg]
theorem kill_rel (hH:RelH Γ c) {z:Bool} {k:Nat} {ob:AObj} (hob:c.obj z k=some ob):Evolve c (c.set z k .dead none c.w)∧RelH Γ (c.set z k .dead none c.w) :=
 hH.set .dead none hob (Nat.le_refl _) rfl rfl rfl (fun _ _ _=>rfl) (fun b hb=>by cases hb) (fun m hm=>by simp [AObj.cnt] at hm) (fun _=>trivial)
theorem freeze_rel (hH : RelH Γ c) {z : Bool} {k sz : Nat} {xs : List (List PV)} {v : Value} (hob : c.obj z k = some (.pcells sz xs)) (hr : RelV c (.own z k xs.length) v) :
    Evolve c (c.set z k .dead none c.w)∧RelH Γ (c.set z k .dead none c.w)∧RelP (c.set z k .dead none c.w).w (c.set z k .dead none c.w).N (.list xs) v:=by
  obtain ⟨hE,hH'⟩:=kill_rel hH hob
  refine ⟨hE,hH', ?_⟩
  obtain ⟨A,cap,rfl,hrow⟩:=row_now hr hob rfl
  have hR:=hH.objs z k _ hob
  rcases hrow with ⟨_,h0,rfl,rfl⟩ | ⟨b,cs,e,q1,rfl,q3,q4,q5,q6⟩
  · have:xs=[]:=List.eq_nil_of_length_eq_zero h0
    subst this
    exact .none none 0 (by simp [maxLen])
  · simp only [RelObj,q1] at hR
    have hlive:=hH.live z k b q1
    have hN:(c.set z k .dead none c.w).N b:=⟨hlive.2.2.1,fun ⟨z',k',h'⟩=>by
      simp only [Cx.set] at h'
      split at h'
      · cases h'
      · rename_i hne
        exact hne (hH.inj _ _ _ _ _ h' q1)⟩
    obtain ⟨hl0,hR⟩:=hR
    have hl1:∀ i (h:i<xs.length),(xs[i]).length=sz:=fun i h=>by simpa [lift] using hl0 i (by simpa [lift] using h)
    rcases hR with ⟨hR,_⟩ | ⟨b',cs',e',hb',hh,hs,hv⟩
    · cases hR
    · cases hb'
      have hv':∀ i j (hi:i<xs.length) (hj:j<sz),∃ v,cs'[i*sz+j]? = some v∧v.oneCell'=true∧RelP c.w c.N (xs[i][j]'(by rw [hl1 i hi];exact hj)) v:=fun i j hi hj=>by
        obtain ⟨v,v1,v2,v3⟩:=hv i j (by simpa [lift] using hi) (by simpa [lift,hl1 i hi] using hj)
        refine ⟨v,v1,v2, ?_⟩
        simp only [lift,List.getElem_map] at v3
        exact relV_p v3
      refine .list xs b 0 cap sz (fun i j=>match cs'[i*sz+j]? with | some v=>if v.oneCell'=true then v else .bool true | none => .bool true) hN hlive.1 q3 q4 hl1 (fun i j hi hj => ?_) (fun i j => ?_) (fun i j hi hj => ?_)
      · obtain ⟨v,v1,v2,v3⟩:=hv' i j hi hj
        simp only [v1,v2,if_true,Nat.zero_add]
        exact (cell_of_row c.w b _ cs' e' (0,0) hh).trans v1
      · split
        · split
          · assumption
          · rfl
        · rfl
      · obtain ⟨v,v1,v2,v3⟩:=hv' i j hi (by rw [hl1 i hi] at hj;exact hj)
        simp only [v1,v2,if_true]
        exact hE.relP v3
theorem extract_data (b:List UInt8) (l h:Nat):(⟨b.toArray⟩:ByteArray).extract l h=⟨((b.take h).drop l).toArray⟩:=by
 apply ByteArray.ext
 simp [ByteArray.data_extract]
 rw [List.drop_take]
theorem does_slice (hl : s.l = c.l) (hg : s.g = c.g) (hH : RelH Γ c) (hρ : RelA c s ρ) {isStr : Bool} {sz : Nat} {x : LOpd} {lo hi : Option LOpd} (hok : ok_slice P isStr sz x lo hi o.op = true) {C : Calls'} {av : AV} {s' : St} (h : evalOp C s (.slice isStr sz x lo hi) = some (av, s')) :
    Does P ρ o c.w (Ans Γ c s'.l s'.g av):=by
  cases ho:o.op <;> rw [ho] at hok <;> try (simp [ok_slice] at hok;done)
  rename_i t x' lo' hi' mx
  cases mx
  rotate_left
  · simp [ok_slice] at hok
  simp only [ok_slice,Bool.and_eq_true] at hok
  obtain ⟨⟨⟨h1,h2⟩,h3⟩,h4⟩:=hok
  have r:=hρ _ _ h2
  split at h1
  · rename_i hu
    subst h1
    simp only [evalOp] at h
    split at h
    rotate_left
    · cases h
    rename_i b hb
    obtain ⟨l,hl',h⟩:=bk_eq h
    obtain ⟨hh,hh',h⟩:=bk_eq h
    split at h
    rotate_left
    · cases h
    rename_i hc
    obtain ⟨c1,c2,c3⟩:=hc
    simp only [Option.some.injEq,Prod.mk.injEq] at h
    obtain ⟨rfl,rfl⟩:=h
    rw [hb] at r
    have r:=relV_str r
    have hsz:(⟨b.toArray⟩:ByteArray).size=b.length:=rfl
    have hrun:=bounds_run (P:=P) hρ hl' hh' h3 h4 c1 c2 c3 (Nat.le_refl _) false c.w
    refine Does.value (v:=.string ⟨((b.take hh.toNat).drop l.toNat).toArray⟩) (w':=c.w) (by simp [execOp,ho,r,Instr.sliceAt,Instr.slice,run_underlying hu,hsz,hrun,extract_data]) ?_
    rw [hl,hg]
    exact ans_same hH (rStr _)
  · rename_i e hu
    simp only [Bool.and_eq_true,Bool.not_eq_true',beq_iff_eq,bne_iff_ne,ne_eq] at h1
    obtain ⟨rfl,hsz,hz⟩:=h1
    have key:∀ (A:Option Addr) (len cap:Nat) (l hh:Int), ρ x' = .slice A len cap→bound s lo 0=some l→bound s hi len=some hh→0≤l→l≤hh→hh≤len→len≤cap→(execOp ρ o).run P c.w = .ok (.value (.slice (if cap=l.toNat then A else A.map (·.add (l.toNat*sz))) (hh.toNat - l.toNat) (cap - l.toNat))) c.w:=fun A len cap l hh hv a1 a2 a3 a4 a5 a6=>by
      have hrun:=bounds_run (P:=P) hρ a1 a2 h3 h4 a3 a4 a5 a6 true c.w
      simp [execOp,ho,hv,Instr.sliceAt,Instr.slice,run_underlying hu,hrun,tsize_run hsz]
    have key2:∀ (c':Cx) (xs:List (List PV)) (l hh:Int),c'.l=s'.l→c'.g=s'.g→c'.w=c.w→Evolve c c'→RelH Γ c'→RelP c'.w c'.N (.list xs) (ρ x')→bound s lo 0=some l→bound s hi xs.length=some hh→0≤l→l≤hh→hh≤xs.length→(l=0∨hh≤l∨(xs.getD 0 []).length=sz) →
        av = .p (.list ((xs.take hh.toNat).drop l.toNat))→Does P ρ o c.w (Ans Γ c s'.l s'.g av):=fun c' xs l hh e1 e2 e3 hE hH' r hl' hh' c1 c2 c3 c4 ea=>by
      subst ea
      obtain ⟨A,cap,hv,q1,q2,q3⟩:=relP_list r
      refine Does.value (key A _ cap l hh hv hl' hh' c1 c2 c3 q1) ⟨c',e1,e2,e3,hE,hH',.p _ _ ?_⟩
      by_cases hlt:l<hh
      · obtain ⟨b,off,sz',f,rfl,g1,g2,g3,g4,g5,g6⟩:=q3 (by omega)
        have:=relP_sub (l:=l.toNat) (h:=hh.toNat) g1 g2 q1 q2 g3 g4 g5 g6 (by omega) (by omega)
        rw [if_neg (by omega),Option.map_some,add_at]
        have e:l.toNat*sz=l.toNat*sz':=by
          rcases c4 with c4 | c4 | c4
          · simp [c4]
          · omega
          · have h0:0<xs.length:=by omega
            rw [getD_lt _ h0,g3 0 h0] at c4
            rw [c4]
        rw [e]
        exact this
      · have e:((xs.take hh.toNat).drop l.toNat)=[]:=by apply List.drop_eq_nil_of_le;simp;omega
        rw [e,show hh.toNat - l.toNat=0 by omega]
        exact .none _ _ (by omega)
    simp only [evalOp] at h
    split at h
    · rename_i xs hx
      obtain ⟨l,hl',h⟩:=bk_eq h
      obtain ⟨hh,hh',h⟩:=bk_eq h
      split at h
      rotate_left
      · cases h
      rename_i hc
      obtain ⟨c1,c2,c3,c4⟩:=hc
      simp only [Option.some.injEq,Prod.mk.injEq] at h
      obtain ⟨rfl,rfl⟩:=h
      rw [hx] at r
      exact key2 c xs l hh hl.symm hg.symm rfl (Evolve.refl c) hH (relV_p r) hl' hh' c1 c2 c3 c4 rfl
    · rename_i z k n hx
      split at h
      rotate_left
      · cases h
      rename_i b xs hob
      obtain ⟨l,hl',h⟩:=bk_eq h
      obtain ⟨hh,hh',h⟩:=bk_eq h
      split at h
      rotate_left
      · cases h
      rename_i hc
      obtain ⟨e1,e2,c1,c2,c3⟩:=hc
      simp only [Option.some.injEq,Prod.mk.injEq] at h
      obtain ⟨rfl,rfl⟩:=h
      subst e1
      subst e2
      rw [hx] at r
      rw [obj_eq hl hg] at hob
      obtain ⟨hE,hH',hr⟩:=freeze_rel hH hob r
      refine key2 (c.set z k .dead none c.w) xs l hh (put_l hl) (put_g hg) rfl hE hH' hr hl' hh' c1 c2 c3 ?_ rfl
      · by_cases h0:0<xs.length
        · refine .inr (.inr ?_)
          rw [getD_lt _ h0]
          have:=(hH.objs z k _ hob).1 0 (by simpa [lift] using h0)
          simpa [lift] using this
        · omega
    · rename_i ys hx
      obtain ⟨xs,hp,h⟩:=bk_eq h
      obtain ⟨l,hl',h⟩:=bk_eq h
      obtain ⟨hh,hh',h⟩:=bk_eq h
      split at h
      rotate_left
      · cases h
      rename_i hc
      obtain ⟨c1,c2,c3,c4⟩:=hc
      simp only [Option.some.injEq,Prod.mk.injEq] at h
      obtain ⟨rfl,rfl⟩:=h
      rw [hx,puress_lift0 hp] at r
      exact key2 c xs l hh hl.symm hg.symm rfl (Evolve.refl c) hH (lit_list r) hl' hh' c1 c2 c3 c4 rfl
    · cases h
  · cases h1
end
end Go.TA
namespace Go.TA
section
variable {P:Program} {Γ : Ground} {c:Cx} {s:St} {ρ : Operand→Value} {o:Oper}
theorem bytes_of:∀ {xs:List (List PV)} {b:List UInt8},allM byteOf xs=some b→∃ ns:List Int,xs=ns.map (fun n=>[PV.int .u8 n])∧b=ns.map fun n=>UInt8.ofNat n.toNat
  | [],b,h=>by simp [allM] at h;subst h;exact ⟨[],rfl,rfl⟩
  | x :: l, b, h => by
    simp only [allM] at h
    obtain ⟨u,hu,h⟩:=bk_eq h
    obtain ⟨r,hr,h⟩:=bk_eq h
    simp only [Option.some.injEq] at h
    subst h
    obtain ⟨ns,rfl,rfl⟩:=bytes_of hr
    unfold byteOf at hu
    split at hu
    · rename_i n
      simp only [Option.some.injEq] at hu
      subst hu
      exact ⟨n::ns,rfl,rfl⟩
    · cases hu
theorem bytes_run {w : World} {N : Nat → Prop} {ns : List Int} {v : Value} (r : RelP w N (.list (ns.map fun n => [PV.int .u8 n])) v) : (Conv.bytesToString v).run P w = .ok (.string ⟨(ns.map fun n => UInt8.ofNat n.toNat).toArray⟩) w := by
  obtain ⟨A,cap,rfl,q1,q2,q3⟩:=relP_list r
  rw [List.length_map]
  cases A with
  | none =>
    have:ns=[]:=by
      cases ns with
      | nil=>rfl
      | cons a l=>obtain ⟨b,off,sz,f,h,_⟩:=q3 (by simp);cases h
    subst this
    simp [Conv.bytesToString]
    rfl
  | some a =>
    have hl:(loadCells a ns.length).run P w = .ok (ns.map (Value.int .u8)).toArray w:=by
      have:=run_loadCells_list (P:=P) w a (ns.map (Value.int .u8)) (fun j v hj=>by
        have hj':j<ns.length:=by
          have:=(List.getElem?_eq_some_iff.1 hj).1
          simpa using this
        obtain ⟨b,off,sz,f,h,g1,g2,g3,g4,g5,g6⟩:=q3 (by simp;omega)
        cases h
        have e1:sz=1:=by
          have:=g3 j (by simpa using hj')
          simpa using this.symm
        subst e1
        have h1:=g6 j 0 (by simpa using hj') (by simp)
        simp only [List.getElem_map,List.getElem_cons_zero] at h1
        have h1:=relP_int h1
        have h2:=g4 j 0 (by simpa using hj') (by omega)
        rw [h1] at h2
        rw [add_at]
        simp only [Nat.mul_one,Nat.add_zero] at h2
        rw [h2, ← hj]
        simp [List.getElem?_eq_getElem hj'])
      simpa using this
    rw [run_bytesToString w a ns.length cap ns hl,foldl_push_bytes]
    simp
theorem does_toStr (hl:s.l=c.l) (hg:s.g=c.g) (hH:RelH Γ c) (hρ : RelA c s ρ) {isStr:Bool} {x:LOpd} (hok:ok_toStr P isStr x o.op=true) {C:Calls'} {av:AV} {s':St} (h:evalOp C s (.toStr isStr x)=some (av,s')) :
  Does P ρ o c.w (Ans Γ c s'.l s'.g av):=by
 cases ho:o.op <;> rw [ho] at hok <;> simp [ok_toStr] at hok
 rename_i src dst y
 obtain ⟨h1,h2⟩:=hok
 have r:=hρ _ _ h1
 split at h2
 ·rename_i hs hd
  subst h2
  simp only [evalOp] at h
  split at h
  rotate_left
  ·cases h
  rename_i b hb
  simp only [Option.some.injEq,Prod.mk.injEq] at h
  obtain ⟨rfl,rfl⟩:=h
  rw [hb] at r
  have r:=relV_str r
  refine Does.value (v:=.string ⟨b.toArray⟩) (w':=c.w) (by simp [execOp,ho,r,convert,run_underlying hs,run_underlying hd]) ?_
  rw [hl,hg]
  exact ans_same hH (rStr _)
 ·rename_i e hs hd
  simp only [Bool.and_eq_true,Bool.not_eq_true'] at h2
  obtain ⟨rfl,h2⟩:=h2
  split at h2
  rotate_left
  ·cases h2
  rename_i he
  simp only [evalOp] at h
  split at h
  rotate_left
  ·cases h
  rename_i xs hx
  obtain ⟨b,hb,h⟩:=bk_eq h
  simp only [Option.some.injEq,Prod.mk.injEq] at h
  obtain ⟨rfl,rfl⟩:=h
  obtain ⟨ns,rfl,rfl⟩:=bytes_of hb
  rw [hx] at r
  have hrun:=bytes_run (P:=P) (relV_p r)
  obtain ⟨A,cap,hv,_⟩:=relP_list (relV_p r)
  rw [hv] at hrun
  refine Does.value (v:=.string ⟨(ns.map fun n=>UInt8.ofNat n.toNat).toArray⟩) (w':=c.w) (by simp only [execOp,ho,hv];simp [convert,run_underlying hs,run_underlying hd,run_underlying he];rw [List.length_map] at hrun;rw [hrun];rfl) ?_
  rw [hl,hg]
  exact ans_same hH (rStr _)
 ·cases h2
theorem below_drew_alloc (w:World) (ob:Obj):Go.RowKit.Below w.heap.size w (w.drew.alloc ob):=by
 have h:=World.grownBy_alloc w.drew ob none
 exact ⟨h.os,h.tape,h.output,h.size,fun k hk=>h.block k hk (by simp)⟩
theorem below_alloc (w:World) (ob:Obj):Go.RowKit.Below w.heap.size w (w.alloc ob):=by
 have h:=World.grownBy_alloc w ob none
 exact ⟨h.os,h.tape,h.output,h.size,fun k hk=>h.block k hk (by simp)⟩
theorem size_alloc (w:World) (ob:Obj):w.heap.size<(w.alloc ob).heap.size:=(Array.getElem?_eq_some_iff.1 (heap_alloc_new w ob)).1
theorem RelH.new (h:RelH Γ c):c.N c.w.heap.size:=⟨fun hx=>Nat.lt_irrefl _ (h.xlt _ hx),fun ho=>Nat.lt_irrefl _ (h.lt _ ho)⟩
theorem does_toBytes (hl:s.l=c.l) (hg:s.g=c.g) (hH:RelH Γ c) (hρ : RelA c s ρ) {x:LOpd} (hok:ok_toBytes P x o.op=true) {C:Calls'} {av:AV} {s':St} (h:evalOp C s (.toBytes x)=some (av,s')) :
  Does P ρ o c.w (Ans Γ c s'.l s'.g av):=by
 cases ho:o.op <;> rw [ho] at hok <;> simp [ok_toBytes] at hok
 rename_i src dst y
 obtain ⟨h1,h2⟩:=hok
 have r:=hρ _ _ h1
 split at h2
 rotate_left
 ·cases h2
 rename_i e hs hd
 split at h2
 rotate_left
 ·cases h2
 rename_i he
 simp only [evalOp] at h
 split at h
 rotate_left
 ·cases h
 rename_i b hb
 split at h
 rotate_left
 ·cases h
 rename_i hle
 simp only [Option.some.injEq,Prod.mk.injEq] at h
 obtain ⟨rfl,rfl⟩:=h
 rw [hb] at r
 have r:=relV_str r
 have hrun:=run_bytes_of_string (P:=P) c.w src dst e ⟨b.toArray⟩ hs hd he
 have hsz:(⟨b.toArray⟩:ByteArray).size=b.length:=rfl
 rw [hsz] at hrun
 refine Does.value (by simp only [execOp,ho,r,Sem.run_bind,hrun,Result.andThen_ok];rfl) ?_
 rw [hl,hg]
 refine ans_below hH (below_drew_alloc c.w _) (.p _ _ ?_)
 have hlen:(b.map fun c=>[PV.int .u8 c.toNat]).length=b.length:=by simp
 have hcap:=grownCap_ge c.w b.length 0 e
 have hcap2:=grownCap_le_maxLen c.w b.length 0 e (by simp [maxLen];omega)
 generalize hcp:grownCap c.w b.length 0 e=cap at *
 rw [← hlen]
 refine .list _ _ _ _ 1 (fun i j => .int .u8 (b.getD i 0).toNat) hH.new (size_alloc c.w.drew _) (by simpa using hcap) hcap2 (fun i hi=>by simp) (fun i j hi hj => ?_) (fun i j=>rfl) (fun i j hi hj => ?_)
 ·have hj:j=0:=by omega
  subst hj
  have hi:i<b.length:=by simpa using hi
  refine (cell_of_row _ c.w.heap.size _ _ e _ (heap_alloc_new c.w.drew _)).trans ?_
  rw [bytesRow,Array.getElem?_append_left (by simp;omega)]
  simp [hi]
 ·have hi:i<b.length:=by simpa using hi
  have hj:j=0:=by simpa using hj
  subst hj
  simp only [List.getElem_map,List.getElem_cons_zero,getD_lt _ hi]
  exact .int _ _
end
end Go.TA
namespace Go.TA
section
variable {P:Program} {Γ : Ground} {c:Cx} {s:St} {ρ : Operand→Value} {o:Oper}
def CellsRel (c:Cx) (cs:List AV) (vs:List Value):Prop:=cs.length=vs.length∧(∀ v ∈ vs,v.oneCell'=true)∧∀ j (h:j<cs.length) (h':j<vs.length),RelV c (cs[j]) (vs[j])
theorem CellsRel.mono {c':Cx} (hE:Evolve c c') {cs:List AV} {vs:List Value} (h:CellsRel c cs vs):CellsRel c' cs vs:=⟨h.1,h.2.1,fun j a b=>hE.relV (h.2.2 j a b)⟩
theorem cells1 {v:Value} (h:v.oneCell'=true):v.cells = #[v]:=by cases v <;> first | rfl | (simp [Value.oneCell'] at h)
theorem relP_cells1 {w:World} {N:Nat→Prop} {p:PV} {v:Value} (hp:∀ cs,p ≠ .agg cs) (h:RelP w N p v):v.oneCell'=true:=by
 cases h <;> first | rfl | exact absurd rfl (hp _)
theorem cells_rel {av : AV} {v : Value} {cs : List AV} (h : RelV c av v) (hc : av.cells = some cs) : CellsRel c cs v.cells.toList := by
  have one:v.oneCell'=true→cs=[av]→CellsRel c cs v.cells.toList:=fun h1 e=>by
    subst e
    rw [cells1 h1]
    refine ⟨rfl,by simp [h1],fun j h2 h3 => ?_⟩
    have:j=0:=by simpa using h2
    subst this
    exact h
  cases h with
  | bot=>simp [AV.cells] at hc
  | tuple=>simp [AV.cells] at hc
  | agg cs' vs h1 h2 h3 =>
    simp [AV.cells] at hc
    subst hc
    exact ⟨by simpa [Value.cells] using h1,by simpa [Value.cells] using h2,fun j a b=>h3 j a b⟩
  | p pv _ hp =>
    by_cases he:∃ l,pv = .agg l
    · obtain ⟨l,rfl⟩:=he
      simp only [AV.cells,Option.some.injEq] at hc
      subst hc
      obtain ⟨vs,rfl,g1,g2,g3⟩:=relP_agg hp
      exact ⟨by simpa [Value.cells] using g1,by simpa [Value.cells] using g2,fun j a b=>by
        simp only [List.getElem_map,Value.cells]
        exact .p _ _ (g3 j (by simpa using a) (by simpa [Value.cells] using b))⟩
    · refine one (relP_cells1 (fun l e=>he ⟨l,e⟩) hp) ?_
      cases pv <;> simp [AV.cells] at hc <;> first | exact hc.symm | exact absurd ⟨_,rfl⟩ he
  | _=>exact one rfl (by simpa [AV.cells] using hc.symm)
theorem newObj_cx (hl:s.l=c.l) (hg:s.g=c.g) {z:Bool} {k k':Nat} {ob:AObj} {s':St} (h:s.newObj z k ob=some (k',s')) (m:Option Nat) (w':World) :
  c.Free z k'∧(c.add z k' ob m w').l=s'.l∧(c.add z k' ob m w').g=s'.g∧s'.fr=s.fr:=by
 unfold St.newObj at h
 cases z
 ·simp only [Bool.false_eq_true,if_false] at h
  split at h
  ·rename_i hn
   simp only [Option.some.injEq,Prod.mk.injEq] at h
   obtain ⟨rfl,rfl⟩:=h
   exact ⟨by simpa [Cx.Free, ← hl] using hn,by simp [Cx.add,hl],by simp [Cx.add,hg],rfl⟩
  ·cases h
 ·simp only [if_true,Option.some.injEq,Prod.mk.injEq] at h
  obtain ⟨rfl,rfl⟩:=h
  exact ⟨by simp [Cx.Free,hg],by simp [Cx.add,hl],by simp [Cx.add,hg],rfl⟩
theorem new_nil (hl:s.l=c.l) (hg:s.g=c.g) (hH:RelH Γ c) {z:Bool} {k k' sz:Nat} {s':St} (h:s.newObj z k (.pcells sz [])=some (k',s')) :
  let c':=c.add z k' (.pcells sz []) none c.w
  c'.l=s'.l∧c'.g=s'.g∧s'.fr=s.fr∧Evolve c c'∧RelH Γ c'∧RelV c' (.own z k' 0) (.slice none 0 0):=by
 obtain ⟨hf,h1,h2,h3⟩:=newObj_cx hl hg h none c.w
 have hμ : (c.add z k' (.pcells sz []) none c.w).μ z k'=none:=by simp [Cx.add]
 obtain ⟨hE,hH'⟩:=hH.add (.pcells sz []) none (w':=c.w) hf ⟨rfl,rfl,rfl,Nat.le_refl _,fun _ _=>rfl⟩ (fun b hb=>by cases hb) (fun hb=>absurd rfl hb) (by
  simp only [RelObj,hμ,lift]
  exact ⟨by simp,.inl ⟨rfl,rfl⟩⟩)
 refine ⟨h1,h2,h3,hE,hH',.own _ _ _ _ _ ⟨.pcells sz [],by rw [Cx.obj_add hf,if_pos ⟨rfl,rfl⟩],fun m hm => ?_⟩⟩
 simp [AObj.cnt] at hm
 subst hm
 exact ⟨Nat.le_refl _,fun _ => .inl ⟨hμ,rfl,rfl,rfl⟩⟩
theorem puress_lift:∀ {xs:List (List AV)} {ps:List (List PV)},puress xs=some ps→xs=lift ps
  | [],ps,h=>by simp [puress] at h;subst h;rfl
  | c :: l, ps, h => by
    simp only [puress] at h
    split at h
    · rename_i c' l' h1 h2
      simp only [Option.some.injEq] at h
      subst h
      rw [pures_map h1,puress_lift h2]
      rfl
    · cases h
theorem objOf_rel {z:Bool} {k sz:Nat} {xs:List (List AV)} (h:RelRow c (c.μ z k) sz xs):RelObj c z k (objOf sz xs):=by
 unfold objOf
 split
 ·rename_i ps hp
  rw [puress_lift hp] at h
  exact h
 ·exact h
theorem objOf_cnt (sz:Nat) (xs:List (List AV)):(objOf sz xs).cnt=some xs.length∧(objOf sz xs).sz=sz:=by
 unfold objOf
 split
 ·rename_i ps hp
  rw [puress_lift hp]
  simp [AObj.cnt,AObj.sz,lift]
 ·exact ⟨rfl,rfl⟩
def RowsRel (c:Cx) (sz:Nat) (xs:List (List AV)) (vs:List Value):Prop:=(∀ i (h:i<xs.length),(xs[i]).length=sz)∧xs.length*sz≤vs.length∧∀ i j (hi:i<xs.length) (hj:j<(xs[i]).length),∃ v,vs[i*sz+j]? = some v∧v.oneCell'=true∧RelV c (xs[i][j]) v
theorem CellsRel.rows {cs:List AV} {vs:List Value} (h:CellsRel c cs vs):RowsRel c cs.length [cs] vs:=by
 refine ⟨fun i hi => ?_,by simp [h.1],fun i j hi hj => ?_⟩
 ·have:i=0:=by simpa using hi
  subst this;rfl
 ·have:i=0:=by simpa using hi
  subst this
  simp only [List.getElem_cons_zero] at hj ⊢
  have hj':j<vs.length:=by rw [← h.1];exact hj
  refine ⟨vs[j],by simp [hj'],h.2.1 _ (List.getElem_mem _),h.2.2 j hj hj'⟩
theorem new_row (hl:s.l=c.l) (hg:s.g=c.g) (hH:RelH Γ c) {z:Bool} {k k' sz:Nat} {xs:List (List AV)} {vs:List Value} {e:TypeId} {s':St} {ob:AObj} (hob:∀ c':Cx,RelRow c' (c'.μ z k') sz xs→RelObj c' z k' ob) (hcn:ob.cnt≠none) (hr:RowsRel c sz xs vs) (h:s.newObj z k ob=some (k',s')) :
  let c':=c.add z k' ob (some c.w.heap.size) (c.w.alloc (.cells vs.toArray e (0,0)))
  c'.l=s'.l∧c'.g=s'.g∧s'.fr=s.fr∧Evolve c c'∧RelH Γ c'∧c'.obj z k'=some ob∧c'.μ z k'=some c.w.heap.size:=by
 intro c'
 obtain ⟨hf,h1,h2,h3⟩:=newObj_cx hl hg h (some c.w.heap.size) (c.w.alloc (.cells vs.toArray e (0,0)))
 have hμ : c'.μ z k'=some c.w.heap.size:=by simp [c',Cx.add]
 have hE0:Evolve c c':=evolve_add _ _ hf (hH.noμ hf) (below_alloc _ _) hH.lt (fun b e=>by cases e;exact Nat.le_refl _)
 obtain ⟨hE,hH'⟩:=hH.add ob (some c.w.heap.size) (w':=c.w.alloc (.cells vs.toArray e (0,0))) hf (below_alloc _ _) (fun b hb=>by
  cases hb
  exact ⟨Nat.le_refl _,size_alloc _ _,hH.new.1⟩) (fun _=>hcn) (by
  refine hob _ ?_
  rw [hμ]
  refine ⟨hr.1,.inr ⟨_,vs.toArray,e,rfl,heap_alloc_new _ _,by simpa using hr.2.1,fun i j hi hj => ?_⟩⟩
  obtain ⟨v,v1,v2,v3⟩:=hr.2.2 i j hi hj
  exact ⟨v,by simpa using v1,v2,hE0.relV v3⟩)
 exact ⟨h1,h2,h3,hE,hH',by rw [Cx.obj_add hf,if_pos ⟨rfl,rfl⟩],hμ⟩
theorem new_cells (hl:s.l=c.l) (hg:s.g=c.g) (hH:RelH Γ c) {z:Bool} {k k' sz:Nat} {xs:List (List AV)} {vs:List Value} {e:TypeId} {s':St} (hr:RowsRel c sz xs vs) (h:s.newObj z k (objOf sz xs)=some (k',s')) :
  let c':=c.add z k' (objOf sz xs) (some c.w.heap.size) (c.w.alloc (.cells vs.toArray e (0,0)))
  c'.l=s'.l∧c'.g=s'.g∧s'.fr=s.fr∧Evolve c c'∧RelH Γ c'∧c'.obj z k'=some (objOf sz xs)∧c'.μ z k'=some c.w.heap.size :=
 new_row hl hg hH (fun c' h=>objOf_rel h) (by rw [(objOf_cnt _ _).1];simp) hr h
theorem place_new {z:Bool} {k sz n i j b:Nat} {ob:AObj} (ho:c.obj z k=some ob) (hn:ob.cnt=some n) (hb:c.μ z k=some b) (he:i*sz+j=0):RelV c (.ptr z k sz n i j) (.pointer (some ⟨b,0,none⟩)) :=
 .ptr _ _ _ _ _ _ _ ⟨ob,ho,fun m hm=>by rw [hn] at hm;cases hm;exact ⟨Nat.le_refl _,fun _=>⟨b,hb,by rw [he]⟩⟩⟩
theorem does_nilown (hl:s.l=c.l) (hg:s.g=c.g) (hH:RelH Γ c) (hk:∀ v, ρ (.const v)=v) {z:Bool} {k sz:Nat} (hok:ok_nilown z k sz o.op=true) {C:Calls'} {av:AV} {s':St} (h:evalOp C s (.nilown z k sz)=some (av,s')) :
  Does P ρ o c.w (Ans Γ c s'.l s'.g av):=by
 simp only [evalOp] at h
 obtain ⟨⟨k',s1⟩,hn,h⟩:=bk_eq h
 simp only [Option.some.injEq,Prod.mk.injEq] at h
 obtain ⟨rfl,rfl⟩:=h
 obtain ⟨h1,h2,h3,hE,hH',hr⟩:=new_nil hl hg hH hn
 have key:∀ y,isNilSlice y=true → ρ y = .slice none 0 0:=fun y hy=>by
  unfold isNilSlice at hy
  split at hy
  ·exact hk _
  ·cases hy
 cases ho:o.op <;> rw [ho] at hok <;> simp [ok_nilown] at hok
 all_goals
  refine Does.value (v:=.slice none 0 0) (w':=c.w) (by simp only [execOp,ho];rw [key _ hok];rfl) ⟨_,h1,h2,rfl,hE,hH',hr⟩
theorem box_run {w:World} (t:TypeId) (v:Value):(Instr.box t v).run P w = .ok (.pointer (some ⟨w.heap.size,0,none⟩)) (w.alloc (.cells v.cells t)):=by
 simp [Instr.box,newVar,newRow]
theorem does_box (hl:s.l=c.l) (hg:s.g=c.g) (hH:RelH Γ c) (hρ : RelA c s ρ) {z:Bool} {k:Nat} {x:LOpd} (hok:ok_box z k x o.op=true) {C:Calls'} {av:AV} {s':St} (h:evalOp C s (.box z k x)=some (av,s')) :
  Does P ρ o c.w (Ans Γ c s'.l s'.g av):=by
 simp only [evalOp] at h
 obtain ⟨cs,hcs,h⟩:=bk_eq h
 split at h
 rotate_left
 ·cases h
 obtain ⟨⟨k',s1⟩,hn,h⟩:=bk_eq h
 simp only [Option.some.injEq,Prod.mk.injEq] at h
 obtain ⟨rfl,rfl⟩:=h
 cases ho:o.op <;> rw [ho] at hok <;> simp [ok_box] at hok
 rename_i t y
 have hr:=cells_rel (hρ _ _ hok) hcs
 obtain ⟨h1,h2,h3,hE,hH',hob,hμ⟩:=new_cells (e:=t) hl hg hH hr.rows hn
 simp only [Array.toArray_toList] at h1 h2 hE hH' hob hμ
 refine Does.value (by simp only [execOp,ho,Sem.run_bind,box_run,Result.andThen_ok];rfl) ⟨_,h1,h2,rfl,hE,hH', ?_⟩
 exact place_new hob (by rw [(objOf_cnt _ _).1];rfl) hμ (by simp)
end
end Go.TA
namespace Go.TA
section
variable {P:Program} {Γ : Ground} {c:Cx} {s:St} {ρ : Operand→Value} {o:Oper}
theorem zeroAV_rel : ∀ {zs : List AV} {vs : List Value}, zeroAV zs vs = true → CellsRel c zs vs
  | [],[],_=>⟨rfl,by simp,by simp⟩
  | [],_::_,h=>by simp [zeroAV] at h
  | _::_,[],h=>by simp [zeroAV] at h
  | a :: l, b :: r, h => by
    have key:(RelV c a b∧b.oneCell'=true)∧zeroAV l r=true:=by
      unfold zeroAV at h
      split at h
      · rename_i heq;cases heq
      · rename_i v l' b' r' heq1 heq2
        cases heq1;cases heq2
        simp only [Bool.and_eq_true] at h
        obtain ⟨x1,x2⟩:=constOk_rel (w:=c.w) (N:=c.N) h.1
        exact ⟨⟨.p _ _ x1,x2⟩,h.2⟩
      · rename_i heq1 heq2
        cases heq1;cases heq2
        exact ⟨⟨.nils,rfl⟩,h⟩
      · cases h
    obtain ⟨⟨k1,k2⟩,k3⟩:=key
    obtain ⟨y1,y2,y3⟩:=zeroAV_rel k3
    refine ⟨by simp [y1],by simpa [k2] using y2,fun j h h' => ?_⟩
    cases j with
    | zero=>exact k1
    | succ j=>exact y3 j (by simpa using h) (by simpa using h')
theorem zeroAV_nil : ∀ {zs : List AV} {vs : List Value} {i : Nat}, zeroAV zs vs = true → zs[i]? = some (.p (.list [])) → vs[i]? = some (.slice none 0 0)
  | [],_,i,_,h=>by simp at h
  | a::l,[],i,h,_=>by simp [zeroAV] at h
  | a :: l, b :: r, i, h, hi => by
    cases i with
    | zero =>
      simp at hi
      subst hi
      simp only [zeroAV,Bool.and_eq_true] at h
      cases b <;> simp [constOk] at h
      rename_i A n m
      cases A <;> cases n <;> cases m <;> simp [constOk] at h
      rfl
    | succ i =>
      have h':zeroAV l r=true:=by
        unfold zeroAV at h
        split at h
        · rename_i heq;cases heq
        · rename_i heq1 heq2;cases heq1;cases heq2
          simp only [Bool.and_eq_true] at h
          exact h.2
        · rename_i heq1 heq2;cases heq1;cases heq2;exact h
        · cases h
      simpa using zeroAV_nil h' (by simpa using hi)
theorem newOwns_rel {z : Bool} {vs : List Value} : ∀ {owns : List (Nat × Nat × Nat)} {s : St} {c : Cx} {cs cs' : List AV} {s' : St}, newOwns z s cs owns = some (s', cs') → s.l = c.l → s.g = c.g → RelH Γ c → CellsRel c cs vs → (∀ o ∈ owns, vs[o.1]? = some (.slice none 0 0)) →
    ∃ c':Cx,c'.l=s'.l∧c'.g=s'.g∧c'.w=c.w∧s'.fr=s.fr∧Evolve c c'∧RelH Γ c'∧CellsRel c' cs' vs∧cs'.length=cs.length
  | [], s, c, cs, cs', s', h, hl, hg, hH, hcs, _ => by
    simp only [newOwns,Option.some.injEq,Prod.mk.injEq] at h
    obtain ⟨rfl,rfl⟩:=h
    exact ⟨c,hl.symm,hg.symm,rfl,rfl,Evolve.refl c,hH,hcs,rfl⟩
  | (i, k, sz) :: r, s, c, cs, cs', s', h, hl, hg, hH, hcs, hz => by
    simp only [newOwns] at h
    obtain ⟨⟨k',s1⟩,hn,h⟩:=bk_eq h
    obtain ⟨h1,h2,h3,hE,hH',hr⟩:=new_nil hl hg hH hn
    have hcs1:=hcs.mono hE
    have hi:=hz (i,k,sz) (by simp)
    simp only at hi
    obtain ⟨c',a1,a2,a3,a4,a5,a6,a7,a8⟩:=newOwns_rel (cs:=cs.set i (.own z k' 0)) h h1.symm h2.symm hH' (by
      refine ⟨by simpa using hcs1.1,hcs1.2.1,fun j x y => ?_⟩
      rw [List.getElem_set]
      split
      · rename_i e
        subst e
        have:vs[i] = .slice none 0 0:=by
          rw [List.getElem?_eq_getElem y] at hi
          exact Option.some.inj hi
        rw [this]
        exact hr
      · exact hcs1.2.2 j (by simpa using x) y) (fun o ho=>hz o (by simp [ho]))
    exact ⟨c',a1,a2,a3.trans rfl,a4.trans h3,hE.trans a5,a6,a7,by simpa using a8⟩
theorem tzero_run {t:TypeId} {vs:List Value} (h:tzero P t=some vs) (w:World):∃ v,(zeroValue t).run P w = .ok v w∧v.cells.toList=vs:=by
 unfold tzero at h
 obtain ⟨v,hv,rfl⟩:=Option.map_eq_some_iff.1 h
 obtain ⟨i,hi,hz⟩:=Option.bind_eq_some_iff.1 hv
 exact ⟨v,by simp [zeroValue,typeInfo,hi,hz],rfl⟩
theorem does_alloc (hl:s.l=c.l) (hg:s.g=c.g) (hH:RelH Γ c) {z:Bool} {k:Nat} {zero:List AV} {owns:List (Nat × Nat × Nat)} (hok:ok_alloc P z k zero owns o.op=true) {C:Calls'} {av:AV} {s':St} (h:evalOp C s (.alloc z k zero owns)=some (av,s')) :
  Does P ρ o c.w (Ans Γ c s'.l s'.g av):=by
 simp only [evalOp] at h
 obtain ⟨⟨s1,cs⟩,hn,h⟩:=bk_eq h
 obtain ⟨⟨k',s2⟩,hn2,h⟩:=bk_eq h
 simp only [Option.some.injEq,Prod.mk.injEq] at h
 obtain ⟨rfl,rfl⟩:=h
 cases ho:o.op <;> rw [ho] at hok <;> simp only [ok_alloc,Bool.and_eq_true,reduceCtorEq] at hok <;> try (cases hok;done)
 rename_i t
 obtain ⟨g1,g2⟩:=hok
 split at g1
 rotate_left
 ·cases g1
 rename_i vs hz
 obtain ⟨v,hv,hvs⟩:=tzero_run hz c.w
 obtain ⟨c1,a1,a2,a3,a4,a5,a6,a7,a8⟩:=newOwns_rel (c:=c) hn hl hg hH (zeroAV_rel g1) (fun o' ho'=>by
  have:=List.all_eq_true.1 g2 o' ho'
  split at this
  ·rename_i he
   exact zeroAV_nil g1 he
  ·cases this)
 obtain ⟨h1,h2,h3,hE,hH',hob,hμ⟩:=new_cells (e:=t) (k:=k) a1.symm a2.symm a6 a7.rows hn2
 have hw:vs.toArray=v.cells:=by rw [← hvs]
 refine Does.value (v:=.pointer (some ⟨c.w.heap.size,0,none⟩)) (w':=c.w.alloc (.cells v.cells t)) (by simp [execOp,ho,Instr.alloc,hv,newVar,newRow]) ⟨_,h1,h2, ?_,a5.trans hE,hH', ?_⟩
 ·simp only [Cx.add,a3,hw]
 ·rw [← a3]
  exact place_new hob (by rw [(objOf_cnt _ _).1];rfl) hμ (by simp)
theorem over_get {α : Type} {j : Nat} {new old : List α} (h : j + new.length ≤ old.length) (q : Nat) : (over j new old)[q]? = if j ≤ q ∧ q < j + new.length then new[q - j]? else old[q]? := by
  unfold over
  split
  · rename_i e
    obtain ⟨rfl,e⟩:=e
    split
    · simp
    · rename_i hq
      rw [List.getElem?_eq_none (by omega),List.getElem?_eq_none (by omega)]
  · rw [List.append_assoc,List.getElem?_append]
    split
    · rename_i hq
      rw [List.length_take] at hq
      rw [if_neg (by omega),List.getElem?_take,if_pos (by omega)]
    · rename_i hq
      rw [List.length_take] at hq
      have e:min j old.length=j:=by omega
      rw [List.length_take,e,List.getElem?_append]
      split
      · rename_i hq2
        rw [if_pos (by omega)]
      · rename_i hq2
        rw [if_neg (by omega),List.getElem?_drop]
        congr 1
        omega
theorem over_length {α : Type} {j:Nat} {new old:List α} (h:j+new.length≤old.length):(over j new old).length=old.length:=by
 unfold over
 split
 ·rename_i e;exact e.2
 ·simp;omega
theorem cellsRel_get {cs:List AV} {vs:List Value} (hl:cs.length=vs.length) (h:∀ (j:Nat) a b,cs[j]? = some a→vs[j]? = some b→b.oneCell'=true∧RelV c a b):CellsRel c cs vs :=
 ⟨hl,fun v hv=>by
  obtain ⟨j,hj,rfl⟩:=List.mem_iff_getElem.1 hv
  exact (h j (cs[j]'(by omega)) _ (by simp [hl,hj]) (by simp [hj])).1,fun j a b=>(h j _ _ (by simp [a]) (by simp [b])).2⟩
theorem CellsRel.get {cs:List AV} {vs:List Value} (h:CellsRel c cs vs) (j:Nat) {a:AV} {b:Value} (ha:cs[j]? = some a) (hb:vs[j]? = some b):b.oneCell'=true∧RelV c a b:=by
 obtain ⟨h1,rfl⟩:=List.getElem?_eq_some_iff.1 ha
 obtain ⟨h2,rfl⟩:=List.getElem?_eq_some_iff.1 hb
 exact ⟨h.2.1 _ (List.getElem_mem _),h.2.2 j h1 h2⟩
theorem CellsRel.over {j:Nat} {cs old:List AV} {vs old':List Value} (h:CellsRel c cs vs) (h':CellsRel c old old') (hle:j+cs.length≤old.length):CellsRel c (over j cs old) (over j vs old'):=by
 have hle':j+vs.length≤old'.length:=by rw [← h.1, ← h'.1];exact hle
 refine cellsRel_get (by rw [over_length hle,over_length hle'];exact h'.1) (fun q a b ha hb => ?_)
 rw [over_get hle] at ha
 rw [over_get hle', ← h.1] at hb
 split at ha
 ·rename_i e
  rw [if_pos e] at hb
  exact h.get _ ha hb
 ·rename_i e
  rw [if_neg e] at hb
  exact h'.get _ ha hb
theorem fold_set (off : Nat) : ∀ (vs : List Value) (n : Nat) (arr : Array Value), off + n + vs.length ≤ arr.size → ((vs.zipIdx n).foldl (fun cs (x : Value × Nat) => cs.setIfInBounds (off + x.2) x.1) arr).toList = TA.over (off + n) vs arr.toList
  | [], n, arr, h => by
    apply List.ext_getElem?
    intro q
    rw [over_get (by simpa using h)]
    simp
    intro a b
    omega
  | v :: l, n, arr, h => by
    simp only [List.zipIdx_cons,List.foldl_cons]
    simp only [List.length_cons] at h
    rw [fold_set off l (n+1) _ (by simp;omega)]
    apply List.ext_getElem?
    intro q
    rw [over_get (by simp only [Array.length_toList,Array.size_setIfInBounds];omega),over_get (by simp only [Array.length_toList,List.length_cons];omega)]
    simp only [Array.toList_setIfInBounds,List.getElem?_set,List.length_cons]
    by_cases e1:off+(n+1)≤q∧q<off+(n+1)+l.length
    · rw [if_pos e1,if_pos (by omega),show q - (off+n)=(q - (off+(n+1)))+1 by omega]
      rfl
    · rw [if_neg e1]
      by_cases e2:off+n=q
      · subst e2
        rw [if_pos rfl,if_pos (by simp only [Array.length_toList];omega),if_pos (by omega)]
        simp
      · rw [if_neg e2,if_neg (by omega)]
theorem fill_step {v:Value} {arr:Array Value} {off sz:Nat} {place:Nat→Option (Nat × Nat)} {i:Nat} {rest:List (Nat × Value)} (hp:place i=some (off,sz)) (hv:v.cells.size=sz) (hle:off+sz≤arr.size) :
  ∃ arr',arr'.toList=TA.over off v.cells.toList arr.toList∧Instr.fill place arr ((i,v)::rest)=Instr.fill place arr' rest:=by
 refine ⟨v.cells.zipIdx.foldl (fun cs (x:Value × Nat)=>cs.setIfInBounds (off+x.2) x.1) arr, ?_, ?_⟩
 ·have:=fold_set off v.cells.toList 0 arr (by simpa [hv] using hle)
  rw [Nat.add_zero] at this
  rw [← this]
  congr 1
  rw [← Array.foldl_toList]
  congr 1
  simp [Array.toList_zipIdx]
 ·simp only [Instr.fill,hp]
  rw [if_neg (by simp [hv];omega)]
theorem fill_rel (hρ : RelA c s ρ) {place:Nat→Option (Nat × Nat)}:∀ {parts:List (Nat × Nat × LOpd)} {ps:List (Nat × Operand)} {cells cs:List AV} {arr:Array Value},partsOk P place parts ps=true→CellsRel c cells arr.toList→fill cells (parts.map fun (o,n,x)=>(o,n,s.arg x))=some cs →
    ∃ arr',Instr.fill place arr (ps.map fun (i,x)=>(i, ρ x))=some arr'∧CellsRel c cs arr'.toList
  | [], [], cells, cs, arr, _, hr, h => by
    simp only [List.map_nil,fill,Option.some.injEq] at h
    subst h
    exact ⟨arr,rfl,hr⟩
  | [],_::_,_,_,_,h,_,_=>by simp [partsOk] at h
  | _::_,[],_,_,_,h,_,_=>by simp [partsOk] at h
  | (off, sz, x) :: l, (i, y) :: r, cells, cs, arr, hok, hr, h => by
    simp only [partsOk,Bool.and_eq_true,beq_iff_eq] at hok
    obtain ⟨⟨h1,h2⟩,h3⟩:=hok
    simp only [List.map_cons,fill] at h
    obtain ⟨cells1,hc1,h⟩:=bk_eq h
    obtain ⟨xs,hxs,hc1⟩:=bk_eq hc1
    unfold fillK at hc1
    split at hc1
    rotate_left
    · cases hc1
    rename_i hc
    simp only [Option.some.injEq] at hc1
    subst hc1
    have hx:=cells_rel (hρ _ _ h2) hxs
    obtain ⟨arr1,e1,e2⟩:=fill_step (v := ρ y) (arr:=arr) (rest:=r.map fun (i,x)=>(i, ρ x)) h1 (by rw [← Array.length_toList, ← hx.1];exact hc.1) (by rw [← Array.length_toList, ← hr.1];exact hc.2)
    obtain ⟨arr',e3,e4⟩:=fill_rel hρ (arr:=arr1) h3 (by rw [e1];exact hx.over hr (by rw [hc.1];exact hc.2)) h
    exact ⟨arr',by rw [List.map_cons,e2];exact e3,e4⟩
end
end Go.TA
namespace Go.TA
section
variable {P:Program} {Γ : Ground} {c:Cx} {s:St} {ρ : Operand→Value} {o:Oper}
theorem mapM_places:∀ (fs:List Field),(∀ f ∈ fs,(tsize P f.type).isSome=true)→∃ places,fs.mapM (fun f=>(P.info? f.type).map fun i=>(f.offset,i.size))=some places∧∀ i:Nat,places[i]? = (fs[i]? : Option Field).bind fun f=>(tsize P f.type).map fun n=>(f.offset,n)
  | [],_=>⟨[],rfl,by simp⟩
  | f :: l, h => by
    obtain ⟨ps,e,H⟩:=mapM_places l (fun f hf=>h f (by simp [hf]))
    have h0:=h f (by simp)
    simp only [tsize,Option.isSome_map] at h0
    obtain ⟨i,hi⟩:=Option.isSome_iff_exists.1 h0
    refine ⟨(f.offset,i.size)::ps,by simp [List.mapM_cons,hi,e],fun n => ?_⟩
    cases n with
    | zero=>simp [tsize,hi]
    | succ n=>simpa using H n
theorem does_build (hl:s.l=c.l) (hg:s.g=c.g) (hH:RelH Γ c) (hρ : RelA c s ρ) {zero:List AV} {parts:List (Nat × Nat × LOpd)} (hok:ok_build P zero parts o.op=true) {C:Calls'} {av:AV} {s':St} (h:evalOp C s (.build zero parts)=some (av,s')) :
  Does P ρ o c.w (Ans Γ c s'.l s'.g av):=by
 simp only [evalOp] at h
 obtain ⟨cs,hf,h⟩:=bk_eq h
 simp only [Option.some.injEq,Prod.mk.injEq] at h
 obtain ⟨rfl,rfl⟩:=h
 cases ho:o.op <;> rw [ho] at hok <;> simp only [ok_build,Bool.and_eq_true,reduceCtorEq] at hok <;> try (cases hok;done)
 rename_i t ps
 obtain ⟨g1,g2⟩:=hok
 split at g1
 rotate_left
 ·cases g1
 rename_i vs hz
 have hz':=hz
 unfold tzero at hz
 obtain ⟨v,hv,rfl⟩:=Option.map_eq_some_iff.1 hz
 obtain ⟨it,hi,hzv⟩:=Option.bind_eq_some_iff.1 hv
 have fin:∀ arr':Array Value,P.built t (ps.map fun x=>(x.1, ρ x.2)).toList=some arr'→CellsRel c cs arr'.toList→Does P ρ o c.w (Ans Γ c s.l s.g (ofCells cs)):=fun arr' hb hr=>by
  refine Does.value (v:=.agg arr') (w':=c.w) (by simp only [execOp,ho,Sem.run_bind,run_build c.w t _ arr' hb,Result.andThen_ok];rfl) ?_
  rw [hl,hg]
  refine ans_same hH ?_
  have:=ofCells_rel hr.1 hr.2.1 hr.2.2
  simpa using this
 split at g2
 ·rename_i fs hu
  simp only [Bool.and_eq_true] at g2
  obtain ⟨g2,g3⟩:=g2
  obtain ⟨places,e,H⟩:=mapM_places (P:=P) fs.toList (fun f hf=>(Array.all_eq_true_iff_forall_mem.1 g3) f (by simpa using hf))
  have hp:(fun i:Nat=>(fs[i]? : Option Field).bind fun f=>(tsize P f.type).map fun n=>(f.offset,n))=fun i:Nat=>places.toArray[i]? := by
   funext i
   have:=H i
   simp at this ⊢
   exact this.symm
  rw [hp] at g2
  obtain ⟨arr',e1,e2⟩:=fill_rel hρ (arr:=v.cells) g2 (zeroAV_rel g1) hf
  refine fin arr' ?_ e2
  simp only [Program.built,hi,hu,hzv,e]
  simpa using e1
 ·rename_i n e hu
  split at g2
  rotate_left
  ·cases g2
  rename_i m hm
  obtain ⟨ie,hie,rfl⟩:=Option.map_eq_some_iff.1 hm
  obtain ⟨arr',e1,e2⟩:=fill_rel hρ (arr:=v.cells) g2 (zeroAV_rel g1) hf
  refine fin arr' ?_ e2
  simp only [Program.built,hi,hu,hzv,hie]
  simpa using e1
 ·cases g2
theorem sameLen_all {sz:Nat}:∀ {xs:List (List AV)},sameLen sz xs=true→∀ i (h:i<xs.length),(xs[i]).length=sz
  | [],_,i,h=>by simp at h
  | c :: l, h, i, hi => by
    simp only [sameLen,Bool.and_eq_true,beq_iff_eq] at h
    cases i with
    | zero=>exact h.1
    | succ i=>exact sameLen_all h.2 i (by simpa using hi)
theorem row_fill (hρ : RelA c s ρ) {sz : Nat} : ∀ {parts : List LOpd} {ps : List (Nat × Operand)} {j : Nat} {xs : List (List AV)} {arr : Array Value}, rowOk j parts ps = true → cellsAll (parts.map s.arg) = some xs → sameLen sz xs = true → arr.size = (j + parts.length) * sz →
    xs.length=parts.length∧∃ arr',Instr.fill (fun i=>some (i*sz,sz)) arr (ps.map fun (i,x)=>(i, ρ x))=some arr'∧arr'.size=arr.size∧(∀ q,q<j*sz→arr'[q]? = arr[q]?) ∧
      ∀ i q (hi:i<xs.length) (hq:q<(xs[i]).length),∃ v,arr'[(j+i)*sz+q]? = some v∧v.oneCell'=true∧RelV c (xs[i][q]) v
  | [], [], j, xs, arr, _, h, _, _ => by
    simp only [List.map_nil,cellsAll,Option.some.injEq] at h
    subst h
    exact ⟨rfl,arr,rfl,rfl,fun _ _=>rfl,fun i q hi=>by simp at hi⟩
  | [],_::_,_,_,_,h,_,_,_=>by simp [rowOk] at h
  | _::_,[],_,_,_,h,_,_,_=>by simp [rowOk] at h
  | x :: l, (i, y) :: r, j, xs, arr, hok, h, hs, hsz => by
    simp only [rowOk,Bool.and_eq_true,beq_iff_eq] at hok
    obtain ⟨⟨rfl,h2⟩,h3⟩:=hok
    simp only [List.map_cons,cellsAll] at h
    obtain ⟨cs,hcs,h⟩:=bk_eq h
    obtain ⟨xs',hxs,h⟩:=bk_eq h
    simp only [Option.some.injEq] at h
    subst h
    simp only [sameLen,Bool.and_eq_true,beq_iff_eq] at hs
    obtain ⟨hs1,hs2⟩:=hs
    have hx:=cells_rel (hρ _ _ h2) hcs
    have hmul:(i+1)*sz=i*sz+sz:=Nat.succ_mul i sz
    have hmul2:(i+(l.length+1))*sz=i*sz+sz+l.length*sz:=by rw [Nat.add_mul,Nat.add_mul];omega
    have hmul3:(i+1+l.length)*sz=i*sz+sz+l.length*sz:=by rw [Nat.add_mul,Nat.add_mul];omega
    rw [List.length_cons,hmul2] at hsz
    obtain ⟨arr1,e1,e2⟩:=fill_step (v := ρ y) (arr:=arr) (place:=fun i=>some (i*sz,sz)) (i:=i) (rest:=r.map fun (i,x)=>(i, ρ x)) rfl (by rw [← Array.length_toList, ← hx.1];exact hs1) (by omega)
    have hlen:(ρ y).cells.toList.length=sz:=by rw [← hx.1];exact hs1
    have hle:i*sz+(ρ y).cells.toList.length≤arr.toList.length:=by rw [hlen,Array.length_toList];omega
    have hsz1:arr1.size=arr.size:=by rw [← Array.length_toList,e1,over_length hle,Array.length_toList]
    obtain ⟨n1,arr',a1,a2,a3,a4⟩:=row_fill hρ (arr:=arr1) h3 hxs hs2 (by rw [hsz1,hmul3];omega)
    refine ⟨by simp [n1],arr',by rw [List.map_cons,e2];exact a1,a2.trans hsz1,fun q hq => ?_,fun i' q hi hq => ?_⟩
    · rw [a3 q (by omega), ← Array.getElem?_toList,e1,over_get hle,if_neg (by omega),Array.getElem?_toList]
    · cases i' with
      | zero =>
        simp only [List.getElem_cons_zero,Nat.add_zero] at hq ⊢
        have hq':q<sz:=by omega
        have hg1:arr1[i*sz+q]? = (ρ y).cells.toList[q]? := by
          rw [← Array.getElem?_toList,e1,over_get hle,if_pos (by omega)]
          congr 1
          omega
        rw [a3 _ (by omega),hg1]
        have hb:q<(ρ y).cells.toList.length:=by omega
        refine ⟨_,List.getElem?_eq_getElem hb, ?_⟩
        exact hx.get q (List.getElem?_eq_getElem hq) (List.getElem?_eq_getElem hb)
      | succ i' =>
        simp only [List.getElem_cons_succ] at hq ⊢
        have:=a4 i' q (by simpa using hi) hq
        rwa [show i+1+i'=i+(i'+1) by omega] at this
theorem row_run (hρ : RelA c s ρ) {sz n:Nat} {t e:TypeId} {parts:List LOpd} {ps:Array (Nat × Operand)} {xs:List (List AV)} (hu:P.underlying t=some (.slice e)) (hsz:tsize P e=some sz) (hz:(tzero P e).isSome=true) (hle:n*sz≤16777216) (hn:parts.length=n) (hok:rowOk 0 parts ps.toList=true)
  (hx:cellsAll (parts.map s.arg)=some xs) (hs:sameLen sz xs=true):xs.length=n∧∃ arr:Array Value,(Instr.buildSlice t n (ps.map fun x=>(x.1, ρ x.2))).run P c.w = .ok (.slice (some ⟨c.w.heap.size,0,none⟩) n n) (c.w.alloc (.cells arr e))∧arr.size=n*sz∧RowsRel c sz xs arr.toList:=by
 obtain ⟨vs,hvs⟩:=Option.isSome_iff_exists.1 hz
 obtain ⟨v,hv,rfl⟩:=tzero_run hvs c.w
 have key:∀ arr0:Array Value,arr0.size=n*sz→xs.length=n∧∃ arr:Array Value,Instr.fill (fun i=>some (i*sz,sz)) arr0 (ps.map fun x=>(x.1, ρ x.2)).toList=some arr∧arr.size=n*sz∧RowsRel c sz xs arr.toList:=fun arr0 h0=>by
  obtain ⟨n1,arr',a1,a2,a3,a4⟩:=row_fill hρ (arr:=arr0) hok hx hs (by rw [h0,hn,Nat.zero_add])
  refine ⟨n1.trans hn,arr',by simpa using a1,a2.trans h0,sameLen_all hs,by have e3:arr'.toList.length=n*sz:=Array.length_toList.trans (a2.trans h0);rw [e3,n1,hn];exact Nat.le_refl _,fun i j hi hj => ?_⟩
  have:=a4 i j hi hj
  simpa using this
 by_cases h0:n*sz=0
 ·obtain ⟨n1,arr,b1,b2,b3⟩:=key #[] (by simp [h0])
  refine ⟨n1,arr, ?_,b2,b3⟩
  have hle':¬ (n*sz > 16777216):=by omega
  have b1':Instr.fill (fun i=>some (i*sz,sz)) #[] (List.map (fun x=>(x.1, ρ x.2)) ps.toList)=some arr:=by simpa using b1
  simp [Instr.buildSlice,run_underlying hu,tsize_run hsz,hle',h0,Array.range_zero',b1',newRow]
 ·obtain ⟨n1,arr,b1,b2,b3⟩:=key ((Array.range (n*sz)).map (v.cells[· % v.cells.size]!)) (by simp)
  refine ⟨n1,arr, ?_,b2,b3⟩
  have hle':¬ (n*sz > 16777216):=by omega
  have b1':Instr.fill (fun i=>some (i*sz,sz)) (Array.map (fun x=>v.cells[x % v.cells.size]!) (Array.range (n*sz))) (List.map (fun x=>(x.1, ρ x.2)) ps.toList)=some arr:=by simpa using b1
  simp [Instr.buildSlice,run_underlying hu,tsize_run hsz,hle',h0,hv,b1',newRow]
theorem does_row (hl:s.l=c.l) (hg:s.g=c.g) (hH:RelH Γ c) (hρ : RelA c s ρ) {sz:Nat} {parts:List LOpd} (hok:ok_row P sz parts o.op=true) {C:Calls'} {av:AV} {s':St} (h:evalOp C s (.row sz parts)=some (av,s')) :
  Does P ρ o c.w (Ans Γ c s'.l s'.g av):=by
 simp only [evalOp] at h
 obtain ⟨xs,hx,h⟩:=bk_eq h
 split at h
 rotate_left
 ·cases h
 rename_i hs
 simp only [Option.some.injEq,Prod.mk.injEq] at h
 obtain ⟨rfl,rfl⟩:=h
 cases ho:o.op <;> rw [ho] at hok <;> simp only [ok_row,reduceCtorEq] at hok <;> try (cases hok;done)
 rename_i t n ps
 split at hok
 rotate_left
 ·cases hok
 rename_i e hu
 simp only [Bool.and_eq_true,beq_iff_eq,decide_eq_true_eq] at hok
 obtain ⟨⟨⟨⟨⟨g1,g2⟩,g3⟩,g3'⟩,g4⟩,g5⟩:=hok
 obtain ⟨hn,arr,a1,a2,a3⟩:=row_run hρ hu g1 g2 g3 g4 g5 hx hs
 refine Does.value (by simp only [execOp,ho,Sem.run_bind,a1,Result.andThen_ok];rfl) ?_
 rw [hl,hg]
 have hb:=below_alloc c.w (.cells arr e)
 refine ans_below hH hb ?_
 have hE:=evolve_below hb hH.lt
 have hv:∀ i j (hi:i<xs.length) (hj:j<sz),∃ v,arr[i*sz+j]? = some v∧v.oneCell'=true∧RelV { c with w:=c.w.alloc (.cells arr e) } (xs[i][j]'(by rw [a3.1 i hi];exact hj)) v:=fun i j hi hj=>by
  obtain ⟨v,v1,v2,v3⟩:=a3.2.2 i j hi (by rw [a3.1 i hi];exact hj)
  exact ⟨v,by simpa using v1,v2,hE.relV v3⟩
 have hn':n≤maxLen:=by simp [maxLen];omega
 rw [← hn]
 refine .lit xs _ _ sz (fun i j=>match arr[i*sz+j]? with | some v=>if v.oneCell'=true then v else .bool true | none => .bool true) (by exact hH.new) (size_alloc c.w _) (Nat.le_refl _) (by rw [hn];exact hn') a3.1 (fun i j hi hj => ?_) (fun i j => ?_) (fun i j hi hj => ?_)
 ·obtain ⟨v,v1,v2,v3⟩:=hv i j hi hj
  simp only [v1,v2,if_true]
  exact (cell_of_row _ c.w.heap.size _ _ e _ (heap_alloc_new c.w _)).trans v1
 ·split
  ·split
   ·assumption
   ·rfl
  ·rfl
 ·obtain ⟨v,v1,v2,v3⟩:=hv i j hi (by rw [a3.1 i hi] at hj;exact hj)
  simp only [v1,v2,if_true]
  exact v3
theorem does_rowOwn (hl:s.l=c.l) (hg:s.g=c.g) (hH:RelH Γ c) (hρ : RelA c s ρ) {z:Bool} {k sz:Nat} {parts:List LOpd} (hok:ok_rowOwn P z k sz parts o.op=true) {C:Calls'} {av:AV} {s':St} (h:evalOp C s (.rowOwn z k sz parts)=some (av,s')) :
  Does P ρ o c.w (Ans Γ c s'.l s'.g av):=by
 simp only [evalOp] at h
 obtain ⟨xs,hx,h⟩:=bk_eq h
 split at h
 rotate_left
 ·cases h
 rename_i hs
 obtain ⟨⟨k',s1⟩,hnew,h⟩:=bk_eq h
 simp only [Option.some.injEq,Prod.mk.injEq] at h
 obtain ⟨rfl,rfl⟩:=h
 cases ho:o.op <;> rw [ho] at hok <;> simp only [ok_rowOwn,reduceCtorEq] at hok <;> try (cases hok;done)
 rename_i t n ps
 split at hok
 rotate_left
 ·cases hok
 rename_i e hu
 simp only [Bool.and_eq_true,beq_iff_eq,decide_eq_true_eq] at hok
 obtain ⟨⟨⟨⟨⟨g1,g2⟩,g3⟩,g3'⟩,g4⟩,g5⟩:=hok
 obtain ⟨hn,arr,a1,a2,a3⟩:=row_run hρ hu g1 g2 g3 g4 g5 hx hs.1
 obtain ⟨h1,h2,h3,hE,hH',hob,hμ⟩:=new_cells (e:=e) hl hg hH a3 hnew
 simp only [Array.toArray_toList] at h1 h2 hE hH' hob hμ
 have hn':n≤maxLen:=by simp [maxLen];omega
 refine Does.value (by simp only [execOp,ho,Sem.run_bind,a1,Result.andThen_ok];rfl) ⟨_,h1,h2,rfl,hE,hH', ?_⟩
 rw [← hn]
 refine .own _ _ _ _ _ ⟨_,hob,fun m hm => ?_⟩
 rw [(objOf_cnt _ _).1] at hm
 cases hm
 refine ⟨Nat.le_refl _,fun _ => .inr ⟨_,arr,e,hμ,rfl,Nat.le_refl _,by rw [hn];exact hn',heap_alloc_new c.w _, ?_⟩⟩
 rw [(objOf_cnt _ _).2,a2,hn]
end
end Go.TA
namespace Go.TA
section
variable {P:Program} {Γ : Ground} {c:Cx} {s:St} {ρ : Operand→Value} {o:Oper}
theorem makeMap_run {w:World} (hk:∀ v, ρ (.const v)=v) {t:TypeId} {r:Option Operand} (h:ok_makeMap P false 0 (.makeMap t r)=true):(Instr.makeMap t (r.map ρ)).run P w = .ok (.map (some w.heap.size)) (w.alloc (.map #[] 0)):=by
  cases r with
  | none=>simp [Instr.makeMap]
  | some y =>
    cases y <;> try (simp [ok_makeMap] at h;done)
    rename_i v
    cases v <;> try (simp [ok_makeMap] at h;done)
    rename_i k n
    simp only [ok_makeMap] at h
    split at h
    · rename_i hu
      simp [Instr.makeMap,run_underlying hu,hk,Go.asInt,asIntOf]
    · cases h
theorem does_makeMap (hl:s.l=c.l) (hg:s.g=c.g) (hH:RelH Γ c) (hk:∀ v, ρ (.const v)=v) {z:Bool} {k:Nat} (hok:ok_makeMap P z k o.op=true) {C:Calls'} {av:AV} {s':St} (h:evalOp C s (.makeMap z k)=some (av,s')) :
  Does P ρ o c.w (Ans Γ c s'.l s'.g av):=by
 simp only [evalOp] at h
 obtain ⟨⟨k',s1⟩,hn,h⟩:=bk_eq h
 simp only [Option.some.injEq,Prod.mk.injEq] at h
 obtain ⟨rfl,rfl⟩:=h
 cases ho:o.op <;> rw [ho] at hok <;> try (simp [ok_makeMap] at hok;done)
 rename_i t r
 have hrun:=makeMap_run (P:=P) (w:=c.w) (t:=t) (r:=r) hk hok
 obtain ⟨hf,h1,h2,h3⟩:=newObj_cx hl hg hn (some c.w.heap.size) (c.w.alloc (.map #[] 0))
 have hμ : (c.add z k' (.map []) (some c.w.heap.size) (c.w.alloc (.map #[] 0))).μ z k'=some c.w.heap.size:=by simp [Cx.add]
 obtain ⟨hE,hH'⟩:=hH.add (.map []) (some c.w.heap.size) (w':=c.w.alloc (.map #[] 0)) hf (below_alloc _ _) (fun b hb=>by
  cases hb
  exact ⟨Nat.le_refl _,size_alloc _ _,hH.new.1⟩) (fun _=>by simp [AObj.cnt]) (by
  simp only [RelObj,hμ]
  exact ⟨_, #[],0,rfl,heap_alloc_new _ _,⟨rfl,by simp [Stamps]⟩,fun i h=>by simp at h⟩)
 refine Does.value (by simp only [execOp,ho,Sem.run_bind,hrun,Result.andThen_ok];rfl) ⟨_,h1,h2,rfl,hE,hH',.map _ _ _ ⟨.map [],by rw [Cx.obj_add hf,if_pos ⟨rfl,rfl⟩],fun m hm=>⟨rfl,_,hμ,rfl⟩⟩⟩
theorem does_makeRow (hl : s.l = c.l) (hg : s.g = c.g) (hH : RelH Γ c) (hρ : RelA c s ρ) {z : Bool} {k sz bytes : Nat} {zero : List PV} {x y : LOpd} (hok : ok_makeRow P z k sz bytes zero x y o.op = true) {C : Calls'} {av : AV} {s' : St} (h : evalOp C s (.makeRow z k sz bytes zero x y) = some (av, s')) :
    Does P ρ o c.w (Ans Γ c s'.l s'.g av):=by
  simp only [evalOp] at h
  obtain ⟨⟨k1,n⟩,hx,h⟩:=bk_eq h
  obtain ⟨⟨k2,m⟩,hy,h⟩:=bk_eq h
  simp only at h
  split at h
  rotate_left
  · cases h
  rename_i hc
  obtain ⟨c1,c2,c3,c4⟩:=hc
  obtain ⟨⟨k',s1⟩,hnew,h⟩:=bk_eq h
  simp only [Option.some.injEq,Prod.mk.injEq] at h
  obtain ⟨rfl,rfl⟩:=h
  cases ho:o.op <;> rw [ho] at hok <;> try (simp [ok_makeRow] at hok;done)
  rename_i t x' y'
  simp only [ok_makeRow,Bool.and_eq_true] at hok
  obtain ⟨⟨g1,g2⟩,g3⟩:=hok
  split at g1
  rotate_left
  · cases g1
  rename_i e hu
  simp only [Bool.and_eq_true,beq_iff_eq,bne_iff_ne,ne_eq] at g1
  obtain ⟨⟨⟨q1,q2⟩,q3⟩,q4⟩:=g1
  have rx:=hρ _ _ g2
  rw [asInt_some hx] at rx
  have rx:=relV_int rx
  have ry:=hρ _ _ g3
  rw [asInt_some hy] at ry
  have ry:=relV_int ry
  obtain ⟨i,hi,rfl⟩:=Option.map_eq_some_iff.1 q1
  obtain ⟨i',hi',rfl⟩:=Option.map_eq_some_iff.1 q2
  rw [hi] at hi'
  cases hi'
  unfold zeroOk at q3
  split at q3
  rotate_left
  · cases q3
  rename_i vs hz
  simp only [Bool.and_eq_true,beq_iff_eq] at q3
  obtain ⟨z1,z2⟩:=q3
  unfold tzero at hz
  rw [hi,Option.bind_some] at hz
  obtain ⟨v,hv,rfl⟩:=Option.map_eq_some_iff.1 hz
  have hzs:zero.length=i.size:=by simp [tsize,hi] at z2;exact z2.symm
  obtain ⟨r1,r2,r3⟩:=constsOk_rel (w:=c.w) (N:=c.N) z1
  have hvs:v.cells.size=i.size:=by rw [← Array.length_toList, ← r1,hzs]
  have hcast:((m.toNat:Nat):Int)=m:=by omega
  have hrun:=run_make (P:=P) c.w t e i v hu hi hv k1 k2 n m c1 c2 (by rw [Int.mul_comm];omega) (by omega)
  have hcell:∀ a b,a<m.toNat→b<i.size→(madeCells v.cells (m.toNat*i.size)).toList[a*i.size+b]? = v.cells.toList[b]? := fun a b ha hb=>by
    have hlt:a*i.size+b<m.toNat*i.size:=by
      have:(a+1)*i.size≤m.toNat*i.size:=Nat.mul_le_mul_right _ (by omega)
      rw [Nat.succ_mul] at this
      omega
    have hb':b<v.cells.size:=by omega
    have hmod:(a*i.size+b) % v.cells.size=b:=by
      rw [hvs,Nat.mul_comm,Nat.mul_add_mod,Nat.mod_eq_of_lt hb]
    simp [madeCells,hlt,hmod,hb']
  obtain ⟨h1,h2,h3,hE,hH',hob,hμ⟩:=new_row (e:=e) (sz:=i.size) (xs:=lift (List.replicate n.toNat zero)) (vs:=(madeCells v.cells (m.toNat*i.size)).toList) (ob:=.pcells i.size (List.replicate n.toNat zero)) hl hg hH (fun c' h=>h) (by simp [AObj.cnt]) (by
    refine ⟨fun a ha=>by simp [lift,hzs], ?_,fun a b ha hb => ?_⟩
    · simp only [lift,List.length_map,List.length_replicate,Array.length_toList,size_madeCells]
      exact Nat.mul_le_mul_right _ (by omega)
    · simp [lift] at ha hb
      have hb':b<v.cells.toList.length:=by simp;omega
      refine ⟨v.cells.toList[b], ?_,r2 _ (List.getElem_mem _), ?_⟩
      · rw [hcell a b (by omega) (by omega),List.getElem?_eq_getElem hb']
      · simp only [lift,List.getElem_map,List.getElem_replicate]
        exact .p _ _ (r3 b (by omega) hb')) hnew
  simp only [Array.toArray_toList] at h1 h2 hE hH' hob hμ
  refine Does.value (by simp only [execOp,ho,rx,ry,Sem.run_bind,hrun,Result.andThen_ok];rfl) ⟨_,h1,h2,rfl,hE,hH', ?_⟩
  refine .own _ _ _ _ _ ⟨_,hob,fun m' hm => ?_⟩
  simp [AObj.cnt] at hm
  subst hm
  refine ⟨Nat.le_refl _,fun _ => .inr ⟨_,_,e,hμ,rfl,by omega,by simp [maxLen];omega,heap_alloc_new c.w _, ?_⟩⟩
  rw [size_madeCells]
  rfl
end
end Go.TA
namespace Go.TA
section
variable {P:Program} {Γ : Ground} {c:Cx} {s:St} {ρ : Operand→Value} {o:Oper}
theorem write_rows (hH:RelH Γ c) {z:Bool} {k b bs:Nat} {ob ob':AObj} {cs cs':Array Value} {e:TypeId} {xs':List (List AV)} (hob:c.obj z k=some ob) (hb:c.μ z k=some b) (hh:c.w.heap[b]? = some (.cells cs e (0,0))) (hsz:cs'.size=cs.size)
  (hcnt:ob'.cnt=ob.cnt) (hcn:ob'.cnt≠none) (hm:ob'.isMap=ob.isMap) (hs:ob'.sz=ob.sz) (hro:∀ c'':Cx,RelRow c'' (c''.μ z k) bs xs'→RelObj c'' z k ob') (hr:RowsRel c bs xs' cs'.toList) :
  Evolve c (c.set z k ob' (some b) (c.w.setRow b cs'))∧RelH Γ (c.set z k ob' (some b) (c.w.setRow b cs')):=by
 have hset:=setRow_heap c.w b cs cs' e (0,0) hh
 refine hH.set ob' (some b) hob (by simp) rfl rfl rfl (fun b' _ hne=>setRow_other c.w b b' cs' (fun e=>hne (by rw [hb,e]))) (fun b' e'=>⟨.inl (by cases e';exact hb),hcn⟩) (fun m' hm' => ?_) (fun hE => ?_)
 ·refine ⟨m',by rw [← hcnt];exact hm',Nat.le_refl _,hm,fun _=>⟨⟨hb.symm,fun b' cs1 e1 h1 h2 => ?_⟩,hs⟩⟩
  rw [hb] at h1
  cases h1
  rw [hh] at h2
  cases h2
  exact ⟨cs',hset,hsz⟩
 ·refine hro _ ?_
  have hμ : (c.set z k ob' (some b) (c.w.setRow b cs')).μ z k=some b:=by simp [Cx.set]
  rw [hμ]
  refine ⟨hr.1,.inr ⟨b,cs',e,rfl,hset,by simpa using hr.2.1,fun i j hi hj => ?_⟩⟩
  obtain ⟨v,v1,v2,v3⟩:=hr.2.2 i j hi hj
  exact ⟨v,by simpa using v1,v2,hE.relV v3⟩
theorem map_over {α β : Type} (f : α → β) (j:Nat) (a b:List α):(over j a b).map f=over j (a.map f) (b.map f):=by
 unfold over
 simp only [List.length_map]
 split <;> simp
theorem lift_set (xs:List (List PV)) (i:Nat) (r:List PV):lift (xs.set i r)=(lift xs).set i (r.map .p):=by simp [lift,List.map_set]
theorem lift_getD (xs:List (List PV)) (i:Nat):(xs.getD i []).map AV.p=(lift xs).getD i []:=by
 simp only [lift,List.getD_eq_getElem?_getD,List.getElem?_map]
 cases xs[i]? <;> rfl
theorem wr_rel {z:Bool} {k n i j bs:Nat} {new:List AV} {ob ob':AObj} (h:ob.wr n i j bs new=some ob') (hR:RelObj c z k ob):∃ xs,RelRow c (c.μ z k) bs xs∧xs.length=n∧i<n∧j+new.length≤bs∧ob.cnt=some n∧ob'.cnt=some n∧ob'.sz=ob.sz∧ob'.isMap=ob.isMap ∧
    ∀ c'':Cx,RelRow c'' (c''.μ z k) bs (xs.set i (over j new (xs.getD i [])))→RelObj c'' z k ob':=by
  cases ob with
  | pcells b xs =>
    simp only [AObj.wr] at h
    split at h
    rotate_left
    · cases h
    rename_i hc
    obtain ⟨rfl,c2,c3,c4⟩:=hc
    split at h
    · rename_i ps hp
      simp only [Option.some.injEq] at h
      subst h
      refine ⟨lift xs,hR,by simpa [lift] using c2,c3,c4,by simp [AObj.cnt,c2],by simp [AObj.cnt,c2],rfl,rfl,fun c'' h => ?_⟩
      rw [pures_map hp, ← lift_getD, ← map_over, ← lift_set] at h
      exact h
    · simp only [Option.some.injEq] at h
      subst h
      refine ⟨lift xs,hR,by simpa [lift] using c2,c3,c4,by simp [AObj.cnt,c2],by simp [AObj.cnt,c2],rfl,rfl,fun c'' h => ?_⟩
      rw [← lift_getD] at h
      exact h
  | cells b xs =>
    simp only [AObj.wr] at h
    split at h
    rotate_left
    · cases h
    rename_i hc
    obtain ⟨rfl,c2,c3,c4⟩:=hc
    simp only [Option.some.injEq] at h
    subst h
    exact ⟨xs,hR,c2,c3,c4,by simp [AObj.cnt,c2],by simp [AObj.cnt,c2],rfl,rfl,fun c'' h=>h⟩
  | dead=>simp [AObj.wr] at h
  | map es=>simp [AObj.wr] at h
  | siter a b=>simp [AObj.wr] at h
theorem index_apart {i i' j q bs n : Nat} (hq : q < bs) (hj : j + n ≤ bs) : (i * bs + j ≤ i' * bs + q ∧ i' * bs + q < i * bs + j + n) ↔ (i' = i ∧ j ≤ q ∧ q < j + n) := by
  constructor
  · rintro ⟨h1,h2⟩
    have e:i'=i:=by
      rcases Nat.lt_trichotomy i' i with h | h | h
      · have:=Nat.mul_le_mul_right bs (show i'+1≤i from h)
        rw [Nat.succ_mul] at this
        omega
      · exact h
      · have:=Nat.mul_le_mul_right bs (show i+1≤i' from h)
        rw [Nat.succ_mul] at this
        omega
    subst e
    exact ⟨rfl,by omega,by omega⟩
  · rintro ⟨rfl,h1,h2⟩
    omega
theorem rows_over {bs i j : Nat} {xs : List (List AV)} {new : List AV} {vs vals : List Value} (hr : RowsRel c bs xs vs) (hi : i < xs.length) (hj : j + new.length ≤ bs) (hn : CellsRel c new vals) : i * bs + j + vals.length ≤ vs.length ∧ RowsRel c bs (xs.set i (over j new (xs.getD i []))) (over (i * bs + j) vals vs) := by
  obtain ⟨h1,h2,h3⟩:=hr
  have hle0:(i+1)*bs≤xs.length*bs:=Nat.mul_le_mul_right bs hi
  rw [Nat.succ_mul] at hle0
  have hle:i*bs+j+vals.length≤vs.length:=by rw [← hn.1];omega
  refine ⟨hle,fun i' hi' => ?_,by rw [over_length hle];simpa using h2,fun i' q hi' hq => ?_⟩
  · rw [List.getElem_set]
    split
    · rw [getD_lt _ hi,over_length (by rw [h1 i hi];exact hj),h1 i hi]
    · exact h1 i' (by simpa using hi')
  · have hi2:i'<xs.length:=by simpa using hi'
    have hqb:q<bs:=by
      rw [List.getElem_set] at hq
      split at hq
      · rw [getD_lt _ hi,over_length (by rw [h1 i hi];exact hj),h1 i hi] at hq;exact hq
      · rw [h1 i' hi2] at hq;exact hq
    have hap:=index_apart (i:=i) (i':=i') (j:=j) (n:=new.length) hqb hj
    rw [over_get hle]
    rw [← hn.1]
    have hx:∀ a,(xs.set i (over j new (xs.getD i [])))[i'][q]=a↔((xs.set i (over j new (xs.getD i [])))[i'])[q]? = some a:=fun a=>by
      rw [List.getElem?_eq_getElem hq];simp
    by_cases hc:i'=i∧j≤q∧q<j+new.length
    · rw [if_pos (hap.2 hc)]
      obtain ⟨rfl,c1,c2⟩:=hc
      have hb:i'*bs+q - (i'*bs+j)=q - j:=by omega
      rw [hb]
      have hqv:q - j<vals.length:=by rw [← hn.1];omega
      refine ⟨vals[q - j],List.getElem?_eq_getElem hqv,hn.2.1 _ (List.getElem_mem _), ?_⟩
      have:(xs.set i' (over j new (xs.getD i' [])))[i'][q]=new[q - j]'(by omega):=by
        rw [hx]
        simp only [List.getElem_set_self]
        rw [over_get (by rw [getD_lt _ hi,h1 i' hi];exact hj),if_pos ⟨c1,c2⟩,List.getElem?_eq_getElem]
      rw [this]
      exact hn.2.2 _ _ _
    · rw [if_neg (fun h=>hc (hap.1 h))]
      obtain ⟨v,v1,v2,v3⟩:=h3 i' q hi2 (by rw [h1 i' hi2];exact hqb)
      refine ⟨v,v1,v2, ?_⟩
      have:(xs.set i (over j new (xs.getD i [])))[i'][q]=xs[i'][q]'(by rw [h1 i' hi2];exact hqb):=by
        rw [hx]
        by_cases e:i=i'
        · subst e
          simp only [List.getElem_set_self]
          rw [over_get (by rw [getD_lt _ hi,h1 i hi];exact hj),if_neg (fun h=>hc ⟨rfl,h⟩),getD_lt _ hi,List.getElem?_eq_getElem]
        · simp only [List.getElem_set_ne e]
          rw [List.getElem?_eq_getElem]
      rw [this]
      exact v3
theorem relRow_rows {b bs:Nat} {xs:List (List AV)} (h:RelRow c (some b) bs xs):∃ cs e,c.w.heap[b]? = some (.cells cs e (0,0))∧RowsRel c bs xs cs.toList:=by
 obtain ⟨h0,h1⟩:=h
 rcases h1 with ⟨h1,_⟩ | ⟨b',cs,e,hb,hh,hs,hv⟩
 ·cases h1
 ·cases hb
  exact ⟨cs,e,hh,h0,by simpa using hs,fun i j hi hj=>by simpa using hv i j hi hj⟩
theorem does_store (hl:s.l=c.l) (hg:s.g=c.g) (hH:RelH Γ c) (hρ : RelA c s ρ) {sz:Nat} {agg:Bool} {x y:LOpd} (hok:ok_store P sz agg x y o.op=true) {C:Calls'} {av:AV} {s':St} (h:evalOp C s (.store sz agg x y)=some (av,s')) :
  Does P ρ o c.w (Ans Γ c s'.l s'.g av):=by
 simp only [evalOp] at h
 split at h
 rotate_left
 ·cases h
 rename_i z k bs n i j hx
 obtain ⟨cs,hcs,h⟩:=bk_eq h
 split at h
 rotate_left
 ·cases h
 rename_i hc
 obtain ⟨hlen,_⟩:=hc
 obtain ⟨ob,hob,h⟩:=bk_eq h
 obtain ⟨ob',hw,h⟩:=bk_eq h
 simp only [Option.some.injEq,Prod.mk.injEq] at h
 obtain ⟨rfl,rfl⟩:=h
 cases ho:o.op <;> rw [ho] at hok <;> simp [ok_store] at hok
 rename_i t x' y'
 obtain ⟨⟨g1,g2⟩,g3⟩:=hok
 have r:=hρ _ _ g2
 rw [hx] at r
 have hv:=cells_rel (hρ _ _ g3) hcs
 rw [obj_eq hl hg] at hob
 obtain ⟨xs,a1,a2,a3,a4,a5,a6,a7,a8,a9⟩:=wr_rel hw (hH.objs z k ob hob)
 obtain ⟨a,hy,ob1,hob1,H⟩:=relV_ptr r
 rw [hob] at hob1
 cases hob1
 obtain ⟨_,H2⟩:=H n a5
 obtain ⟨b,hb,rfl⟩:=H2 rfl
 rw [hb] at a1
 obtain ⟨cells,e,hh,hrows⟩:=relRow_rows a1
 obtain ⟨hle,hrows'⟩:=rows_over (i:=i) (j:=j) hrows (by omega) a4 hv
 have hsize:(over (i*bs+j) (ρ y').cells.toList cells.toList).toArray.size=cells.size:=by rw [List.size_toArray,over_length hle,Array.length_toList]
 obtain ⟨hE,hH'⟩:=write_rows hH hob hb hh hsize (a6.trans a5.symm) (by rw [a6];simp) a8 a7 a9 (by simpa using hrows')
 have hst:=run_storeCells_at P b (i*bs+j) e (ρ y').cells.toList 0 cells c.w hh (by rw [Nat.add_zero, ← Array.length_toList];exact hle) hv.2.1
 have hover:(cells.toList.take (i*bs+j+0)++(ρ y').cells.toList++cells.toList.drop (i*bs+j+0+(ρ y').cells.toList.length))=over (i*bs+j) (ρ y').cells.toList cells.toList:=by
  unfold over
  split
  ·rename_i e
   rw [e.1]
   simp [e.2]
  ·simp
 rw [hover] at hst
 have hsz2:(ρ y').cells.size=sz:=by rw [← Array.length_toList, ← hv.1,hlen]
 have htz:tsize P t=some sz:=by simp only [szOk,Bool.and_eq_true,beq_iff_eq] at g1;exact g1.1.1
 refine Does.skip (w':=c.w.setRow b (over (i*bs+j) (ρ y').cells.toList cells.toList).toArray) (by simp [execOp,ho,hy,Instr.storeAt,Instr.sureAddr,storeVar,tsize_run htz,hsz2,hst]) ⟨_,put_l hl,put_g hg,rfl,hE,hH',rUndef⟩
end
end Go.TA


end
