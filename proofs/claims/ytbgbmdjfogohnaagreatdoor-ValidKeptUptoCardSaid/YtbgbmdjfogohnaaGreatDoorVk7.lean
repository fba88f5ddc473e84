/- Part 7 of 15 of a proof; joined from PrimX, PrimS, Chain, Mach, Pre, MS, MDef, MBelow, RMem, MRowsP, OpsData, AttrsDef. Which names may be, and what is wrong with attributes. Plain. -/
import Derived.Test.YtbgbmdjfogohnaaGreatDoorVk6
import Derived.Deep.Upon
import Derived.Sort.Grow
import Derived.Test.YtbgbmdjfogohnaaGreatDoorVk1
set_option linter.unusedSimpArgs false
set_option linter.unusedVariables false
set_option linter.defProp false
set_option maxRecDepth 100000
set_option maxHeartbeats 8000000
section
/- slices.Insert on a row of one's own, told at once. -/
namespace Go.TA
structure Only (w w':World) (k:Option Nat):Prop where
 size:w.heap.size≤w'.heap.size
 tape:w'.tape=w.tape
 os:w'.os=w.os
 output:w'.output=w.output
 keep:∀ b,b<w.heap.size→k≠some b→w'.heap[b]? = w.heap[b]?
theorem Only.refl (w:World) (k:Option Nat):Only w w k:=⟨Nat.le_refl _,rfl,rfl,rfl,fun _ _ _=>rfl⟩
theorem Only.drew {w w':World} {k:Option Nat} (h:Only w w' k):Only w w'.drew k:=⟨h.size,h.tape,h.os,h.output,h.keep⟩
theorem Only.alloc {w w':World} {k:Option Nat} (h:Only w w' k) (o:Obj):Only w (w'.alloc o) k :=
 ⟨by have:=h.size;simp;omega,h.tape,h.os,h.output,fun b hb hne=>by
  rw [← h.keep b hb hne]
  have:=h.size
  simp only [World.alloc]
  rw [Array.getElem?_push_lt (by omega)]
  simp⟩
theorem heap_setCell_other {w:World} {b b' o:Nat} {v:Value} (h:b'≠b):(w.setCell ⟨b,o,none⟩ v).heap[b']? = w.heap[b']? := by
 simp only [World.setCell,Array.getElem?_modify]
 rw [if_neg (fun e=>h e.symm)]
theorem Only.cells {w : World} {k : Option Nat} {b : Nat} (hb : k = some b ∨ w.heap.size ≤ b) : ∀ (vs : List Value) (o : Nat) {w' : World}, Only w w' k → Only w (w'.setCells b o vs) k
  | [],_,_,h=>h
  | v :: r, o, w', h => Only.cells hb r (o + 1) ⟨by simpa using h.size, h.tape, h.os, h.output, fun b' hb' hne => by
      rw [heap_setCell_other (fun e=>by
        subst e
        rcases hb with e | e
        · exact hne e
        · omega)]
      exact h.keep b' hb' hne⟩
theorem heap_lt_setCells (b:Nat):∀ (vs:List Value) (o:Nat) (w:World),(w.setCells b o vs).heap.size=w.heap.size
 | [],_,_=>rfl
 | v::r,o,w=>by rw [World.setCells,heap_lt_setCells b r];simp
section
variable {cs vs:List Value} {a:Nat}
theorem us_get (ha:a≤cs.length) (j:Nat):(cs.take a++vs++cs.drop a)[j]? = if j<a then cs[j]? else if j<a+vs.length then vs[j - a]? else cs[j - vs.length]? := by
 have hl:(cs.take a).length=a:=by rw [List.length_take];omega
 split
 ·rw [List.append_assoc,List.getElem?_append_left (by omega),List.getElem?_take,if_pos (by omega)]
 ·split
  ·rw [List.append_assoc,List.getElem?_append_right (by omega),List.getElem?_append_left (by omega),hl]
  ·rw [List.getElem?_append_right (by rw [List.length_append];omega),List.getElem?_drop,List.length_append,hl]
   congr 1
   omega
theorem shift_cells {w:World} {b:Nat} (ha:a≤cs.length) (hcs:∀ j v,cs[j]? = some v→w.cell? ⟨b,j,none⟩=some v) (hsp:∀ j,j<cs.length+vs.length→(w.cell? ⟨b,j,none⟩).isSome=true) (j:Nat) (v:Value) (h:(cs.take a++vs++cs.drop a)[j]? = some v) :
  ((w.setCells b (a+vs.length) (cs.drop a)).setCells b a vs).cell? ⟨b,j,none⟩=some v:=by
 rw [us_get ha] at h
 have hdl:(cs.drop a).length=cs.length - a:=List.length_drop
 have hsp1:∀ q,q<vs.length→((w.setCells b (a+vs.length) (cs.drop a)).cell? ⟨b,a+q,none⟩).isSome=true:=fun q hq=>by
  rw [World.cell?_setCells_out b _ _ _ _ (fun _ _=>by show a+q<a+vs.length∨_;omega)]
  exact hsp _ (by omega)
 split at h
 ·rw [World.cell?_setCells_out b _ _ _ _ (fun _ _=>by show j<a∨_;omega),World.cell?_setCells_out b _ _ _ _ (fun _ _=>by show j<a+vs.length∨_;omega)]
  exact hcs j v h
 ·split at h
  ·have:=World.cell?_setCells_in b vs a _ hsp1 (j - a) (by omega)
   rw [show a+(j - a)=j by omega] at this
   rw [this, ← h,List.getElem?_eq_getElem]
  ·have hj:j - vs.length<cs.length:=(List.getElem?_eq_some_iff.1 h).1
   rw [World.cell?_setCells_out b _ _ _ _ (fun _ _=>by show _∨a+vs.length≤j;omega)]
   have:=World.cell?_setCells_in b (cs.drop a) (a+vs.length) w (fun q hq=>hsp _ (by omega)) (j - (a+vs.length)) (by omega)
   rw [show a+vs.length+(j - (a+vs.length))=j by omega] at this
   rw [this, ← h, ← List.getElem?_eq_getElem,List.getElem?_drop]
   congr 1
   omega
theorem grow_cells {w w' : World} {b : Nat} (ha : a ≤ cs.length) (hcs : ∀ j v, (cs.take a)[j]? = some v → w.cell? ⟨b, j, none⟩ = some v) (hsp : ∀ j, j < cs.length + vs.length → (w.cell? ⟨b, j, none⟩).isSome = true) (hw : ∀ x, w'.cell? x = (w.setCells b a vs).cell? x) (j : Nat) (v : Value) (h : (cs.take a ++ vs ++ cs.drop a)[j]? = some v) :
    (w'.setCells b (a+vs.length) (cs.drop a)).cell? ⟨b,j,none⟩=some v:=by
  rw [us_get ha] at h
  have hdl:(cs.drop a).length=cs.length - a:=List.length_drop
  split at h
  · rw [World.cell?_setCells_out b _ _ _ _ (fun _ _=>by show j<a+vs.length∨_;omega),hw,World.cell?_setCells_out b _ _ _ _ (fun _ _=>by show j<a∨_;omega)]
    exact hcs j v (by rw [List.getElem?_take,if_pos (by omega)];exact h)
  · split at h
    · rw [World.cell?_setCells_out b _ _ _ _ (fun _ _=>by show j<a+vs.length∨_;omega),hw]
      have:=World.cell?_setCells_in b vs a w (fun q hq=>hsp _ (by omega)) (j - a) (by omega)
      rw [show a+(j - a)=j by omega] at this
      rw [this, ← h,List.getElem?_eq_getElem]
    · have hj:j - vs.length<cs.length:=(List.getElem?_eq_some_iff.1 h).1
      have:=World.cell?_setCells_in b (cs.drop a) (a+vs.length) w' (fun q hq=>by
        rw [hw,World.cell?_setCells_out b _ _ _ _ (fun _ _=>by show _∨a+vs.length≤a+vs.length+q;omega)]
        exact hsp _ (by omega)) (j - (a+vs.length)) (by omega)
      rw [show a+vs.length+(j - (a+vs.length))=j by omega] at this
      rw [this, ← h, ← List.getElem?_eq_getElem,List.getElem?_drop]
      congr 1
      omega
theorem end_cells {w:World} {b:Nat} (hcs:∀ j v,cs[j]? = some v→w.cell? ⟨b,j,none⟩=some v) (hsp:∀ j,j<cs.length+vs.length→(w.cell? ⟨b,j,none⟩).isSome=true) (j:Nat) (v:Value) (h:(cs.take cs.length++vs++cs.drop cs.length)[j]? = some v) :
  (w.setCells b cs.length vs).cell? ⟨b,j,none⟩=some v:=by
 have h1:=shift_cells (Nat.le_refl cs.length) hcs hsp j v h
 rw [List.drop_length] at h1
 exact h1
end
theorem run_overlaps_own {P : Program} (w : World) (tS tR e : TypeId) (ht : P.underlying tS = some (.slice e)) (size : Nat) (hz : ∀ w, (Go.sizeOf e).run P w = .ok size w)
    (a b:Addr) (la ca lb cb:Nat) (hne:a.block≠b.block) (tA tB:TypeId) (kA kB:Nat)
    (hsa:w.shape? a.block=some (tA,kA)) (hsb:w.shape? b.block=some (tB,kB)) (hkA:kA≠0)
    (hfb:w.frozen? b=false) (hfe:w.frozen? { block:=b.block,off:=kB }=false) :
    (Extern.SlicesOverlaps.overlaps #[tS,tS] #[tR] #[.slice (some a) la ca,.slice (some b) lb cb]).run P w = .ok (.bool false) w:=by
  have hnb:(a.block != b.block)=true:=by simpa using hne
  have hnb':(a.block==b.block)=false:=by simpa using hne
  change Sem.run P (α := Value) (do
    let some t:=(#[tS,tS]:Array TypeId)[0]? | stuck "slices.overlaps: no parameter types"
    let .slice elem ← underlying t | stuck "slices.overlaps: slice type expected"
    let size ← sizeOf elem
    match (some a:Option Addr),(some b:Option Addr) with
    | some a, some b =>
      if la=0∨lb=0∨size=0 then pure (Value.bool false)
      else if a.block != b.block && (← frozen a) && (← frozen b) then unsupported .addressObserved
      else do
        if a.block != b.block then do
          noView a;noView b
          if ← mayBeOne a b then return Value.bool ((← choose (.extern "sameAddr.stringBytes" 2))==1)
        pure (Value.bool (a.block==b.block && a.off<b.off+lb*size && b.off<a.off+la*size))
    | _,_=>pure (Value.bool false)) w=_
  by_cases h0:la=0∨lb=0∨size=0
  · simp [run_underlying ht,hz,h0]
  · cases kA with
    | zero=>exact absurd rfl hkA
    | succ kA =>
      cases hfa:w.frozen? a <;> cases hfc:w.frozen? { block:=a.block,off:=kA+1 } <;>
      simp [run_underlying ht,hz,h0,hnb,hnb',frozen,noView,viewAt,mayBeOne,stringish,shape,Sem.run,hsa,hsb,hfb,hfe,hfa,hfc]
theorem shape_of_cell {w:World} {b j:Nat} {v:Value} (h:w.cell? ⟨b,j,none⟩=some v):∃ t k,w.shape? b=some (t,k)∧k≠0:=by
  unfold World.cell? at h
  cases hq:w.heap[b]? with
  | none=>simp [hq] at h
  | some o =>
    cases o with
    | cells c e fr =>
      simp only [hq] at h
      have:=(Array.getElem?_eq_some_iff.1 (by simpa using h)).1
      exact ⟨e,c.size,by simp [World.shape?,hq],by omega⟩
    | _=>simp [hq] at h
section
variable {P:Program} {Γ : Ground} {c:Cx} {f:Nat}
theorem kill_list (hH : RelH Γ c) {z : Bool} {k : Nat} {ob : AObj} (hob : c.obj z k = some ob) {w' : World} (ho : Only c.w w' (c.μ z k)) {b cap sz : Nat} (hb : c.μ z k = some b ∨ c.w.heap.size ≤ b) (hbw : b < w'.heap.size) {xs : List (List PV)} {us : List Value} (hc : xs.length ≤ cap) (hcm : cap ≤ maxLen)
    (hR:RowsRel c sz (lift xs) us) (hcell:∀ j v,us[j]? = some v→w'.cell? ⟨b,j,none⟩=some v) :
    Evolve c (c.set z k .dead none w')∧RelH Γ (c.set z k .dead none w')∧RelV (c.set z k .dead none w') (.p (.list xs)) (.slice (some ⟨b,0,none⟩) xs.length cap):=by
  obtain ⟨hE,hH'⟩:=hH.set .dead none hob ho.size ho.tape ho.os ho.output ho.keep (fun b hb=>by cases hb) (fun m hm=>by simp [AObj.cnt] at hm) (fun _=>trivial)
  refine ⟨hE,hH', ?_⟩
  have hNX:¬ c.X b:=by
    rcases hb with h | h
    · exact (hH.live z k b h).2.2.1
    · exact fun hx=>by have:=hH.xlt b hx;omega
  have hN:(c.set z k .dead none w').N b:=⟨hNX,fun ⟨z',k',h'⟩=>by
    simp only [Cx.set] at h'
    split at h'
    · cases h'
    · rename_i hne
      rcases hb with h | h
      · exact hne (hH.inj _ _ _ _ _ h' h)
      · have:=(hH.live z' k' b h').1
        omega⟩
  have hl1:∀ i (h:i<xs.length),(xs[i]).length=sz:=fun i h=>by simpa [lift] using hR.1 i (by simpa [lift] using h)
  have hv':∀ i j (hi:i<xs.length) (hj:j<sz),∃ v,us[i*sz+j]? = some v∧v.oneCell'=true∧RelP c.w c.N (xs[i][j]'(by rw [hl1 i hi];exact hj)) v:=fun i j hi hj=>by
    obtain ⟨v,v1,v2,v3⟩:=hR.2.2 i j (by simpa [lift] using hi) (by simpa [lift,hl1 i hi] using hj)
    refine ⟨v,v1,v2, ?_⟩
    simp only [lift,List.getElem_map] at v3
    exact relV_p v3
  refine .p _ _ (.list xs b 0 cap sz (fun i j=>match us[i*sz+j]? with | some v=>if v.oneCell'=true then v else .bool true | none => .bool true) hN hbw hc hcm hl1 (fun i j hi hj => ?_) (fun i j => ?_) (fun i j hi hj => ?_))
  · obtain ⟨v,v1,v2,v3⟩:=hv' i j hi hj
    simp only [v1,v2,if_true,Nat.zero_add]
    exact hcell _ _ v1
  · split
    · split
      · assumption
      · rfl
    · rfl
  · obtain ⟨v,v1,v2,v3⟩:=hv' i j hi (by rw [hl1 i hi] at hj;exact hj)
    simp only [v1,v2,if_true]
    exact hE.relP v3
theorem RowsRel.head {sz:Nat} {xs:List (List AV)} {a:List Value} (h:RowsRel c sz xs a) (i:Nat):RowsRel c sz (xs.take i) (a.take (i*sz)):=by
 refine ⟨fun q hq => ?_, ?_,fun q j hq hj => ?_⟩
 ·rw [List.getElem_take];exact h.1 _ _
 ·rw [List.length_take,List.length_take,Nat.min_def,Nat.min_def]
  have h2:=h.2.1
  split <;> split
  ·exact Nat.le_refl _
  ·rename_i h3 h4
   have:=Nat.mul_le_mul_right sz h3
   omega
  ·rename_i h3 h4
   exact Nat.mul_le_mul_right sz (by omega)
  ·exact h2
 ·rw [List.length_take] at hq
  have hj':j<(xs[q]'(by omega)).length:=by rw [List.getElem_take] at hj;exact hj
  obtain ⟨v,v1,v2,v3⟩:=h.2.2 q j (by omega) hj'
  refine ⟨v, ?_,v2,by simp only [List.getElem_take];exact v3⟩
  rw [List.getElem?_take,if_pos (row_lt (by omega) (by rw [h.1 q (by omega)] at hj';exact hj'))]
  exact v1
theorem RowsRel.tail {sz:Nat} {xs:List (List AV)} {a:List Value} (h:RowsRel c sz xs a) (i:Nat):RowsRel c sz (xs.drop i) (a.drop (i*sz)):=by
 refine ⟨fun q hq => ?_, ?_,fun q j hq hj => ?_⟩
 ·rw [List.getElem_drop];exact h.1 _ _
 ·rw [List.length_drop,List.length_drop,Nat.sub_mul]
  have:=h.2.1
  omega
 ·rw [List.length_drop] at hq
  have hj':j<(xs[i+q]'(by omega)).length:=by rw [List.getElem_drop] at hj;exact hj
  obtain ⟨v,v1,v2,v3⟩:=h.2.2 (i+q) j (by omega) hj'
  refine ⟨v, ?_,v2,by simp only [List.getElem_drop];exact v3⟩
  rw [List.getElem?_drop, ← v1]
  congr 1
  rw [Nat.add_mul]
  omega
theorem RowsRel.ones {sz:Nat} {xs:List (List AV)} {a:List Value} (h:RowsRel c sz xs a) (h0:0<sz) (v:Value) (hv:v ∈ a.take (xs.length*sz)):v.oneCell'=true:=by
 obtain ⟨j,hj⟩:=List.getElem?_of_mem hv
 rw [List.getElem?_take] at hj
 split at hj
 ·rename_i hlt
  have h1:j / sz<xs.length:=by rw [Nat.div_lt_iff_lt_mul h0];exact hlt
  obtain ⟨u,u1,u2,u3⟩:=h.2.2 (j / sz) (j % sz) h1 (by rw [h.1 _ h1];exact Nat.mod_lt _ h0)
  rw [Nat.mul_comm,Nat.div_add_mod,hj] at u1
  cases u1
  exact u2
 ·cases hj
theorem lift_append (a b:List (List PV)):lift (a++b)=lift a++lift b:=by simp [lift]
theorem lift_take (a:List (List PV)) (i:Nat):lift (a.take i)=(lift a).take i:=by simp [lift]
theorem lift_drop (a:List (List PV)) (i:Nat):lift (a.drop i)=(lift a).drop i:=by simp [lift]
theorem lift_length (a:List (List PV)):(lift a).length=a.length:=by simp [lift]
def InsSpec (P : Program) (f sz : Nat) : Prop := ∀ (A : Option Addr) (n cp i vb voff m vc : Nat) (cs vs : List Value) (w : World), i ≤ n → 0 < m → n ≤ cp → cp ≤ maxLen → (n + m) * 4096 ≤ 140737488355328 → cs.length = n * sz → vs.length = m * sz → (∀ v ∈ cs, v.oneCell' = true) → (∀ v ∈ vs, v.oneCell' = true) →
  ((A=none∧n=0∧cp=0)∨∃ (b:Nat) (arr:Array Value) (e:TypeId),A=some ⟨b,0,none⟩∧vb≠b∧w.heap[b]? = some (.cells arr e (0,0))∧arr.size=cp*sz∧∀ (j:Nat) (v:Value),cs[j]? = some v→arr[j]? = some v) →
  (∀ (j:Nat) (v:Value),vs[j]? = some v→w.cell? ⟨vb,voff+j,none⟩=some v) →
  Calls P f #[.slice A n cp,.int .i64 i,.slice (some ⟨vb,voff,none⟩) m vc] w fun e w'=>∃ B cap,e = .returned (.slice (some ⟨B,0,none⟩) (n+m) cap)∧n+m≤cap∧cap≤maxLen∧((∃ a,A=some a∧a.block=B)∨w.heap.size≤B)∧B<w'.heap.size∧Only w w' (A.map (·.block)) ∧
    ∀ (j:Nat) (v:Value),(cs.take (i*sz)++vs++cs.drop (i*sz))[j]? = some v→w'.cell? ⟨B,j,none⟩=some v
def pInsert (sz : Nat) (C : Calls') : List AV → List AObj → Option (AV × List AObj)
  | [.own true k n, .p (.int .i64 i), .p (.list vs)], g => match g[k]? with
    | some (.pcells s xs)=>if s=sz∧xs.length=n∧(vs.all fun v=>v.length==sz)=true∧0<vs.length∧0≤i∧i≤n∧(n+vs.length)*4096≤140737488355328 then some (.p (.list (xs.take i.toNat++vs++xs.drop i.toNat)),g.set k .dead) else none
    | _=>none
  | _,_=>none
theorem gOk_dead {g:List AObj} (h:gOk g) (k:Nat):gOk (g.set k .dead):=by
 intro ob hob
 rcases List.mem_or_eq_of_mem_set hob with h1 | h1
 ·exact h ob h1
 ·subst h1;rfl
theorem pInsert_ok {sz : Nat} (hcal : calleeOk P f = true) (h0 : 0 < sz) (hI : InsSpec P f sz) : PrimOk P Γ f (pInsert sz) := by
  intro C hC args g r g' hp hno hgo
  unfold pInsert at hp
  split at hp
  rotate_left
  · cases hp
  rename_i k n i vs
  split at hp
  rotate_left
  · cases hp
  rename_i s2 xs hg1
  split at hp
  rotate_left
  · cases hp
  rename_i hcond
  obtain ⟨rfl,rfl,hall,hm,hi0,hin,hbig⟩:=hcond
  simp only [Option.some.injEq,Prod.mk.injEq] at hp
  obtain ⟨rfl,rfl⟩:=hp
  refine ⟨hcal,gOk_dead hgo k,rfl,fun c us hl hgc hH hlen hrel => ?_⟩
  match us,hlen with
  | [u1,u2,u3],_=>
  subst hgc
  have r1:=hrel 0 (by simp) (by simp)
  have e2:=relV_int (hrel 1 (by simp) (by simp))
  have r3:=hrel 2 (by simp) (by simp)
  simp only [List.getElem_cons_zero,List.getElem_cons_succ] at r1 e2 r3
  subst e2
  have ho1:c.obj true k=some (.pcells s2 xs):=hg1
  obtain ⟨A,cap,rfl,hrow⟩:=row_now r1 ho1 rfl
  have hl2:(lift vs).length=vs.length:=by simp [lift]
  have hall':∀ i (h:i<(lift vs).length),((lift vs)[i]).length=s2:=fun i h=>by
    have:=all_len hall i (by simpa [lift] using h)
    simpa [lift] using this
  obtain ⟨b2,off2,cap2,f2,rfl,hN2,h6,h7,h8⟩:∃ (b2 off2 cap2:Nat) (f2:Nat→Nat→Value),u3 = .slice (some ⟨b2,off2,none⟩) vs.length cap2∧c.N b2∧(∀ i j,i<vs.length→j<s2→c.w.cell? ⟨b2,off2+(i*s2+j),none⟩=some (f2 i j))∧(∀ i j,(f2 i j).oneCell'=true) ∧
      (∀ i j (hi:i<(lift vs).length) (hj:j<((lift vs)[i]).length),RelV c ((lift vs)[i][j]) (f2 i j)):=by
    obtain ⟨A3,cap3,rfl,_,_,q3⟩:=relP_list (relV_p r3)
    obtain ⟨b,off,sz',f,rfl,h1,h2,h5,h6,h7,h8⟩:=q3 hm
    have e1:sz'=s2:=by rw [← h5 0 (by omega)];have:=hall' 0 (by omega);simpa [lift] using this
    subst e1
    refine ⟨b,off,cap3,f,rfl,h1,h6,h7,fun i j hi hj => ?_⟩
    simp only [lift,List.getElem_map] at hj ⊢
    exact .p _ _ (h8 i j (by simpa [lift] using hi) (by simpa using hj))
  have hV2:(laid vs.length s2 f2).length=vs.length*s2:=by simp [laid]
  have hRv:RowsRel c s2 (lift vs) (laid vs.length s2 f2):=⟨hall',by rw [hl2,hV2];exact Nat.le_refl _,fun i j hi hj=>⟨f2 i j,laid_get (by omega) (by rw [hall' i hi] at hj;exact hj),h7 i j,h8 i j hi hj⟩⟩
  have one2:∀ v ∈ laid vs.length s2 f2,v.oneCell'=true:=fun v hv=>by
    simp only [laid,List.mem_map] at hv
    obtain ⟨q,_,rfl⟩:=hv
    exact h7 _ _
  have hV:∀ (j:Nat) (v:Value),(laid vs.length s2 f2)[j]? = some v→c.w.cell? ⟨b2,off2+j,none⟩=some v:=fun j v hj=>by
    have hlt:j<vs.length*s2:=by rw [← hV2];exact (List.getElem?_eq_some_iff.1 hj).1
    simp only [laid,List.getElem?_map] at hj
    rw [List.getElem?_range hlt] at hj
    simp only [Option.map_some,Option.some.injEq] at hj
    subst hj
    have:=h6 (j / s2) (j % s2) (by rw [Nat.div_lt_iff_lt_mul h0];exact hlt) (Nat.mod_lt _ h0)
    rw [Nat.mul_comm,Nat.div_add_mod] at this
    exact this
  have fin:∀ (A:Option Addr) (cs:List Value),cs.length=xs.length*s2→RowsRel c s2 (lift xs) cs→A.map (·.block)=c.μ true k→Calls P f #[.slice A xs.length cap,.int .i64 (i.toNat:Nat),.slice (some ⟨b2,off2,none⟩) vs.length cap2] c.w (fun e w'=>∃ B cap,e = .returned (.slice (some ⟨B,0,none⟩) (xs.length+vs.length) cap)∧xs.length+vs.length≤cap∧cap≤maxLen∧((∃ a,A=some a∧a.block=B)∨c.w.heap.size≤B)∧B<w'.heap.size∧Only c.w w' (A.map (·.block)) ∧
    ∀ j v,(cs.take (i.toNat*s2)++laid vs.length s2 f2++cs.drop (i.toNat*s2))[j]? = some v→w'.cell? ⟨B,j,none⟩=some v) →
    Calls P f #[.slice A xs.length cap,.int .i64 i,.slice (some ⟨b2,off2,none⟩) vs.length cap2] c.w (fun e w'=>∃ v,e = .returned v∧Ans Γ c [] (c.g.set k .dead) (.p (.list (xs.take i.toNat++vs++xs.drop i.toNat))) v w'):=by
    intro A cs hcl hR hA hc
    have hii:((i.toNat:Nat):Int)=i:=by omega
    rw [hii] at hc
    refine Calls.mono hc (fun e w' he => ?_)
    obtain ⟨B,cap',rfl,q1,q2,q3,q4,q5,q6⟩:=he
    have hlen:(xs.take i.toNat++vs++xs.drop i.toNat).length=xs.length+vs.length:=by
      simp only [List.length_append,List.length_take,List.length_drop]
      omega
    have hmul:i.toNat*s2≤xs.length*s2:=Nat.mul_le_mul_right _ (by omega)
    have hall:RowsRel c s2 (lift (xs.take i.toNat++vs++xs.drop i.toNat)) (cs.take (i.toNat*s2)++laid vs.length s2 f2++cs.drop (i.toNat*s2)):=by
      rw [lift_append,lift_append,lift_take,lift_drop]
      have a1:(cs.take (i.toNat*s2)).length=((lift xs).take i.toNat).length*s2:=by
        rw [List.length_take,List.length_take,lift_length,hcl,Nat.min_eq_left hmul,Nat.min_eq_left (by omega)]
      refine RowsRel.append (RowsRel.append (hR.head _) a1 hRv) ?_ (hR.tail _)
      rw [List.length_append,List.length_append,Nat.add_mul,a1,hV2,hl2]
    have hb:c.μ true k=some B∨c.w.heap.size≤B:=by
      rcases q3 with ⟨a,e,rfl⟩ | h
      · rw [← hA,e];exact .inl rfl
      · exact .inr h
    obtain ⟨t1,t2,t3⟩:=kill_list hH ho1 (by rw [← hA];exact q5) hb q4 (by rw [hlen];exact q1) q2 hall q6
    rw [hlen] at t3
    exact ⟨_,rfl,c.set true k .dead none w',by simpa [Cx.set] using hl,by simp [Cx.set],rfl,t1,t2,t3⟩
  rcases hrow with ⟨q0,h0',rfl,rfl⟩ | ⟨b,arr,e,q1,rfl,q3,q4,q5,q6⟩
  · have hx:xs=[]:=List.eq_nil_of_length_eq_zero h0'
    subst hx
    refine fin none [] (by simp) ⟨by simp [lift],by simp [lift],fun i j hi=>by simp [lift] at hi⟩ (by rw [q0];rfl) ?_
    exact hI none 0 0 i.toNat b2 off2 vs.length cap2 [] _ c.w (by simp at hin;omega) hm (Nat.le_refl _) (by simp [maxLen]) hbig (by simp) hV2 (by simp) one2 (.inl ⟨rfl,rfl,rfl⟩) hV
  · have hR1:RelRow c (c.μ true k) s2 (lift xs):=hH.objs true k _ ho1
    rw [q1] at hR1
    obtain ⟨arr',e',hh,hrows⟩:=relRow_rows hR1
    rw [q5] at hh
    cases hh
    have hlx:(lift xs).length=xs.length:=by simp [lift]
    have hCl:(arr.toList.take (xs.length*s2)).length=xs.length*s2:=by
      have:=hrows.2.1
      rw [hlx] at this
      rw [List.length_take]
      omega
    have hRx:=hrows.take
    rw [hlx] at hRx
    have one1:=hrows.ones h0
    rw [hlx] at one1
    refine fin (some ⟨b,0,none⟩) (arr.toList.take (xs.length*s2)) hCl hRx (by rw [q1];rfl) ?_
    exact hI _ xs.length cap i.toNat b2 off2 vs.length cap2 _ _ c.w (by omega) hm q3 q4 hbig hCl hV2 one1 one2 (.inr ⟨b,arr,_,rfl,fun e=>by
      subst e
      exact hN2.2 ⟨true,k,q1⟩,q5,by simpa [AObj.sz] using q6,fun j v hj=>by
      rw [List.getElem?_take] at hj
      split at hj
      · simpa using hj
      · cases hj⟩) hV
def thaw : AV → List AObj → Option (AV × List AObj)
  | .nils,g=>some (.p (.list []),g)
  | .own true k n, g => match g[k]? with
    | some (.pcells _ xs)=>if xs.length=n then some (.p (.list xs),g.set k .dead) else none
    | _=>none
  | v,g=>some (v,g)
def pCloneT (sz:Nat) (C:Calls'):List AV→List AObj→Option (AV × List AObj)
 | [a],g=>bk (thaw a g) fun x=>pClone sz C [x.1] x.2
 | _,_=>none
theorem pCloneT_ok {sz:Nat} (h:PrimOk P Γ f (pClone sz)):PrimOk P Γ f (pCloneT sz):=by
 intro C hC args g r g' hp hno hgo
 unfold pCloneT at hp
 split at hp
 rotate_left
 ·cases hp
 rename_i a
 obtain ⟨⟨a',g1⟩,h1,h2⟩:=bk_eq hp
 unfold thaw at h1
 split at h1
 ·simp only [Option.some.injEq,Prod.mk.injEq] at h1
  obtain ⟨rfl,rfl⟩:=h1
  obtain ⟨q1,q2,q3,q4⟩:=h C hC _ _ r g' h2 rfl hgo
  refine ⟨q1,q2,q3,fun c vs hl hg hH hlen hrel=>q4 c vs hl hg hH hlen (fun j hj h' => ?_)⟩
  have hj0:j=0:=by simp at hj;omega
  subst hj0
  have hr:=hrel 0 (by simp) h'
  simp only [List.getElem_cons_zero] at hr ⊢
  generalize vs[0]=v at hr
  cases hr
  exact .p _ _ (.none none 0 (by simp [maxLen]))
 ·rename_i k n
  split at h1
  rotate_left
  ·cases h1
  rename_i s xs hob
  split at h1
  rotate_left
  ·cases h1
  rename_i hn
  simp only [Option.some.injEq,Prod.mk.injEq] at h1
  obtain ⟨rfl,rfl⟩:=h1
  subst hn
  obtain ⟨q1,q2,q3,q4⟩:=h C hC _ _ r g' h2 rfl (gOk_dead hgo k)
  refine ⟨q1,q2,q3,fun c vs hl hg hH hlen hrel => ?_⟩
  subst hg
  have hob1:c.obj true k=some (.pcells s xs):=hob
  have h0:0<vs.length:=by rw [← hlen];simp
  have hr:=hrel 0 (by simp) h0
  simp only [List.getElem_cons_zero] at hr
  obtain ⟨t1,t2,t3⟩:=freeze_rel hH hob1 hr
  refine Calls.mono (q4 (c.set true k .dead none c.w) vs (by simpa [Cx.set] using hl) (by simp [Cx.set]) t2 hlen (fun j hj h' => ?_)) (fun e w' he => ?_)
  ·have hj0:j=0:=by simp at hj;omega
   subst hj0
   exact .p _ _ t3
  ·obtain ⟨v,rfl,c',e1,e2,e3,hE,hH',hv⟩:=he
   exact ⟨v,rfl,c',e1,e2,e3,t1.trans hE,hH',hv⟩
 ·simp only [Option.some.injEq,Prod.mk.injEq] at h1
  obtain ⟨rfl,rfl⟩:=h1
  exact h C hC _ _ r g' h2 hno hgo
end
end Go.TA


end
section
/- slices.Sort on a row of numbers of one's own, told at once. -/
namespace Go.TA
open Go.RowKit Go.Sort
def intOf:List PV→Option Int
 | [.int .i64 z]=>some z
 | _=>none
def sortI (zs:List Int):List Int:=zs.mergeSort fun x y=>decide (x≤y)
def cellI (z:Int):List PV:=[.int .i64 z]
def pSort (C : Calls') : List AV → List AObj → Option (AV × List AObj)
  | [.own true k n], g => match g[k]? with
    | some (.pcells s xs)=>if s=1∧xs.length=n∧n<4611686018427387904 then bk (allM intOf xs) fun zs=>some (.tuple [],g.set k (.pcells 1 ((sortI zs).map cellI))) else none
    | _=>none
  | _,_=>none
theorem intOf_some {r:List PV} {z:Int} (h:intOf r=some z):r=cellI z:=by
 unfold intOf at h
 split at h
 ·simp at h;subst h;rfl
 ·cases h
theorem ints_of {xs:List (List PV)} {zs:List Int} (h:allM intOf xs=some zs):xs=zs.map cellI:=by
  induction xs generalizing zs with
  | nil=>simp [allM] at h;subst h;rfl
  | cons r xs ih =>
    simp only [allM] at h
    obtain ⟨z,h1,h⟩:=bk_eq h
    obtain ⟨zs',h2,h⟩:=bk_eq h
    simp at h
    subst h
    rw [intOf_some h1,ih h2];rfl
theorem sortI_len (zs:List Int):(sortI zs).length=zs.length:=by simp [sortI]
theorem putRow_heap {w:World} {b:Nat} {cs:Array Value} {e:TypeId} (d:Array Int) (hh:w.heap[b]? = some (.cells cs e (0,0))):(putRow (Value.int .i64) w b 0 d).heap[b]? = some (.cells (putCells (Value.int .i64) 0 d cs) e (0,0)):=by
 simp [putRow,mapBlock,Array.getElem?_modify,hh,onCells]
theorem putRow_away {w:World} {b b':Nat} (d:Array Int) (hne:b≠b'):(putRow (Value.int .i64) w b 0 d).heap[b']? = w.heap[b']? := by
 simp [putRow,mapBlock,Array.getElem?_modify,hne]
theorem putCells_get (d:List Int) (cs:Array Value) (hd:d.length≤cs.size) (j:Nat) (hj:j<d.length):(putCells (Value.int .i64) 0 d.toArray cs)[j]? = some (.int .i64 d[j]):=by
 unfold putCells
 rw [Array.getElem?_mapIdx]
 have hjc:j<cs.size:=by omega
 rw [Array.getElem?_eq_getElem hjc]
 simp [hj]
section
variable {P:Program} {Γ : Ground} {f:Nat}
theorem pSort_ok (hcal : calleeOk P f = true)
    (h1:∀ (blk cap:Nat) (zs:List Int) (w:World),Holds (Value.int .i64) w blk 0 zs.toArray→blk<w.heap.size→zs.length<4611686018427387904 →
      Calls P f #[.slice (some ⟨blk,0,none⟩) zs.length cap] w fun e w'=>e = .returned (.tuple #[])∧∃ n os,w'=grow (putRow (Value.int .i64) (Sort.ahead w n) blk 0 (sortI zs).toArray) os)
    (h0:∀ (p:Option Addr) (cap:Nat) (w:World),Calls P f #[.slice p 0 cap] w fun e w'=>e = .returned (.tuple #[])∧w'=w):PrimOk P Γ f pSort:=by
  intro C hC args g r g' hp hno hgo
  unfold pSort at hp
  split at hp
  rotate_left
  · cases hp
  rename_i k n
  split at hp
  rotate_left
  · cases hp
  rename_i s xs hg1
  split at hp
  rotate_left
  · cases hp
  rename_i hcond
  obtain ⟨rfl,rfl,hbig⟩:=hcond
  obtain ⟨zs,hzs,hp⟩:=bk_eq hp
  simp only [Option.some.injEq,Prod.mk.injEq] at hp
  obtain ⟨rfl,rfl⟩:=hp
  have hxs:=ints_of hzs
  have hxl:xs.length=zs.length:=by rw [hxs];simp
  refine ⟨hcal, ?_,rfl,fun c us hl hgc hH hlen hrel => ?_⟩
  · intro ob hob
    rcases List.mem_or_eq_of_mem_set hob with h | h
    · exact hgo ob h
    · subst h;rfl
  match us,hlen with
  | [u],_=>
  subst hgc
  have r1:=hrel 0 (by simp) (by simp)
  simp only [List.getElem_cons_zero] at r1
  have ho1:c.obj true k=some (.pcells 1 xs):=hg1
  obtain ⟨A,cap,rfl,hrow⟩:=row_now r1 ho1 rfl
  rcases hrow with ⟨q0,hn0,rfl,rfl⟩ | ⟨b,cs,e,q1,rfl,q3,q4,q5,q6⟩
  · have hz:zs=[]:=List.eq_nil_of_length_eq_zero (by omega)
    subst hz
    have hx0:xs=[]:=by rw [hxs];rfl
    subst hx0
    have hset:c.g.set k (.pcells 1 ((sortI []).map cellI))=c.g:=by
      apply List.ext_getElem?
      intro j
      rw [List.getElem?_set]
      split
      · rename_i e2;subst e2
        rw [if_pos (List.getElem?_eq_some_iff.1 hg1).1,hg1];simp [sortI]
      · rfl
    rw [hset]
    refine Calls.mono (h0 none 0 c.w) (fun e w' he => ?_)
    obtain ⟨rfl,rfl⟩:=he
    exact ⟨_,rfl,c,hl,rfl,rfl,Evolve.refl c,hH,.tuple [] [] rfl (by simp)⟩
  · have hR:=hH.objs true k _ ho1
    simp only [RelObj,q1] at hR
    obtain ⟨hw,hR⟩:=hR
    rcases hR with ⟨hm,_⟩ | ⟨b',cs',e',hb',hh',hsz,hcell⟩
    · cases hm
    cases hb'
    rw [q5] at hh'
    cases hh'
    have hlx:(lift xs).length=xs.length:=by simp [lift]
    rw [hlx,Nat.mul_one] at hsz
    have hc:∀ j,j<zs.length→cs[j]? = some (.int .i64 (zs[j]!)):=fun j hj=>by
      have hj':j<(lift xs).length:=by omega
      have e1:(lift xs)[j]=[.p (.int .i64 zs[j])]:=by simp [lift,hxs,cellI]
      obtain ⟨v,v1,v2,v3⟩:=hcell j 0 hj' (by rw [e1];simp)
      have e2:((lift xs)[j])[0]'(by rw [e1];simp) = .p (.int .i64 zs[j]):=by simp [e1]
      rw [e2] at v3
      have:=relV_int v3
      subst this
      simpa [hj] using v1
    have hH2:Holds (Value.int .i64) c.w b 0 zs.toArray:=fun j hj=>by
      have hj':j<zs.length:=by simpa using hj
      refine ⟨?_,by simp [World.frozen?,q5]⟩
      simp only [World.cell?,q5,Nat.zero_add]
      rw [hc j hj']
      simp
    have hlt:b<c.w.heap.size:=(Array.getElem?_eq_some_iff.1 q5).1
    have hcall:=h1 b cap zs c.w hH2 hlt (by omega)
    rw [hxl]
    refine Calls.mono hcall (fun e1 w' he => ?_)
    obtain ⟨rfl,nn,os,rfl⟩:=he
    have hput:=putRow_heap (w:=Sort.ahead c.w nn) (sortI zs).toArray q5
    have hps:(putRow (Value.int .i64) (Sort.ahead c.w nn) b 0 (sortI zs).toArray).heap.size=c.w.heap.size:=by simp [putRow,mapBlock,Sort.ahead]
    have hleft:∀ j,j<c.w.heap.size→(grow (putRow (Value.int .i64) (Sort.ahead c.w nn) b 0 (sortI zs).toArray) os).heap[j]? = (putRow (Value.int .i64) (Sort.ahead c.w nn) b 0 (sortI zs).toArray).heap[j]? := fun j hj=>by
      simp only [grow]
      rw [Array.getElem?_append_left (by omega)]
    have hsetb:(grow (putRow (Value.int .i64) (Sort.ahead c.w nn) b 0 (sortI zs).toArray) os).heap[b]? = some (.cells (putCells (Value.int .i64) 0 (sortI zs).toArray cs) e (0,0)):=by
      rw [hleft b hlt];exact hput
    have hcsz:(putCells (Value.int .i64) 0 (sortI zs).toArray cs).size=cs.size:=by simp [putCells]
    have hsl:=sortI_len zs
    obtain ⟨hE,hH'⟩:=hH.set (.pcells 1 ((sortI zs).map cellI)) (some b) (w':=grow (putRow (Value.int .i64) (Sort.ahead c.w nn) b 0 (sortI zs).toArray) os) ho1 (by simp [grow]) rfl rfl rfl (fun b' hb' hne=>by
      rw [hleft b' hb',putRow_away _ (fun e=>hne (by rw [q1,e]))];rfl) (fun b' e'=>⟨.inl (by cases e';exact q1),by simp [AObj.cnt]⟩) (fun m' hm'=>by
      simp only [AObj.cnt,List.length_map,Option.some.injEq] at hm'
      refine ⟨xs.length,rfl,by omega,rfl,fun _=>⟨⟨q1.symm,fun b' cs1 e1 h1 h2 => ?_⟩,rfl⟩⟩
      rw [q1] at h1
      cases h1
      rw [q5] at h2
      cases h2
      exact ⟨_,hsetb,hcsz⟩) (fun hE=>by
      have hμ : (c.set true k (.pcells 1 ((sortI zs).map cellI)) (some b) (grow (putRow (Value.int .i64) (Sort.ahead c.w nn) b 0 (sortI zs).toArray) os)).μ true k=some b:=by simp [Cx.set]
      simp only [RelObj,hμ]
      refine ⟨fun i hi=>by simp [lift,cellI],.inr ⟨b,_,e,rfl,hsetb,by simp [lift,hcsz];omega,fun i j hi hj => ?_⟩⟩
      have hi':i<(sortI zs).length:=by simpa [lift] using hi
      have e1:(lift ((sortI zs).map cellI))[i]=[.p (.int .i64 (sortI zs)[i])]:=by simp [lift,cellI]
      have hj0:j=0:=by rw [e1] at hj;simp at hj;exact hj
      subst hj0
      refine ⟨.int .i64 (sortI zs)[i], ?_,rfl, ?_⟩
      · simp only [Nat.mul_one,Nat.add_zero]
        exact putCells_get _ _ (by omega) i hi'
      · simp only [e1,List.getElem_cons_zero]
        exact .p _ _ (.int _ _))
    exact ⟨_,rfl,c.set true k (.pcells 1 ((sortI zs).map cellI)) (some b) (grow (putRow (Value.int .i64) (Sort.ahead c.w nn) b 0 (sortI zs).toArray) os),by simpa [Cx.set] using hl,by simp [Cx.set],rfl,hE,hH',.tuple [] [] rfl (by simp)⟩
end
end Go.TA


end
section
/- The handles above a row. Plain. -/
namespace Go.TA
def upAt (l:List GRow) (x:Nat):Nat:=((l[x - 1]?).map (fun r=>r.up.toNat)).getD 0
def standTo (l:List GRow) (i:Nat):Prop:=∀ (j:Nat) x,j<i→l[j]? = some x→0≤x.up∧x.up≤j
def anc (l:List GRow):Nat→Nat→List Nat
 | 0,_=>[]
 | _+1,0=>[]
 | f+1,x+1=>(x+1)::anc l f (upAt l (x+1))
def chain (l:List GRow) (x:Nat):List Nat:=anc l x x
theorem chain_zero (l:List GRow):chain l 0=[]:=rfl
theorem upAt_le {l:List GRow} {i x:Nat} (h:standTo l i) (hx:x<i) (hl:x<l.length):upAt l (x+1)≤x:=by
 obtain ⟨r,hr⟩:=get_some hl
 have:=h x r hx hr
 simp [upAt,hr]
 omega
theorem anc_fuel {l : List GRow} {i : Nat} (h : standTo l i) (hi : i ≤ l.length) : ∀ (x f : Nat), x ≤ i → x ≤ f → anc l f x = anc l x x := by
  intro x
  induction x using Nat.strongRecOn with
  | _ x ih =>
    intro f hx hf
    cases x with
    | zero=>cases f <;> rfl
    | succ x =>
      cases f with
      | zero=>omega
      | succ f =>
        simp only [anc]
        have hu:=upAt_le h (x:=x) (by omega) (by omega)
        rw [ih _ (by omega) f (by omega) (by omega),ih _ (by omega) x (by omega) (by omega)]
theorem chain_succ {l:List GRow} {i x:Nat} (h:standTo l i) (hi:i≤l.length) (hx:x<i):chain l (x+1)=(x+1)::chain l (upAt l (x+1)):=by
 have hu:=upAt_le h hx (by omega)
 unfold chain
 simp only [anc]
 rw [anc_fuel h hi _ x (by omega) hu]
theorem chain_pos {l:List GRow}:∀ {f x:Nat} {y:Nat},y ∈ anc l f x→0<y
  | 0,_,_,h=>by simp [anc] at h
  | f+1,0,_,h=>by simp [anc] at h
  | f + 1, x + 1, y, h => by
    simp only [anc,List.mem_cons] at h
    rcases h with rfl | h
    · omega
    · exact chain_pos h
theorem chain_le {l : List GRow} {i : Nat} (h : standTo l i) (hi : i ≤ l.length) : ∀ (x : Nat), x ≤ i → ∀ y ∈ chain l x, y ≤ x := by
  intro x
  induction x using Nat.strongRecOn with
  | _ x ih =>
    intro hx y hy
    cases x with
    | zero=>simp [chain_zero] at hy
    | succ x =>
      rw [chain_succ h hi hx] at hy
      have hu:=upAt_le h (x:=x) (by omega) (by omega)
      rcases List.mem_cons.1 hy with rfl | hy
      · omega
      · have:=ih _ (by omega) (by omega) y hy
        omega
theorem standTo.mono {l:List GRow} {i j:Nat} (h:standTo l i) (hij:j≤i):standTo l j:=fun k x hk hx=>h k x (by omega) hx
def aboveB (l:List GRow) (x:Nat) (h:Int):Bool:=(chain l x).any fun y=>(y:Int)==h
def rowOkB (l:List GRow) (i:Nat) (x:GRow):Bool:=if i=0 then x.up==0 else decide (1≤x.up) && aboveB l i x.up
def formedFrom (l:List GRow):Nat→List GRow→Bool
 | _,[]=>true
 | i,x::r=>rowOkB l i x && formedFrom l (i+1) r
def formedB (l:List GRow):Bool:=formedFrom l 0 l
theorem row_stands {l:List GRow} {i:Nat} {x:GRow} (h:standTo l i) (hi:i≤l.length) (hx:l[i]? = some x) (hr:rowOkB l i x=true):standTo l (i+1):=by
 intro j y hj hy
 by_cases e:j=i
 ·subst e
  rw [hx] at hy
  cases hy
  unfold rowOkB at hr
  split at hr
  ·rename_i h0
   subst h0
   have:x.up=0:=by simpa using hr
   omega
  ·simp only [Bool.and_eq_true,decide_eq_true_eq,aboveB,List.any_eq_true,beq_iff_eq] at hr
   obtain ⟨h1,y,hy,he⟩:=hr
   have:=chain_le h hi j (Nat.le_refl _) y hy
   omega
 ·exact h j y (by omega) hy
theorem standTo_zero (l:List GRow):standTo l 0:=fun j x hj=>by omega
theorem above_up {l:List GRow} {x:Nat} {h:Int} (ha:aboveB l x h=true):0<h:=by
 simp only [aboveB,List.any_eq_true,beq_iff_eq] at ha
 obtain ⟨y,hy,he⟩:=ha
 have:=chain_pos hy
 omega
theorem formed_drop {l:List GRow}:∀ {i:Nat},formedFrom l i (l.drop i)=true→∀ (j:Nat) x,i≤j→l[j]? = some x→rowOkB l j x=true:=by
  intro i h j x hij hj
  obtain ⟨d,rfl⟩:∃ d,j=i+d:=⟨j - i,by omega⟩
  induction d generalizing i with
  | zero =>
    have e:l.drop i=x::l.drop (i+1):=by rw [List.drop_eq_getElem?_toList_append];simp at hj;rw [hj];rfl
    rw [e] at h
    simp only [formedFrom,Bool.and_eq_true] at h
    simpa using h.1
  | succ d ih =>
    have hlt:i<l.length:=by
      have:=(List.getElem?_eq_some_iff.1 hj).1
      omega
    obtain ⟨y,hy⟩:=get_some hlt
    have e:l.drop i=y::l.drop (i+1):=by rw [List.drop_eq_getElem?_toList_append,hy];rfl
    rw [e] at h
    simp only [formedFrom,Bool.and_eq_true] at h
    have:=ih h.2 (by omega) (by rw [← hj];congr 1;omega)
    rw [show i+(d+1)=i+1+d by omega]
    exact this
theorem formed_stands {l:List GRow} (h:formedB l=true):standTo l l.length:=by
  have hr:=formed_drop (i:=0) (by simpa [formedB] using h)
  have key:∀ i,i≤l.length→standTo l i:=by
    intro i
    induction i with
    | zero=>intro _;exact standTo_zero l
    | succ i ih =>
      intro hi
      obtain ⟨x,hx⟩:=get_some (show i<l.length by omega)
      exact row_stands (ih (by omega)) (by omega) hx (hr i x (by omega) hx)
  exact key _ (Nat.le_refl _)
end Go.TA


end
section
/- The machine's memory: its nodes, and their kids' rows. Plain. -/
namespace Go.TA
structure MNode where
 live:Bool
 up:Int
 tag:Bs
 key:Bs
 text:Bs
 attrs:List Attr
def nodeAV (s:MNode) (k:AV):List AV:=[.p (.bool s.live),.p (.int .i64 s.up),k,.p (.str s.tag),.p (.str s.key),.p (.str s.text),.p (.list (s.attrs.map Attr.pv))]
def rowsAV (N:Nat) (st:Nat→MNode) (av:Nat→AV):List (List AV):=(List.range N).map fun h=>nodeAV (st h) (av h)
def upd {α : Type} (f:Nat → α) (h:Nat) (v : α):Nat → α := fun k=>if k=h then v else f k
theorem upd_at {α : Type} (f:Nat → α) (h:Nat) (v : α):upd f h v h=v:=by simp [upd]
theorem upd_ne {α : Type} {f:Nat → α} {h k:Nat} {v : α} (hk:k≠h):upd f h v k=f k:=by simp [upd,hk]
section
variable {N:Nat} {st:Nat→MNode} {av:Nat→AV}
theorem rowsAV_len:(rowsAV N st av).length=N:=by simp [rowsAV]
theorem rowsAV_get {h:Nat} (hh:h<N):(rowsAV N st av).getD h []=nodeAV (st h) (av h):=by
 rw [List.getD_eq_getElem?_getD,rowsAV,List.getElem?_map,List.getElem?_range hh];rfl
theorem rowsAV_push (s:MNode) (a:AV):rowsAV N st av++[nodeAV s a]=rowsAV (N+1) (upd st N s) (upd av N a):=by
 simp only [rowsAV,List.range_succ,List.map_append,List.map_cons,List.map_nil,upd_at]
 congr 1
 apply List.map_congr_left
 intro h hh
 have:h≠N:=by have:=List.mem_range.1 hh;omega
 simp [upd,this]
theorem rowsAV_set {h:Nat} (hh:h<N) (s:MNode) (a:AV):(rowsAV N st av).set h (nodeAV s a)=rowsAV N (upd st h s) (upd av h a):=by
 apply List.ext_getElem
 ·simp [rowsAV]
 ·intro k h1 h2
  rw [List.getElem_set]
  simp only [rowsAV,List.getElem_map,List.getElem_range]
  by_cases e:h=k
  ·subst e;simp [upd]
  ·rw [if_neg e]
   have e':k≠h:=fun e'=>e e'.symm
   simp [upd,e']
theorem rowsAV_congr {st':Nat→MNode} {av':Nat→AV} (h:∀ k,k<N→st k=st' k∧av k=av' k):rowsAV N st av=rowsAV N st' av':=by
 unfold rowsAV
 apply List.map_congr_left
 intro k hk
 obtain ⟨h1,h2⟩:=h k (List.mem_range.1 hk)
 rw [h1,h2]
end
def refOf:AV→Option Nat
 | .own true k _=>some k
 | _=>none
inductive KRep (rest:List AObj):AV→List Int→Prop
 | none:KRep rest .nils []
 | own {r:Nat} {ks:List Int}:rest[r]? = some (.pcells 1 (intsPV ks))→KRep rest (.own true (r+1+1) ks.length) ks
 | list {ks:List Int}:KRep rest (.p (.list (intsPV ks))) ks
structure MOk (N:Nat) (av:Nat→AV) (kd:Nat→List Int) (rest:List AObj):Prop where
 kids:∀ h,h<N→KRep rest (av h) (kd h)
 disj:∀ h h',h<N→h'<N→h≠h'→refOf (av h)=none∨refOf (av h)≠refOf (av h')
def machG (N:Nat) (st:Nat→MNode) (av:Nat→AV) (rest:List AObj):List AObj:=.cells 7 (rowsAV N st av) :: .cells 1 [[.own true 0 N]]::rest
section
variable {N:Nat} {st:Nat→MNode} {av:Nat→AV} {kd:Nat→List Int} {rest:List AObj}
theorem KRep.inv {a:AV} {ks:List Int} (h:KRep rest a ks):(a = .nils∧ks=[])∨(∃ r,a = .own true (r+1+1) ks.length∧rest[r]? = some (.pcells 1 (intsPV ks)))∨a = .p (.list (intsPV ks)):=by
 cases h with
 | none=>exact .inl ⟨rfl,rfl⟩
 | own h=>exact .inr (.inl ⟨_,rfl,h⟩)
 | list=>exact .inr (.inr rfl)
theorem KRep.more {a:AV} {ks:List Int} (h:KRep rest a ks) (r:List AObj):KRep (rest++r) a ks:=by
 cases h with
 | none=>exact .none
 | own h=>exact .own (by rw [List.getElem?_append_left (List.getElem?_eq_some_iff.1 h).1];exact h)
 | list=>exact .list
theorem KRep.set {a:AV} {ks:List Int} (h:KRep rest a ks) {r:Nat} {o:AObj} (hr:refOf a≠some (r+1+1)):KRep (rest.set r o) a ks:=by
  cases h with
  | none=>exact .none
  | own h =>
    refine .own ?_
    rw [List.getElem?_set,if_neg (fun e=>hr (by rw [e];rfl))]
    exact h
  | list=>exact .list
theorem KRep.ref_lt {a:AV} {ks:List Int} (h:KRep rest a ks) {k:Nat} (hk:refOf a=some k):k<rest.length+1+1:=by
  cases h with
  | none=>cases hk
  | own h =>
    simp only [refOf,Option.some.injEq] at hk
    have:=(List.getElem?_eq_some_iff.1 h).1
    omega
  | list=>cases hk
theorem MOk.push (h : MOk N av kd rest) : MOk (N + 1) (upd av N .nils) (upd kd N []) rest where
  kids k hk:=by
    by_cases e:k=N
    · subst e;rw [upd_at,upd_at];exact .none
    · rw [upd_ne e,upd_ne e];exact h.kids k (by omega)
  disj k k' hk hk' hne:=by
    by_cases e:k=N
    · subst e;left;rw [upd_at];rfl
    · rw [upd_ne e]
      by_cases e':k'=N
      · subst e'
        rw [upd_at]
        cases hr:refOf (av k) with
        | none=>exact .inl rfl
        | some q=>exact .inr (by simp [refOf])
      · rw [upd_ne e'];exact h.disj k k' (by omega) (by omega) hne
theorem MOk.fresh (h : MOk N av kd rest) {u : Nat} (hu : u < N) (ks : List Int) : MOk N (upd av u (.own true (rest.length + 1 + 1) ks.length)) (upd kd u ks) (rest ++ [.pcells 1 (intsPV ks)]) where
  kids k hk:=by
    by_cases e:k=u
    · subst e;rw [upd_at,upd_at];exact .own (by simp)
    · rw [upd_ne e,upd_ne e];exact (h.kids k hk).more _
  disj k k' hk hk' hne:=by
    by_cases e:k=u
    · subst e
      rw [upd_at,upd_ne (fun e=>hne e.symm)]
      right
      intro he
      have:=(h.kids k' hk').ref_lt (k:=rest.length+1+1) he.symm
      omega
    · rw [upd_ne e]
      by_cases e':k'=u
      · subst e'
        rw [upd_at]
        cases hr:refOf (av k) with
        | none=>exact .inl rfl
        | some q =>
          right
          have:=(h.kids k hk).ref_lt hr
          simp only [refOf,ne_eq,Option.some.injEq]
          omega
      · rw [upd_ne e'];exact h.disj k k' hk hk' hne
theorem MOk.turn (h : MOk N av kd rest) {u r : Nat} (hu : u < N) (hr : av u = .own true (r + 1 + 1) (kd u).length) (hrl : r < rest.length) (ks : List Int) : MOk N (upd av u (.own true (r + 1 + 1) ks.length)) (upd kd u ks) (rest.set r (.pcells 1 (intsPV ks))) where
  kids k hk:=by
    by_cases e:k=u
    · subst e;rw [upd_at,upd_at];exact .own (by simp [List.getElem?_set,hrl])
    · rw [upd_ne e,upd_ne e]
      refine (h.kids k hk).set ?_
      rcases h.disj k u hk hu e with h1 | h1
      · rw [h1];simp
      · rw [hr] at h1;exact h1
  disj k k' hk hk' hne:=by
    have e0:∀ ks:List Int,refOf (AV.own true (r+1+1) ks.length)=refOf (av u):=fun ks=>by rw [hr];rfl
    by_cases e:k=u
    · subst e
      rw [upd_at,upd_ne (fun e=>hne e.symm),e0]
      exact h.disj k k' hk hk' hne
    · rw [upd_ne e]
      by_cases e':k'=u
      · subst e'
        rw [upd_at,e0]
        exact h.disj k k' hk hk' hne
      · rw [upd_ne e'];exact h.disj k k' hk hk' hne
theorem MOk.fix (h : MOk N av kd rest) {u : Nat} (hu : u < N) (ks : List Int) : MOk N (upd av u (.p (.list (intsPV ks)))) (upd kd u ks) rest where
  kids k hk:=by
    by_cases e:k=u
    · subst e;rw [upd_at,upd_at];exact .list
    · rw [upd_ne e,upd_ne e];exact h.kids k hk
  disj k k' hk hk' hne:=by
    by_cases e:k=u
    · subst e;left;rw [upd_at];rfl
    · rw [upd_ne e]
      by_cases e':k'=u
      · subst e'
        rw [upd_at]
        cases hr:refOf (av k) with
        | none=>exact .inl rfl
        | some q=>exact .inr (by simp [refOf])
      · rw [upd_ne e'];exact h.disj k k' hk hk' hne
end
structure Fr (N:Nat) (av:Nat→AV) (rest:List AObj) (N':Nat) (av':Nat→AV) (rest':List AObj):Prop where
 len:rest.length≤rest'.length
 keep:∀ j,j<rest.length→(∀ h,h<N→refOf (av h)≠some (j+1+1))→rest'[j]? = rest[j]?
 refs:∀ h,h<N'→∀ j,refOf (av' h)=some (j+1+1)→j<rest.length→∃ h0,h0<N∧refOf (av h0)=some (j+1+1)
theorem Fr.refl (N:Nat) (av:Nat→AV) (rest:List AObj):Fr N av rest N av rest:=⟨Nat.le_refl _,fun _ _ _=>rfl,fun h hh j hj _=>⟨h,hh,hj⟩⟩
theorem Fr.trans {N N' N'':Nat} {av av' av'':Nat→AV} {rest rest' rest'':List AObj} (h1:Fr N av rest N' av' rest') (h2:Fr N' av' rest' N'' av'' rest''):Fr N av rest N'' av'' rest'' where
 len:=Nat.le_trans h1.len h2.len
 keep j hj hn:=by
  rw [h2.keep j (Nat.lt_of_lt_of_le hj h1.len) (fun h hh e=>by
   obtain ⟨h0,hh0,e0⟩:=h1.refs h hh j e hj
   exact hn h0 hh0 e0)]
  exact h1.keep j hj hn
 refs h hh j hj hl:=by
  obtain ⟨h1',hh1,e1⟩:=h2.refs h hh j hj (Nat.lt_of_lt_of_le hl h1.len)
  exact h1.refs h1' hh1 j e1 hl
theorem Fr.more (N:Nat) (av:Nat→AV) (rest more:List AObj):Fr N av rest N av (rest++more):=⟨by simp,fun j hj _=>List.getElem?_append_left hj,fun h hh j hj _=>⟨h,hh,hj⟩⟩
theorem Fr.push (N:Nat) (av:Nat→AV) (rest:List AObj):Fr N av rest (N+1) (upd av N .nils) rest:=⟨Nat.le_refl _,fun _ _ _=>rfl,fun h hh j hj _=>by
 by_cases e:h=N
 ·subst e;rw [upd_at] at hj;cases hj
 ·rw [upd_ne e] at hj;exact ⟨h,by omega,hj⟩⟩
def holder:MNode:=⟨true, -1,[],[],[],[]⟩
def nodeOf (x:GRow):MNode:=⟨true,x.up,x.tag,x.key,x.text,x.attrs⟩
def st0 (l:List GRow):Nat→MNode
 | 0=>holder
 | h+1=>((l[h]?).map nodeOf).getD holder
def kd0 (l:List GRow) (i:Nat) (h:Nat):List Int:=((List.range i).filter fun k=>((l[k]?).map (fun x=>x.up==(h:Int))).getD false).map fun (k:Nat)=>(k:Int)+1
theorem kd0_succ {l:List GRow} {i:Nat} {x:GRow} (hx:l[i]? = some x) (h:Nat):kd0 l (i+1) h=if x.up=(h:Int) then kd0 l i h++[(i:Int)+1] else kd0 l i h:=by
 simp only [kd0,List.range_succ,List.filter_append,List.map_append,List.filter_cons,List.filter_nil,hx,Option.map_some,Option.getD_some]
 by_cases e:x.up=(h:Int)
 ·simp [e]
 ·simp [e]
theorem kd0_new {l:List GRow} {i h:Nat} (hs:standTo l i) (hh:i<h):kd0 l i h=[]:=by
  unfold kd0
  rw [List.map_eq_nil_iff,List.filter_eq_nil_iff]
  intro k hk
  have hk:=List.mem_range.1 hk
  cases hx:l[k]? with
  | none=>simp
  | some x =>
    have:=hs k x hk hx
    simp
    omega
end Go.TA


end
section
/- Rows that stand as a tree's do: where what is below a handle ends; kids in their order. Plain. -/
namespace Go.TA
def sound (l:List GRow):Prop:=standTo l l.length∧∀ (j:Nat) x,l[j]? = some x→(j=0∧x.up=0)∨(0<j∧∃ y ∈ chain l j,(y:Int)=x.up)
theorem formed_sound {l:List GRow} (h:formedB l=true):sound l:=by
 refine ⟨formed_stands h,fun j x hx => ?_⟩
 have hr:=formed_drop (i:=0) (by simpa [formedB] using h) j x (by omega) hx
 unfold rowOkB at hr
 split at hr
 ·rename_i h0;exact .inl ⟨h0,by simpa using hr⟩
 ·rename_i h0
  simp only [Bool.and_eq_true,decide_eq_true_eq,aboveB,List.any_eq_true,beq_iff_eq] at hr
  exact .inr ⟨by omega,hr.2⟩
def endOf (l:List GRow) (h:Nat):Nat:=h+(l.drop h).findIdx (fun x=>decide (x.up<(h:Int)))
section
variable {l:List GRow}
theorem endOf_le {h:Nat} (hh:h≤l.length):h≤endOf l h∧endOf l h≤l.length:=by
 unfold endOf
 have:=List.findIdx_le_length (xs:=l.drop h) (p:=fun x=>decide (x.up<(h:Int)))
 rw [List.length_drop] at this
 omega
theorem endOf_in {h j:Nat} {x:GRow} (h1:h≤j) (h2:j<endOf l h) (hx:l[j]? = some x):(h:Int)≤x.up:=by
 unfold endOf at h2
 have hlt:j<l.length:=(List.getElem?_eq_some_iff.1 hx).1
 have:=List.not_of_lt_findIdx (xs:=l.drop h) (p:=fun x=>decide (x.up<(h:Int))) (i:=j - h) (by omega)
 simp only [List.getElem_drop,decide_eq_false_iff_not] at this
 have e:l[h+(j - h)]'(by omega)=x:=by
  have:l[h+(j - h)]? = some x:=by rw [← hx];congr 1;omega
  exact (List.getElem?_eq_some_iff.1 this).2
 rw [e] at this
 simpa using this
theorem endOf_at {h:Nat} {x:GRow} (hh:h≤l.length) (hx:l[endOf l h]? = some x):x.up<(h:Int):=by
 have hlt:endOf l h<l.length:=(List.getElem?_eq_some_iff.1 hx).1
 unfold endOf at hlt hx
 have:=List.findIdx_getElem (xs:=l.drop h) (p:=fun x=>decide (x.up<(h:Int))) (w:=by rw [List.length_drop];omega)
 simp only [List.getElem_drop,decide_eq_true_eq] at this
 have e:=(List.getElem?_eq_some_iff.1 hx).2
 rw [e] at this
 exact this
theorem up_of (hs:sound l) {j:Nat} {x:GRow} (hx:l[j]? = some x):x.up=(upAt l (j+1):Int):=by
 have:=hs.1 j x (List.getElem?_eq_some_iff.1 hx).1 hx
 simp [upAt,hx]
 omega
theorem chain_below (hs:sound l) {m:Nat} (hm:m<l.length):∀ j,m+1≤j→j≤endOf l (m+1)→∀ y ∈ chain l j,y<m+1→y ∈ chain l (upAt l (m+1)):=by
  intro j
  induction j using Nat.strongRecOn with
  | _ j ih =>
    intro h1 h2 y hy hlt
    have hle:=(endOf_le (l:=l) (h:=m+1) (by omega)).2
    obtain ⟨j,rfl⟩:∃ k,j=k+1:=⟨j - 1,by omega⟩
    by_cases e:j=m
    · subst e
      rw [chain_succ hs.1 (Nat.le_refl _) (by omega)] at hy
      rcases List.mem_cons.1 hy with rfl | hy
      · omega
      · exact hy
    · obtain ⟨x,hx⟩:=get_some (show j<l.length by omega)
      have hup:=endOf_in (h:=m+1) (by omega) (by omega) hx
      have hu:=up_of hs hx
      have hule:=upAt_le hs.1 (show j<l.length by omega) (by omega)
      rw [chain_succ hs.1 (Nat.le_refl _) (by omega)] at hy
      rcases List.mem_cons.1 hy with rfl | hy
      · omega
      · exact ih _ (by omega) (by omega) (by omega) y hy hlt
theorem kid_next (hs : sound l) {h cur : Nat} (h1 : h ≤ cur) (h2 : cur < endOf l h) (hcur : cur = h ∨ ∃ m, h ≤ m ∧ m < cur ∧ cur = endOf l (m + 1) ∧ upAt l (m + 1) = h) (hh : h ≤ l.length) : ∃ x, l[cur]? = some x ∧ x.up = (h : Int) := by
  have hle:=(endOf_le (l:=l) hh).2
  obtain ⟨x,hx⟩:=get_some (show cur<l.length by omega)
  refine ⟨x,hx, ?_⟩
  have hup:=endOf_in h1 h2 hx
  rcases hs.2 cur x hx with ⟨h0,h3⟩ | ⟨h0,y,hy,hyu⟩
  · omega
  · have hyle:=chain_le hs.1 (Nat.le_refl _) cur (by omega) y hy
    rcases hcur with rfl | ⟨m,m1,m2,m3,m4⟩
    · omega
    · have hm:m<l.length:=by omega
      have hat:x.up<((m+1:Nat):Int):=by
        rw [m3] at hx
        exact endOf_at (by omega) hx
      have:=chain_below hs hm cur (by omega) (by omega) y hy (by omega)
      rw [m4] at this
      have:=chain_le hs.1 (Nat.le_refl _) h hh y this
      omega
theorem end_mono {h cur:Nat} (h1:h≤cur) (h2:cur<endOf l h) (hh:h≤l.length):endOf l (cur+1)≤endOf l h:=by
 have he:=endOf_le (l:=l) hh
 have he2:=endOf_le (l:=l) (h:=cur+1) (by omega)
 rcases Nat.lt_or_ge (endOf l h) (endOf l (cur+1)) with hlt | hge
 ·obtain ⟨x,hx⟩:=get_some (show endOf l h<l.length by omega)
  have a1:=endOf_at hh hx
  have a2:=endOf_in (h:=cur+1) (by omega) hlt hx
  omega
 ·exact hge
def named:List GRow→Nat→List GRow
 | [],_=>[]
 | x::r,i => { x with id:=(i:Int)+1 }::named r (i+1)
def outPV (l:List GRow) (j:Nat):List (List PV):=((named l 0).take j).map GRow.pv
end
end Go.TA


end
section
/- What a machine is, and what is done with it. Plain. -/
namespace Go.TA
structure MS where
 N:Nat
 st:Nat→MNode
 kd:Nat→List Int
def liveB (S:MS) (h:Int):Bool:=decide (0≤h) && (decide (h<(S.N:Int)) && (S.st h.toNat).live)
def upOf (S:MS) (h:Int):Int:=(S.st h.toNat).up
inductive Below (S:MS) (t:Int):Int→Prop
 | here:Below S t t
 | up {h:Int}:0≤h→Below S t (upOf S h)→Below S t h
structure MS.Ok (R:Nat) (S:MS):Prop where
 pos:0<S.N
 top:(S.st 0).live=true∧(S.st 0).up = -1
 kids:∀ p:Nat,p<S.N→∀ k ∈ S.kd p,∃ c:Nat,k=(c:Int)∧c<S.N∧(S.st c).live=true∧(S.st c).up=(p:Int)
 up:∀ c:Nat,c<S.N→(S.st c).up = -1∨∃ p:Nat,p<S.N∧(S.st c).up=(p:Int)∧(S.st p).live=true∧(c:Int) ∈ S.kd p
 dead:∀ h:Nat,h<S.N→(S.st h).live=false→(S.st h).up = -1∧S.kd h=[]
 nodup:∀ p:Nat,p<S.N→(S.kd p).Nodup
 rank:∃ r:Nat→Nat,(∀ c:Nat,c<S.N→r c≤R)∧∀ c p:Nat,c<S.N→(S.st c).up=(p:Int)→r p<r c
 attrs:∀ h:Nat,h<S.N→(S.st h).attrs.length≤1048577
theorem MS.Ok.more {R R':Nat} {S:MS} (h:S.Ok R) (hr:R≤R'):S.Ok R' :=
 ⟨h.pos,h.top,h.kids,h.up,h.dead,h.nodup,by obtain ⟨r,h1,h2⟩:=h.rank;exact ⟨r,fun c hc=>by have:=h1 c hc;omega,h2⟩,h.attrs⟩
theorem live_nat {S:MS} {h:Int} (hl:liveB S h=true):∃ c:Nat,h=(c:Int)∧c<S.N∧(S.st c).live=true:=by
 simp only [liveB,Bool.and_eq_true,decide_eq_true_eq] at hl
 refine ⟨h.toNat,by omega,by omega,hl.2.2⟩
theorem live_mk {S:MS} {c:Nat} (h:c<S.N) (hl:(S.st c).live=true):liveB S (c:Int)=true:=by
 simp only [liveB,Bool.and_eq_true,decide_eq_true_eq,Int.toNat_natCast]
 exact ⟨by omega,by omega,hl⟩
section
variable {R:Nat} {S:MS}
theorem nodup_len : ∀ (n : Nat) (l : List Int), l.Nodup → (∀ k ∈ l, ∃ c : Nat, k = (c : Int) ∧ c < n) → l.length ≤ n
  | 0, l, _, h => by
    cases l with
    | nil=>simp
    | cons a l=>obtain ⟨c,_,hc⟩:=h a (by simp);omega
  | n + 1, l, hn, h => by
    have:=nodup_len n (l.erase (n:Int)) (hn.erase _) (fun k hk=>by
      obtain ⟨c,rfl,hc⟩:=h k (List.mem_of_mem_erase hk)
      refine ⟨c,rfl, ?_⟩
      have:(c:Int)≠(n:Int):=fun e=>by
        rw [e] at hk
        exact hn.not_mem_erase hk
      omega)
    have:=List.length_erase (a:=(n:Int)) (l:=l)
    split at this <;> omega
theorem MS.Ok.kids_len (h:S.Ok R) {p:Nat} (hp:p<S.N):(S.kd p).length≤S.N :=
 nodup_len _ _ (h.nodup p hp) fun k hk=>by obtain ⟨c,h1,h2,_⟩:=h.kids p hp k hk;exact ⟨c,h1,h2⟩
theorem MS.Ok.up_lt (h:S.Ok R) {c p:Nat} (hc:c<S.N) (hu:(S.st c).up=(p:Int)):p<S.N∧(S.st p).live=true∧(c:Int) ∈ S.kd p:=by
 rcases h.up c hc with h1 | ⟨q,h1,h2,h3,h4⟩
 ·omega
 ·have:q=p:=by omega
  subst this;exact ⟨h1,h3,h4⟩
theorem MS.Ok.up_nat (h:S.Ok R) {c:Nat} (hc:c<S.N) (hu:0≤(S.st c).up):∃ p:Nat,(S.st c).up=(p:Int)∧p<S.N∧(S.st p).live=true∧(c:Int) ∈ S.kd p:=by
 rcases h.up c hc with h1 | ⟨q,h1,h2,h3,h4⟩
 ·omega
 ·exact ⟨q,h2,h1,h3,h4⟩
theorem below_neg {t:Int} (ht:0≤t):¬ Below S t (-1):=by
 intro h
 generalize e:(-1:Int)=m at h
 cases h with
 | here=>omega
 | up h1 h2=>omega
theorem below_top (h:S.Ok R) {t:Int} (ht:0<t):¬ Below S t 0:=by
  intro hb
  generalize e:(0:Int)=m at hb
  cases hb with
  | here=>omega
  | up h1 h2 =>
    subst e
    have:upOf S 0 = -1:=h.top.2
    rw [this] at h2
    exact below_neg (by omega) h2
theorem below_iff {t h:Int} (hh:0≤h) (hne:h≠t):Below S t h↔Below S t (upOf S h):=by
 constructor
 ·intro hb
  cases hb with
  | here=>exact absurd rfl hne
  | up _ h2=>exact h2
 ·exact fun h2 => .up hh h2
theorem below_rank {r:Nat→Nat} (hok:S.Ok R) (hr:∀ c p:Nat,c<S.N→(S.st c).up=(p:Int)→r p<r c) {t:Nat} {h:Int} (hb:Below S (t:Int) h):∀ c:Nat,h=(c:Int)→c<S.N→r t≤r c:=by
  induction hb with
  | here => intro c e _; have : t = c := by omega
            subst this;exact Nat.le_refl _
  | @up h h1 h2 ih =>
    intro c e hc
    subst e
    have hu:upOf S (c:Int)=(S.st c).up:=rfl
    rcases hok.up c hc with h3 | ⟨p,h3,h4,_⟩
    · rw [hu,h3] at h2;exact absurd h2 (below_neg (by omega))
    · have:=ih p (by rw [hu,h4]) h3
      have:=hr c p hc h4
      omega
def MS.create (S:MS) (x:GOp):MS:=⟨S.N+1,upd S.st S.N ⟨true, -1,x.tag,x.key,x.text,x.attrs⟩,upd S.kd S.N []⟩
def insI (l:List Int) (h b:Int):List Int:=l.take (if b=0 then l.length else l.idxOf b)++h::l.drop (if b=0 then l.length else l.idxOf b)
def placeM (S:MS) (h u:Nat) (b:Int):MS:=⟨S.N,upd S.st h { S.st h with up:=(u:Int) },upd S.kd u (insI (S.kd u) h b)⟩
def takeM (S:MS) (h:Nat):MS:=if (S.st h).up<0 then S else ⟨S.N,upd S.st h { S.st h with up := -1 },upd S.kd (S.st h).up.toNat ((S.kd (S.st h).up.toNat).filter fun k => !(k==(h:Int)))⟩
def deadN:MNode:=⟨false, -1,[],[],[],[]⟩
open Classical in
noncomputable def endM (S:MS) (h:Int):MS:=⟨S.N,fun y=>if Below S h (y:Int) then deadN else S.st y,fun y=>if Below S h (y:Int) then [] else S.kd y⟩
def setM (S:MS) (h:Nat) (a:List Attr):MS:=⟨S.N,upd S.st h { S.st h with attrs:=a },S.kd⟩
def textM (S:MS) (h:Nat) (s:Bs):MS:=⟨S.N,upd S.st h { S.st h with text:=s },S.kd⟩
theorem MS.Ok.create (h : S.Ok R) (x : GOp) (hx : x.attrs.length ≤ 1048577) : (S.create x).Ok R where
  pos:=by simp [MS.create]
  top:=by
    have:=h.pos
    simp only [MS.create]
    rw [upd_ne (by omega)]
    exact h.top
  kids p hp k hk:=by
    simp only [MS.create] at hp hk ⊢
    by_cases e:p=S.N
    · subst e;rw [upd_at] at hk;simp at hk
    · rw [upd_ne e] at hk
      obtain ⟨c,h1,h2,h3,h4⟩:=h.kids p (by omega) k hk
      refine ⟨c,h1,by omega, ?_⟩
      rw [upd_ne (by omega)];exact ⟨h3,h4⟩
  up c hc:=by
    simp only [MS.create] at hc ⊢
    by_cases e:c=S.N
    · subst e;left;rw [upd_at]
    · rw [upd_ne e]
      rcases h.up c (by omega) with h1 | ⟨p,h1,h2,h3,h4⟩
      · exact .inl h1
      · refine .inr ⟨p,by omega,h2, ?_⟩
        rw [upd_ne (by omega),upd_ne (by omega)];exact ⟨h3,h4⟩
  dead c hc hl:=by
    simp only [MS.create] at hc hl ⊢
    by_cases e:c=S.N
    · subst e;rw [upd_at] at hl;cases hl
    · rw [upd_ne e] at hl ⊢
      rw [upd_ne e]
      exact h.dead c (by omega) hl
  nodup p hp:=by
    simp only [MS.create] at hp ⊢
    by_cases e:p=S.N
    · subst e;rw [upd_at];exact List.nodup_nil
    · rw [upd_ne e];exact h.nodup p (by omega)
  rank:=by
    obtain ⟨r,h1,h2⟩:=h.rank
    refine ⟨upd r S.N 0,fun c hc => ?_,fun c p hc hu => ?_⟩
    · by_cases e:c=S.N
      · subst e;rw [upd_at];omega
      · rw [upd_ne e];exact h1 c (by simp only [MS.create] at hc;omega)
    · simp only [MS.create] at hc hu
      by_cases e:c=S.N
      · subst e;rw [upd_at] at hu;simp at hu <;> omega
      · rw [upd_ne e] at hu
        have:=(h.up_lt (by omega) hu).1
        rw [upd_ne e,upd_ne (by omega)]
        exact h2 c p (by omega) hu
  attrs c hc:=by
    simp only [MS.create] at hc ⊢
    by_cases e:c=S.N
    · subst e;rw [upd_at];exact hx
    · rw [upd_ne e];exact h.attrs c (by omega)
theorem mem_insI {l:List Int} {h b k:Int}:k ∈ insI l h b↔k=h∨k ∈ l:=by
 unfold insI
 generalize (if b=0 then l.length else l.idxOf b)=i
 rw [List.mem_append,List.mem_cons]
 have:k ∈ l↔k ∈ l.take i∨k ∈ l.drop i:=by rw [← List.mem_append,List.take_append_drop]
 rw [this]
 constructor
 ·rintro (h1 | h1 | h1)
  ·exact .inr (.inl h1)
  ·exact .inl h1
  ·exact .inr (.inr h1)
 ·rintro (h1 | h1 | h1)
  ·exact .inr (.inl h1)
  ·exact .inl h1
  ·exact .inr (.inr h1)
theorem nodup_insI {l:List Int} {h b:Int} (hn:l.Nodup) (hh:h ∉ l):(insI l h b).Nodup:=by
 unfold insI
 generalize (if b=0 then l.length else l.idxOf b)=i
 have e:l=l.take i++l.drop i:=(List.take_append_drop i l).symm
 rw [e] at hn hh
 rw [List.nodup_append] at hn ⊢
 simp only [List.mem_append,not_or] at hh
 refine ⟨hn.1,List.nodup_cons.2 ⟨hh.2,hn.2.1⟩,fun a ha b hb => ?_⟩
 rcases List.mem_cons.1 hb with rfl | hb
 ·exact fun e=>hh.1 (e ▸ ha)
 ·exact hn.2.2 a ha b hb
theorem MS.Ok.take (hk : S.Ok R) {h : Nat} (hh : h < S.N) (hl : (S.st h).live = true) : (takeM S h).Ok R ∧ ((takeM S h).st h).up = -1 := by
  unfold takeM
  split
  · rename_i h0
    refine ⟨hk, ?_⟩
    rcases hk.up h hh with h1 | ⟨p,h1,h2,_⟩
    · exact h1
    · omega
  rename_i h0
  obtain ⟨u,hu,hu1,hu2,hu3⟩:=hk.up_nat hh (by omega)
  rw [hu,Int.toNat_natCast]
  refine ⟨?_,by simp [upd_at]⟩
  have hst:∀ c,c≠h→upd S.st h { S.st h with up := -1 } c=S.st c:=fun c hc=>upd_ne hc
  have h0':h≠0:=fun e=>by subst e;have:=hk.top.2;omega
  refine ⟨hk.pos,by simp only;rw [hst 0 (fun e=>h0' e.symm)];exact hk.top,fun p hp k hkk => ?_,fun c hc => ?_,fun c hc hd => ?_,fun p hp => ?_, ?_,fun c hc => ?_⟩
  · simp only at hp hkk ⊢
    have hmem:k ∈ S.kd p∧k≠(h:Int):=by
      by_cases e:p=u
      · subst e
        rw [upd_at,List.mem_filter] at hkk
        exact ⟨hkk.1,by simpa using hkk.2⟩
      · rw [upd_ne e] at hkk
        obtain ⟨c,rfl,_,_,h4⟩:=hk.kids p hp k hkk
        refine ⟨hkk,fun e' => ?_⟩
        have:c=h:=by omega
        subst this
        omega
    obtain ⟨c,rfl,h2,h3,h4⟩:=hk.kids p hp k hmem.1
    refine ⟨c,rfl,h2, ?_⟩
    rw [hst c (fun e=>hmem.2 (by rw [e]))]
    exact ⟨h3,h4⟩
  · simp only at hc ⊢
    by_cases e:c=h
    · subst e;left;rw [upd_at]
    · rw [hst c e]
      rcases hk.up c hc with h1 | ⟨p,h1,h2,h3,h4⟩
      · exact .inl h1
      · refine .inr ⟨p,h1,h2, ?_, ?_⟩
        · by_cases e':p=h
          · subst e';rw [upd_at];exact hl
          · rw [hst p e'];exact h3
        · by_cases e':p=u
          · subst e'
            rw [upd_at,List.mem_filter]
            exact ⟨h4,by simp;omega⟩
          · rw [upd_ne e'];exact h4
  · simp only at hc hd ⊢
    by_cases e:c=h
    · subst e;rw [upd_at] at hd;simp only at hd;rw [hl] at hd;cases hd
    · rw [hst c e] at hd ⊢
      have:=hk.dead c hc hd
      refine ⟨this.1, ?_⟩
      by_cases e':c=u
      · subst e';rw [hu2] at hd;cases hd
      · rw [upd_ne e'];exact this.2
  · simp only at hp ⊢
    by_cases e:p=u
    · subst e;rw [upd_at];exact (hk.nodup _ hp).filter _
    · rw [upd_ne e];exact hk.nodup p hp
  · obtain ⟨r,h1,h2⟩:=hk.rank
    refine ⟨r,h1,fun c p hc hup => ?_⟩
    simp only at hc hup
    by_cases e:c=h
    · subst e;rw [upd_at] at hup;simp only at hup;omega
    · rw [hst c e] at hup;exact h2 c p hc hup
  · simp only at hc ⊢
    by_cases e:c=h
    · subst e;rw [upd_at];exact hk.attrs _ hc
    · rw [hst c e];exact hk.attrs c hc
theorem MS.Ok.place (hk : S.Ok R) {h u : Nat} (b : Int) (hh : h < S.N) (hl : (S.st h).live = true) (h0 : 0 < h) (hup : (S.st h).up = -1) (hu : u < S.N) (hul : (S.st u).live = true) (hb : ¬ Below S (h : Int) (u : Int)) : (placeM S h u b).Ok (R + R + 1) := by
  unfold placeM
  have hst:∀ c,c≠h→upd S.st h { S.st h with up:=(u:Int) } c=S.st c:=fun c hc=>upd_ne hc
  have hlv:∀ c,(upd S.st h { S.st h with up:=(u:Int) } c).live=(S.st c).live:=fun c=>by
    by_cases e:c=h
    · subst e;rw [upd_at]
    · rw [hst c e]
  have hnk:∀ p,p<S.N→(h:Int) ∉ S.kd p:=fun p hp hm=>by
    obtain ⟨c,h1,_,_,h4⟩:=hk.kids p hp _ hm
    have:c=h:=by omega
    subst this
    omega
  refine ⟨hk.pos,by simp only;rw [hst 0 (by omega)];exact hk.top,fun p hp k hkk => ?_,fun c hc => ?_,fun c hc hd => ?_,fun p hp => ?_, ?_,fun c hc => ?_⟩
  · simp only at hp hkk ⊢
    by_cases e:p=u
    · subst e
      rw [upd_at,mem_insI] at hkk
      rcases hkk with rfl | hkk
      · exact ⟨h,rfl,hh,by rw [hlv];exact hl,by rw [upd_at]⟩
      · obtain ⟨c,rfl,h2,h3,h4⟩:=hk.kids p hp k hkk
        refine ⟨c,rfl,h2,by rw [hlv];exact h3, ?_⟩
        rw [hst c (fun e=>by subst e;omega)];exact h4
    · rw [upd_ne e] at hkk
      obtain ⟨c,rfl,h2,h3,h4⟩:=hk.kids p hp k hkk
      refine ⟨c,rfl,h2,by rw [hlv];exact h3, ?_⟩
      rw [hst c (fun e=>by subst e;omega)];exact h4
  · simp only at hc ⊢
    by_cases e:c=h
    · subst e
      right
      refine ⟨u,hu,by rw [upd_at],by rw [hlv];exact hul, ?_⟩
      rw [upd_at,mem_insI];exact .inl rfl
    · rw [hst c e]
      rcases hk.up c hc with h1 | ⟨p,h1,h2,h3,h4⟩
      · exact .inl h1
      · refine .inr ⟨p,h1,h2,by rw [hlv];exact h3, ?_⟩
        by_cases e':p=u
        · subst e';rw [upd_at,mem_insI];exact .inr h4
        · rw [upd_ne e'];exact h4
  · simp only at hc hd ⊢
    rw [hlv] at hd
    have hne:c≠h:=fun e=>by subst e;rw [hl] at hd;cases hd
    have hne2:c≠u:=fun e=>by subst e;rw [hul] at hd;cases hd
    rw [hst c hne,upd_ne hne2]
    exact hk.dead c hc hd
  · simp only at hp ⊢
    by_cases e:p=u
    · subst e;rw [upd_at];exact nodup_insI (hk.nodup _ hp) (hnk _ hp)
    · rw [upd_ne e];exact hk.nodup p hp
  · obtain ⟨r,h1,h2⟩:=hk.rank
    classical
    refine ⟨fun c=>if Below S (h:Int) (c:Int) then r c+r u+1 else r c,fun c hc => ?_,fun c p hc hcu => ?_⟩
    · have:=h1 c hc
      have:=h1 u hu
      simp only
      split <;> omega
    · simp only at hc hcu ⊢
      by_cases e:c=h
      · subst e
        rw [upd_at] at hcu
        simp only at hcu
        have:u=p:=by omega
        subst this
        rw [if_neg hb,if_pos .here]
        omega
      · rw [hst c e] at hcu
        have hlt:=h2 c p hc hcu
        have hi:Below S (h:Int) (c:Int)↔Below S (h:Int) (p:Int):=by
          rw [below_iff (by omega) (by omega)]
          have:upOf S (c:Int)=(p:Int):=hcu
          rw [this]
        by_cases e1:Below S (h:Int) (p:Int)
        · rw [if_pos e1,if_pos (hi.2 e1)];omega
        · rw [if_neg e1,if_neg (fun q=>e1 (hi.1 q))];exact hlt
  · simp only at hc ⊢
    by_cases e:c=h
    · subst e;rw [upd_at];exact hk.attrs _ hc
    · rw [hst c e];exact hk.attrs c hc
theorem MS.Ok.endM (hk : S.Ok R) {h : Nat} (hh : h < S.N) (h0 : 0 < h) (hup : (S.st h).up = -1) : (endM S (h : Int)).Ok R := by
  unfold Go.TA.endM
  have hb:∀ c p:Nat,c<S.N→(S.st c).up=(p:Int)→(Below S (h:Int) (c:Int)↔Below S (h:Int) (p:Int)):=fun c p hc hu=>by
    have hne:c≠h:=fun e=>by subst e;omega
    rw [below_iff (by omega) (by omega)]
    have:upOf S (c:Int)=(p:Int):=hu
    rw [this]
  have ht:=below_top hk (t:=(h:Int)) (by omega)
  classical
  refine ⟨hk.pos, ?_,fun p hp k hkk => ?_,fun c hc => ?_,fun c hc hd => ?_,fun p hp => ?_, ?_,fun c hc => ?_⟩
  · simp only
    rw [if_neg (by simpa using ht)];exact hk.top
  · simp only at hp hkk ⊢
    by_cases e:Below S (h:Int) (p:Int)
    · rw [if_pos e] at hkk;simp at hkk
    · rw [if_neg e] at hkk
      obtain ⟨c,rfl,h2,h3,h4⟩:=hk.kids p hp k hkk
      refine ⟨c,rfl,h2, ?_⟩
      rw [if_neg (fun q=>e ((hb c p h2 h4).1 q))]
      exact ⟨h3,h4⟩
  · simp only at hc ⊢
    by_cases e:Below S (h:Int) (c:Int)
    · left;rw [if_pos e];rfl
    · rw [if_neg e]
      rcases hk.up c hc with h1 | ⟨p,h1,h2,h3,h4⟩
      · exact .inl h1
      · have e2:¬ Below S (h:Int) (p:Int):=fun q=>e ((hb c p hc h2).2 q)
        refine .inr ⟨p,h1,h2, ?_⟩
        rw [if_neg e2,if_neg e2]
        exact ⟨h3,h4⟩
  · simp only at hc hd ⊢
    by_cases e:Below S (h:Int) (c:Int)
    · rw [if_pos e,if_pos e];exact ⟨rfl,rfl⟩
    · rw [if_neg e] at hd
      rw [if_neg e,if_neg e];exact hk.dead c hc hd
  · simp only at hp ⊢
    by_cases e:Below S (h:Int) (p:Int)
    · rw [if_pos e];exact List.nodup_nil
    · rw [if_neg e];exact hk.nodup p hp
  · obtain ⟨r,h1,h2⟩:=hk.rank
    refine ⟨r,h1,fun c p hc hcu => ?_⟩
    simp only at hc hcu
    by_cases e:Below S (h:Int) (c:Int)
    · rw [if_pos e] at hcu;simp [deadN] at hcu <;> omega
    · rw [if_neg e] at hcu;exact h2 c p hc hcu
  · simp only at hc ⊢
    by_cases e:Below S (h:Int) (c:Int)
    · rw [if_pos e];simp [deadN]
    · rw [if_neg e];exact hk.attrs c hc
theorem MS.Ok.same (hk:S.Ok R) {st:Nat→MNode} (hs:∀ c,c<S.N→(st c).live=(S.st c).live∧(st c).up=(S.st c).up∧(st c).attrs.length≤1048577):(⟨S.N,st,S.kd⟩:MS).Ok R:=by
 refine ⟨hk.pos,⟨by rw [(hs 0 hk.pos).1];exact hk.top.1,by rw [(hs 0 hk.pos).2.1];exact hk.top.2⟩,fun p hp k hkk => ?_,fun c hc => ?_,fun c hc hd => ?_,hk.nodup, ?_,fun c hc=>(hs c hc).2.2⟩
 ·obtain ⟨c,h1,h2,h3,h4⟩:=hk.kids p hp k hkk
  exact ⟨c,h1,h2,by simp only;rw [(hs c h2).1];exact h3,by simp only;rw [(hs c h2).2.1];exact h4⟩
 ·simp only at hc ⊢
  rw [(hs c hc).2.1]
  rcases hk.up c hc with h1 | ⟨p,h1,h2,h3,h4⟩
  ·exact .inl h1
  ·exact .inr ⟨p,h1,h2,by rw [(hs p h1).1];exact h3,h4⟩
 ·simp only at hc hd ⊢
  rw [(hs c hc).1] at hd
  rw [(hs c hc).2.1]
  exact hk.dead c hc hd
 ·obtain ⟨r,h1,h2⟩:=hk.rank
  refine ⟨r,h1,fun c p hc hcu => ?_⟩
  simp only at hc hcu
  rw [(hs c hc).2.1] at hcu
  exact h2 c p hc hcu
end
end Go.TA


end
section
/- What the machine's operations do, whichever text does them. Plain. -/
namespace Go.TA
def fitE (S:MS) (h:Int):Int:=if h=0 then 14 else if liveB S h=true then 0 else 13
open Classical in
noncomputable def underB (S:MS) (h t:Int):Bool:=decide (Below S t h)
theorem underB_iff {S:MS} {h t:Int}:underB S h t=true↔Below S t h:=by simp [underB]
def fstAt (l:List Attr) (name:Bs):Nat:=l.findIdx (fun a=>a.name==name)
def posAt (l:List Attr) (name:Bs):Nat:=l.findIdx (fun a => !(strLess a.name name))
def withA (l:List Attr) (name v:Bs):List Attr:=if fstAt l name<l.length then l.set (fstAt l name) ⟨name,v⟩ else l.take (posAt l name)++⟨name,v⟩::l.drop (posAt l name)
def notN (h:Bs) (x:Attr):Bool := !(x.name==h)
def withoutA (l:List Attr) (name:Bs):List Attr:=l.filter (notN name)
def changeM (S:MS) (h:Nat) (x:GOp):Int × MS :=
 if x.kind=5 then if 64<((withA (S.st h).attrs x.name x.text).length:Int) then (12,S) else (0,setM S h (withA (S.st h).attrs x.name x.text))
 else if x.kind=6 then if (withoutA (S.st h).attrs x.name).length<(S.st h).attrs.length then (0,setM S h (withoutA (S.st h).attrs x.name)) else (8,S)
 else if x.kind=7 then (0,textM S h x.text) else (0,S)
noncomputable def insertM (S:MS) (x:GOp):Int × MS :=
 if (liveB S x.node && (liveB S x.up && liveB S x.before))=false then (13,S)
 else if 0≤upOf S x.node then (15,S)
 else if underB S x.up x.node=true then (17,S)
 else if x.before≠0∧upOf S x.before≠x.up then (18,S)
 else (0,placeM S x.node.toNat x.up.toNat x.before)
def moveM (S:MS) (x:GOp):Int × MS :=
 if (liveB S x.node && liveB S x.before)=false then (13,S)
 else if upOf S x.node<0 then (16,S)
 else if x.before=x.node∨(x.before≠0∧upOf S x.before≠upOf S x.node) then (18,S)
 else (0,placeM (takeM S x.node.toNat) x.node.toNat (upOf S x.node).toNat x.before)
noncomputable def doM (S:MS) (x:GOp):Int × MS :=
 if x.kind=1 then (0,S.create x)
 else if x.node=0 then (14,S)
 else if x.kind=2 then insertM S x
 else if x.kind=3 then moveM S x
 else if liveB S x.node=false then (13,S)
 else if x.kind=4 then (0,endM (takeM S x.node.toNat) x.node)
 else changeM S x.node.toNat x
theorem takeM_N (S:MS) (h:Nat):(takeM S h).N=S.N:=by unfold takeM;split <;> rfl
theorem takeM_live (S:MS) (h y:Nat):((takeM S h).st y).live=(S.st y).live:=by
 unfold takeM
 split
 ·rfl
 ·simp only [upd]
  split
  ·rename_i e;subst e;rfl
  ·rfl
section
variable {R:Nat} {S:MS}
theorem place_ok (hS : S.Ok R) {h u : Nat} (b : Int) (hh : h < S.N) (hl : (S.st h).live = true) (h0 : 0 < h) (hu : (S.st h).up = (u : Int)) : (placeM (takeM S h) h u b).Ok (R + R + 1) := by
  obtain ⟨hu1,hu2,hu3⟩:=hS.up_lt hh hu
  obtain ⟨hT,hup⟩:=hS.take hh hl
  have hn:=takeM_N S h
  refine hT.place b (by rw [hn];exact hh) (by rw [takeM_live];exact hl) h0 hup (by rw [hn];exact hu1) (by rw [takeM_live];exact hu2) (fun hb => ?_)
  obtain ⟨r,_,hr⟩:=hS.rank
  have hr':∀ c p:Nat,c<(takeM S h).N→((takeM S h).st c).up=(p:Int)→r p<r c:=fun c p hc hcp=>by
    by_cases e:c=h
    · subst e;omega
    · have:((takeM S h).st c).up=(S.st c).up:=by
        unfold takeM
        split
        · rfl
        · simp only;rw [upd_ne e]
      rw [this] at hcp
      exact hr c p (by rw [hn] at hc;exact hc) hcp
  have:=below_rank hT hr' hb u rfl (by rw [hn];exact hu1)
  have:=hr h u hh hu
  omega
theorem kid_in (hS:S.Ok R) {b u:Nat} (hb:b<S.N) (hu:(S.st b).up=(u:Int)):(b:Int) ∈ S.kd u:=(hS.up_lt hb hu).2.2
theorem changeM_ok (hS:S.Ok R) {h:Nat} (hh:h<S.N) (x:GOp):(changeM S h x).2.Ok R∧(changeM S h x).2.N=S.N:=by
 have hset:∀ a:List Attr,a.length≤1048577→(setM S h a).Ok R:=fun a ha=>by
  refine hS.same fun c hc => ?_
  by_cases e:c=h
  ·subst e;rw [upd_at];exact ⟨rfl,rfl,ha⟩
  ·rw [upd_ne e];exact ⟨rfl,rfl,hS.attrs c hc⟩
 have ha:=hS.attrs h hh
 unfold changeM
 split
 ·split
  ·exact ⟨hS,rfl⟩
  ·exact ⟨hset _ (by omega),rfl⟩
 split
 ·split
  ·exact ⟨hset _ (by omega),rfl⟩
  ·exact ⟨hS,rfl⟩
 split
 ·refine ⟨hS.same fun c hc => ?_,rfl⟩
  by_cases e:c=h
  ·subst e;rw [upd_at];exact ⟨rfl,rfl,ha⟩
  ·rw [upd_ne e];exact ⟨rfl,rfl,hS.attrs c hc⟩
 ·exact ⟨hS,rfl⟩
theorem doM_ok (hS:S.Ok R) (x:GOp) (hx:x.attrs.length≤1048577):(doM S x).2.Ok (R+R+1)∧S.N≤(doM S x).2.N∧(doM S x).2.N≤S.N+1:=by
 have hm:S.Ok (R+R+1):=hS.more (by omega)
 unfold doM
 split
 ·exact ⟨(hS.create x hx).more (by omega),by simp [MS.create],by simp [MS.create]⟩
 split
 ·exact ⟨hm,by simp,by simp⟩
 rename_i hn0
 split
 ·unfold insertM
  split
  ·exact ⟨hm,by simp,by simp⟩
  rename_i hl
  simp only [Bool.not_eq_false,Bool.and_eq_true] at hl
  split
  ·exact ⟨hm,by simp,by simp⟩
  split
  ·exact ⟨hm,by simp,by simp⟩
  split
  ·exact ⟨hm,by simp,by simp⟩
  rename_i h1 h2 h3
  obtain ⟨c,hc,hcN,hcl⟩:=live_nat hl.1
  obtain ⟨u,hu,huN,hul⟩:=live_nat hl.2.1
  rw [hc] at hn0 h1 h2
  rw [hu] at h2
  rw [hc,hu]
  refine ⟨?_,by simp [placeM],by simp [placeM]⟩
  simp only [Int.toNat_natCast]
  refine hS.place _ hcN hcl (by omega) ?_ huN hul (fun hb=>h2 (underB_iff.2 hb))
  rcases hS.up c hcN with h4 | ⟨p,_,h4,_⟩
  ·exact h4
  ·exact absurd (show (0:Int)≤upOf S (c:Int) by rw [show upOf S (c:Int)=(p:Int) from h4];omega) h1
 split
 ·unfold moveM
  split
  ·exact ⟨hm,by simp,by simp⟩
  rename_i hl
  simp only [Bool.not_eq_false,Bool.and_eq_true] at hl
  split
  ·exact ⟨hm,by simp,by simp⟩
  split
  ·exact ⟨hm,by simp,by simp⟩
  rename_i h1 h2
  obtain ⟨c,hc,hcN,hcl⟩:=live_nat hl.1
  have hup:upOf S x.node=(S.st c).up:=by rw [hc];rfl
  obtain ⟨p,hp,_⟩:=hS.up_nat hcN (by omega)
  rw [hup,hp,hc]
  simp only [Int.toNat_natCast]
  exact ⟨place_ok hS _ hcN hcl (by omega) hp,by simp [placeM,takeM_N],by simp [placeM,takeM_N]⟩
 split
 ·exact ⟨hm,by simp,by simp⟩
 rename_i hl
 simp only [Bool.not_eq_false] at hl
 obtain ⟨c,hc,hcN,hcl⟩:=live_nat hl
 split
 ·rw [hc]
  simp only [Int.toNat_natCast]
  obtain ⟨hT,hup⟩:=hS.take hcN hcl
  exact ⟨(hT.endM (by rw [takeM_N];exact hcN) (by omega) hup).more (by omega),by simp [endM,takeM_N],by simp [endM,takeM_N]⟩
 ·rw [hc]
  simp only [Int.toNat_natCast]
  obtain ⟨h1,h2⟩:=changeM_ok hS hcN x
  exact ⟨h1.more (by omega),by omega,by omega⟩
end
theorem below_line {S:MS} {a b y:Int} (h1:Below S a y) (h2:Below S b y):Below S a b∨Below S b a:=by
  induction h1 with
  | here=>exact .inr h2
  | @up y hy h1 ih =>
    cases h2 with
    | here=>exact .inl (.up hy h1)
    | up _ h2=>exact ih h2
theorem below_trans {S:MS} {a b y:Int} (h1:Below S b y) (h2:Below S a b):Below S a y:=by
 induction h1 with
 | here=>exact h2
 | @up y hy h1 ih=>exact .up hy ih
section
variable {R:Nat} {S:MS} (hS:S.Ok R)
include hS
theorem below_kid {h : Nat} {y : Int} (hb : Below S (h : Int) y) : ∀ c : Nat, y = (c : Int) → c < S.N → c ≠ h → ∃ k ∈ S.kd h, Below S k (c : Int) := by
  induction hb with
  | here=>intro c e hc hne;exact absurd (by omega) hne
  | @up y hy h1 ih =>
    intro c e hc hne
    subst e
    have hu:upOf S (c:Int)=(S.st c).up:=rfl
    rcases hS.up c hc with h3 | ⟨p,h3,h4,h5,h6⟩
    · rw [hu,h3] at h1;exact absurd h1 (below_neg (by omega))
    · by_cases e:p=h
      · subst e;exact ⟨_,h6,.here⟩
      · obtain ⟨k,hk,hb⟩:=ih p (by rw [hu,h4]) h3 e
        exact ⟨k,hk,.up (by omega) (by rw [hu,h4];exact hb)⟩
theorem kid_below {h:Nat} (hh:h<S.N) {k y:Int} (hk:k ∈ S.kd h) (hb:Below S k y):Below S (h:Int) y:=by
 obtain ⟨c,rfl,hc,_,hu⟩:=hS.kids h hh k hk
 refine below_trans hb (.up (by omega) ?_)
 have:upOf S (c:Int)=(h:Int):=hu
 rw [this];exact .here
theorem kids_apart {h:Nat} (hh:h<S.N) {k k' y:Int} (hk:k ∈ S.kd h) (hk':k' ∈ S.kd h) (hb:Below S k y) (hb':Below S k' y):k=k':=by
 obtain ⟨r,_,hr⟩:=hS.rank
 have key:∀ k k':Int,k ∈ S.kd h→k' ∈ S.kd h→Below S k k'→k=k':=by
  intro k k' hk hk' hb
  obtain ⟨c,rfl,hc,_,hu⟩:=hS.kids h hh k hk
  obtain ⟨c',rfl,hc',_,hu'⟩:=hS.kids h hh k' hk'
  by_cases e:c=c'
  ·rw [e]
  ·rw [below_iff (by omega) (by omega)] at hb
   have e2:upOf S (c':Int)=(h:Int):=hu'
   rw [e2] at hb
   have:=below_rank hS hr hb h rfl hh
   have:=hr c h hc hu
   omega
 rcases below_line hb hb' with h1 | h1
 ·exact key _ _ hk hk' h1
 ·exact (key _ _ hk' hk h1).symm
end
def bnd (R:Nat):Nat→Nat
 | 0=>R
 | k+1=>bnd R k+bnd R k+1
theorem bnd_mono (R:Nat):∀ {i j:Nat},i≤j→bnd R i≤bnd R j:=by
  intro i j h
  induction j with
  | zero => have : i = 0 := by omega
            subst this;exact Nat.le_refl _
  | succ j ih =>
    by_cases e:i=j+1
    · subst e;exact Nat.le_refl _
    · have:=ih (by omega)
      simp only [bnd];omega
end Go.TA


end
section
/- The rows of all below a node. Plain. -/
namespace Go.TA
def rowM (S:MS) (k up:Int):GRow:=⟨k,up,(S.st k.toNat).tag,(S.st k.toNat).key,(S.st k.toNat).text,(S.st k.toNat).attrs⟩
def belowM (S:MS):Nat→List GRow→Int→Int→List GRow
 | 0,out,_,_=>out
 | d+1,out,h,up=>(S.kd h.toNat).foldl (fun out k=>belowM S d (out++[rowM S k up]) k ((out.length:Int)+1)) out
def stepM (S:MS) (d:Nat) (up:Int) (out:List GRow) (k:Int):List GRow:=belowM S d (out++[rowM S k up]) k ((out.length:Int)+1)
def outI (S:MS) (d:Nat) (out:List GRow) (h:Nat) (up:Int) (i:Nat):List GRow:=((S.kd h).take i).foldl (stepM S d up) out
theorem outI_zero (S:MS) (d:Nat) (out:List GRow) (h:Nat) (up:Int):outI S d out h up 0=out:=rfl
theorem outI_succ {S:MS} {d:Nat} {out:List GRow} {h:Nat} {up:Int} {i:Nat} {k:Int} (hk:(S.kd h)[i]? = some k):outI S d out h up (i+1)=belowM S d (outI S d out h up i++[rowM S k up]) k (((outI S d out h up i).length:Int)+1):=by
 unfold outI
 rw [List.take_add_one,hk,List.foldl_append]
 rfl
theorem outI_all (S:MS) (d:Nat) (out:List GRow) (h:Nat) (up:Int):outI S d out h up (S.kd h).length=belowM S (d+1) out (h:Int) up:=by
 unfold outI
 rw [List.take_length,belowM,Int.toNat_natCast]
 rfl
structure PreO (S:MS) (out:List GRow) (h:Nat):Prop where
 nodup:(out.map GRow.id).Nodup
 rng:∀ x ∈ out,∃ c:Nat,x.id=(c:Int)∧c<S.N
 away:∀ x ∈ out,∀ c:Nat,x.id=(c:Int)→c≠h→¬ Below S (h:Int) (c:Int)
structure PostO (S:MS) (out:List GRow) (h:Nat) (out':List GRow):Prop where
 nodup:(out'.map GRow.id).Nodup
 rng:∀ x ∈ out',∃ c:Nat,x.id=(c:Int)∧c<S.N
 more:∃ more,out'=out++more∧∀ x ∈ more,∃ c:Nat,x.id=(c:Int)∧c<S.N∧c≠h∧Below S (h:Int) (c:Int)
theorem PostO.len {S:MS} {out out':List GRow} {h:Nat} (p:PostO S out h out'):out'.length≤S.N:=by
 have:=nodup_len S.N (out'.map GRow.id) p.nodup (fun k hk=>by
  obtain ⟨x,hx,rfl⟩:=List.mem_map.1 hk
  exact p.rng x hx)
 rwa [List.length_map] at this
section
variable {R:Nat} {S:MS} (hS:S.Ok R)
include hS
theorem kid_strict {h c:Nat} (hc:c<S.N) (hu:(S.st c).up=(h:Int)):c≠h:=by
 obtain ⟨r,_,hr⟩:=hS.rank
 have:=hr c h hc hu
 intro e;subst e;omega
theorem kid_pre {out : List GRow} {h i : Nat} {out1 : List GRow} {c : Nat} (up : Int) (hh : h < S.N) (hp : PreO S out h) (h1 : PostO S out h out1) (hm : ∀ more, out1 = out ++ more → ∀ x ∈ more, ∃ j, j < i ∧ ∃ k, (S.kd h)[j]? = some k ∧ Below S k x.id) (hk : (S.kd h)[i]? = some (c : Int)) (hc : c < S.N) (hu : (S.st c).up = (h : Int)) : PreO S (out1 ++ [rowM S (c : Int) up]) c := by
  have hkm:=List.mem_of_getElem? hk
  obtain ⟨more,hmore,hmo⟩:=h1.more
  have hst:=kid_strict hS hc hu
  have hmm:=hm more hmore
  have hkb:∀ y:Int,Below S (c:Int) y→Below S (h:Int) y:=fun y hb=>kid_below hS hh hkm hb
  have hap:∀ x ∈ more,¬ Below S (c:Int) x.id:=fun x hx hb=>by
    obtain ⟨j,hj,k,hk',hb'⟩:=hmm x hx
    have:=kids_apart hS hh hkm (List.mem_of_getElem? hk') hb hb'
    subst this
    have hjl:=(List.getElem?_eq_some_iff.1 hk').1
    have:=(List.getElem?_inj hjl (hS.nodup h hh)).1 (hk'.trans hk.symm)
    omega
  refine ⟨?_, ?_, ?_⟩
  · rw [List.map_append,List.nodup_append]
    refine ⟨h1.nodup,by simp,fun a ha b hb => ?_⟩
    simp only [List.map_cons,List.map_nil,List.mem_singleton,rowM] at hb
    subst hb
    obtain ⟨x,hx,rfl⟩:=List.mem_map.1 ha
    intro e
    rw [hmore] at hx
    rcases List.mem_append.1 hx with hx | hx
    · exact hp.away x hx c e hst (hkb _ .here)
    · exact hap x hx (by rw [e];exact .here)
  · intro x hx
    rcases List.mem_append.1 hx with hx | hx
    · exact h1.rng x hx
    · simp at hx;subst hx;exact ⟨c,rfl,hc⟩
  · intro x hx y hy hne hb
    rcases List.mem_append.1 hx with hx | hx
    · rw [hmore] at hx
      rcases List.mem_append.1 hx with hx | hx
      · refine hp.away x hx y hy (fun e => ?_) (hkb _ hb)
        subst e
        obtain ⟨r,_,hr⟩:=hS.rank
        have:=below_rank hS hr hb y rfl hh
        have:=hr c y hc hu
        omega
      · exact hap x hx (by rw [hy];exact hb)
    · simp at hx
      subst hx
      simp only [rowM] at hy
      omega
theorem post_of {out : List GRow} {d h i : Nat} {up : Int} (hh : h < S.N) (hp : PreO S out h) (hi : i < (S.kd h).length)
    (ih:PostO S out h (outI S d out h up i)∧∀ more,outI S d out h up i=out++more→∀ x ∈ more,∃ j,j<i∧∃ k,(S.kd h)[j]? = some k∧Below S k x.id)
    (hb:∀ (out:List GRow) (c:Nat) (up:Int),c<S.N→PreO S out c→PostO S out c (belowM S d out (c:Int) up)) :
    PostO S out h (outI S d out h up (i+1))∧∀ more,outI S d out h up (i+1)=out++more→∀ x ∈ more,∃ j,j<i+1∧∃ k,(S.kd h)[j]? = some k∧Below S k x.id:=by
  obtain ⟨h1,h2⟩:=ih
  obtain ⟨k,hk⟩:∃ k,(S.kd h)[i]? = some k:=⟨_,List.getElem?_eq_getElem (by omega)⟩
  have hkm:=List.mem_of_getElem? hk
  obtain ⟨c,rfl,hc,_,hu⟩:=hS.kids h hh k hkm
  have hpre:=kid_pre hS up hh hp h1 h2 hk hc hu
  have hpost:=hb _ c (((outI S d out h up i).length:Int)+1) hc hpre
  rw [← outI_succ hk] at hpost
  obtain ⟨more1,e1,m1⟩:=h1.more
  obtain ⟨more2,e2,m2⟩:=hpost.more
  have e3:outI S d out h up (i+1)=out++(more1++[rowM S (c:Int) up]++more2):=by rw [e2,e1];simp
  have hstr:=kid_strict hS hc hu
  refine ⟨⟨hpost.nodup,hpost.rng,_,e3,fun x hx => ?_⟩,fun more hm x hx => ?_⟩
  · rcases List.mem_append.1 hx with hx | hx
    · rcases List.mem_append.1 hx with hx | hx
      · exact m1 x hx
      · simp at hx;subst hx
        exact ⟨c,rfl,hc,hstr,kid_below hS hh hkm .here⟩
    · obtain ⟨y,hy,hyN,_,hyb⟩:=m2 x hx
      refine ⟨y,hy,hyN,fun e => ?_,kid_below hS hh hkm hyb⟩
      subst e
      obtain ⟨r,_,hr⟩:=hS.rank
      have:=below_rank hS hr hyb y rfl hh
      have:=hr c y hc hu
      omega
  · have:more=more1++[rowM S (c:Int) up]++more2:=by
      rw [e3] at hm
      exact (List.append_cancel_left hm).symm
    subst this
    rcases List.mem_append.1 hx with hx | hx
    · rcases List.mem_append.1 hx with hx | hx
      · obtain ⟨j,hj,r⟩:=h2 more1 e1 x hx
        exact ⟨j,by omega,r⟩
      · simp at hx;subst hx
        exact ⟨i,by omega,_,hk,.here⟩
    · obtain ⟨y,hy,_,_,hyb⟩:=m2 x hx
      exact ⟨i,by omega,_,hk,by rw [hy];exact hyb⟩
theorem post_zero {out:List GRow} {d h:Nat} {up:Int} (hp:PreO S out h):PostO S out h (outI S d out h up 0)∧∀ more,outI S d out h up 0=out++more→∀ x ∈ more,∃ j,j<0∧∃ k,(S.kd h)[j]? = some k∧Below S k x.id:=by
 have _:=hS
 refine ⟨⟨hp.nodup,hp.rng,[],by simp [outI_zero],by simp⟩,fun more hm x hx => ?_⟩
 rw [outI_zero] at hm
 have:more=[]:=by simpa using hm
 subst this;simp at hx
theorem below_post:∀ (d:Nat) (out:List GRow) (h:Nat) (up:Int),h<S.N→PreO S out h→PostO S out h (belowM S d out (h:Int) up)
  | 0,out,h,up,hh,hp=>⟨hp.nodup,hp.rng,[],by simp [belowM],by simp⟩
  | d + 1, out, h, up, hh, hp => by
    rw [← outI_all]
    have key:∀ i,i≤(S.kd h).length→PostO S out h (outI S d out h up i)∧∀ more,outI S d out h up i=out++more→∀ x ∈ more,∃ j,j<i∧∃ k,(S.kd h)[j]? = some k∧Below S k x.id:=by
      intro i
      induction i with
      | zero=>exact fun _=>post_zero hS hp
      | succ i ih=>exact fun hi=>post_of hS hh hp (by omega) (ih (by omega)) (fun out c up hc hp=>below_post d out c up hc hp)
    exact (key _ (Nat.le_refl _)).1
theorem post_all {out:List GRow} {d h:Nat} {up:Int} (hh:h<S.N) (hp:PreO S out h):∀ i,i≤(S.kd h).length→PostO S out h (outI S d out h up i)∧∀ more,outI S d out h up i=out++more→∀ x ∈ more,∃ j,j<i∧∃ k,(S.kd h)[j]? = some k∧Below S k x.id:=by
 intro i
 induction i with
 | zero=>exact fun _=>post_zero hS hp
 | succ i ih=>exact fun hi=>post_of hS hh hp (by omega) (ih (by omega)) (fun out c up hc hp=>below_post hS d out c up hc hp)
end
end Go.TA


end
section
/- The document's answer in memory: its living nodes in a row. Plain. -/
namespace Go.TA
def RowRep (sz:Nat) (xs:List (List AV)) (o:AObj):Prop:=o = .cells sz xs∨∃ ps:List (List PV),o = .pcells sz ps∧xs=ps.map (fun c=>c.map AV.p)
theorem pures_ofmap (c:List PV):pures (c.map AV.p)=some c:=by
 induction c with
 | nil=>rfl
 | cons a c ih=>simp [pures,ih]
theorem pures_some {c:List AV} {ps:List PV} (h:pures c=some ps):c=ps.map AV.p:=by
  induction c generalizing ps with
  | nil=>simp [pures] at h;subst h;rfl
  | cons a c ih =>
    cases a <;> simp [pures] at h
    obtain ⟨qs,h1,rfl⟩:=h
    rw [ih h1];rfl
theorem ofCells_map (c:List PV):ofCells (c.map AV.p) = .p (.agg c):=by simp [ofCells,pures_ofmap]
theorem map_getD (ps:List (List PV)) (i:Nat):(ps.map (fun c=>c.map AV.p)).getD i []=(ps.getD i []).map AV.p:=by
 simp only [List.getD_eq_getElem?_getD,List.getElem?_map]
 cases ps[i]? <;> rfl
theorem map_getD1 {c:List PV} {j:Nat} (hj:j<c.length):(c.map AV.p).getD j .bot = .p (c.getD j .nilp):=by
 simp only [List.getD_eq_getElem?_getD,List.getElem?_map,List.getElem?_eq_getElem hj];rfl
theorem over_one {α : Type} (v : α) (l:List α) {j:Nat} (hj:j<l.length):over j [v] l=l.set j v:=by
 unfold over
 split
 ·rename_i h
  obtain ⟨rfl,h2⟩:=h
  match l,h2 with
  | [a],_=>rfl
 ·rw [List.set_eq_take_append_cons_drop,if_pos hj];simp
theorem sub_all {α : Type} (l:List α):sub 0 l.length l=l:=by simp [sub]
section
variable {sz:Nat} {xs:List (List AV)} {o:AObj} (h:RowRep sz xs o)
include h
theorem RowRep.idx {n:Nat} (hn:xs.length=n) (s:St) (z:Bool) (k:Nat) (i:Int) (h0:0≤i) (hi:i<(n:Int)):idxAt s z k sz n i o=some (.ptr z k sz n i.toNat 0,s):=by
 rcases h with rfl | ⟨ps,rfl,rfl⟩
 ·simp [idxAt,hn,h0,hi]
 ·rw [List.length_map] at hn;simp [idxAt,hn,h0,hi]
theorem RowRep.rd1 {n:Nat} (hn:xs.length=n) {i j:Nat} {c:List AV} (hi:i<n) (hc:xs.getD i []=c) (hl:c.length=sz) (hj:j+1≤sz):o.rd 1 n i j sz false=some (c.getD j .bot):=by
 rcases h with rfl | ⟨ps,rfl,rfl⟩
 ·rw [AObj.rd,if_pos ⟨rfl,hn,hi,hj⟩,hc];simp
 ·rw [List.length_map] at hn
  rw [map_getD] at hc
  rw [AObj.rd,if_pos ⟨rfl,hn,hi,hj⟩]
  subst hc
  rw [List.length_map] at hl
  rw [map_getD1 (by omega)]
  simp
theorem RowRep.rdA {n:Nat} (hn:xs.length=n) {i:Nat} {c:List AV} (hi:i<n) (hc:xs.getD i []=c) (hl:c.length=sz):o.rd sz n i 0 sz true=some (ofCells c):=by
 rcases h with rfl | ⟨ps,rfl,rfl⟩
 ·rw [AObj.rd,if_pos ⟨rfl,hn,hi,by omega⟩,hc]
  have:=sub_all c
  rw [hl] at this
  simp [this]
 ·rw [List.length_map] at hn
  rw [map_getD] at hc
  rw [AObj.rd,if_pos ⟨rfl,hn,hi,by omega⟩]
  subst hc
  rw [List.length_map] at hl
  have:=sub_all (ps.getD i [])
  rw [hl] at this
  rw [this,ofCells_map]
  simp
theorem RowRep.wr1 {n : Nat} (hn : xs.length = n) {i j : Nat} {c : List AV} (hi : i < n) (hc : xs.getD i [] = c) (hl : c.length = sz) (hj : j + 1 ≤ sz) (v : AV) : ∃ o', o.wr n i j sz [v] = some o' ∧ RowRep sz (xs.set i (c.set j v)) o' := by
  rcases h with rfl | ⟨ps,rfl,rfl⟩
  · refine ⟨_,by rw [AObj.wr,if_pos ⟨rfl,hn,hi,hj⟩],.inl ?_⟩
    rw [hc,over_one v c (by omega)]
  · rw [List.length_map] at hn
    rw [map_getD] at hc
    have hpl:(ps.getD i []).length=sz:=by rw [← hl, ← hc,List.length_map]
    rw [AObj.wr,if_pos ⟨rfl,hn,hi,hj⟩]
    cases hp:pures [v] with
    | none =>
      refine ⟨_,rfl,.inl ?_⟩
      rw [over_one v _ (by rw [List.length_map];omega),hc]
    | some qs =>
      have:=pures_some hp
      match qs,this with
      | [w], e =>
        simp only [List.map_cons,List.map_nil,List.cons.injEq,and_true] at e
        subst e
        refine ⟨_,rfl,.inr ⟨_,rfl, ?_⟩⟩
        rw [over_one w _ (by omega),List.map_set,List.map_set,hc]
theorem RowRep.app {n bytes:Nat} (hn:xs.length=n) (hb:(n+1)*bytes≤140737488355328∧n+1≤140737488355328) {c:List AV} (hl:c.length=sz) (hc:noLocals c=true):∃ o',(∀ (s:St) (k:Nat),appendTo s true k n sz bytes o (.lit [c])=some (.own true k (n+1),s.putObj true k o'))∧RowRep sz (xs++[c]) o':=by
  have hk:okFor true [c]=true:=by simp [okFor,hc]
  rcases h with rfl | ⟨ps,rfl,rfl⟩
  · refine ⟨.cells sz (xs++[c]),fun s k => ?_,.inl rfl⟩
    simp only [appendTo,hn,List.length_singleton,List.length_append,List.all_cons,List.all_nil,hl,beq_self_eq_true,Bool.and_self,hb,and_self,if_true,hk]
  · rw [List.length_map] at hn
    cases hp:pures c with
    | some qs =>
      refine ⟨.pcells sz (ps++[qs]),fun s k => ?_,.inr ⟨_,rfl, ?_⟩⟩
      · simp only [appendTo,hn,List.length_singleton,List.length_append,List.all_cons,List.all_nil,hl,beq_self_eq_true,Bool.and_self,hb,and_self,if_true,puress,hp]
      · rw [pures_some hp];simp
    | none =>
      refine ⟨.cells sz (ps.map (fun c=>c.map AV.p)++[c]),fun s k => ?_,.inl rfl⟩
      simp only [appendTo,hn,List.length_singleton,List.length_append,List.length_map,List.all_cons,List.all_nil,hl,beq_self_eq_true,Bool.and_self,hb,and_self,if_true,puress,hp,hk]
end
theorem RowRep.nil (sz:Nat):RowRep sz [] (.pcells sz []):=.inr ⟨[],rfl,rfl⟩
theorem cells_ofCells (c:List AV):(ofCells c).cells=some c:=by
 unfold ofCells
 cases h:pures c with
 | some ps=>rw [pures_some h];rfl
 | none=>rfl
def liveL (S:MS):List Nat:=(List.range S.N).filter fun h=>(S.st h).live
theorem mem_liveL {S:MS} {h:Nat}:h ∈ liveL S↔h<S.N∧(S.st h).live=true:=by simp [liveL]
theorem liveL_nodup (S:MS):(liveL S).Nodup:=List.nodup_range.filter _
theorem liveL_len (S:MS):(liveL S).length≤S.N:=by
 have:=List.length_filter_le (fun h=>(S.st h).live) (List.range S.N)
 simpa [liveL] using this
theorem live_liveL {S:MS} {h:Int} (hl:liveB S h=true):∃ c:Nat,h=(c:Int)∧c ∈ liveL S:=by
 obtain ⟨c,h1,h2,h3⟩:=live_nat hl
 exact ⟨c,h1,mem_liveL.2 ⟨h2,h3⟩⟩
theorem liveB_iff {S : MS} {c : Nat} : liveB S (c : Int) = true ↔ c ∈ liveL S := by
  rw [mem_liveL]
  exact ⟨fun h => by obtain ⟨d, h1, h2, h3⟩ := live_nat h; have : d = c := by omega
                     subst this;exact ⟨h2,h3⟩,fun h=>live_mk h.1 h.2⟩
def posL (L:List Nat) (id:Int):Int:=if L.findIdx (fun h:Nat=>(h:Int)==id)<L.length then (L.findIdx (fun h:Nat=>(h:Int)==id):Int) else -1
theorem posL_in {L:List Nat} {c:Nat} (h:c ∈ L):∃ i:Nat,posL L (c:Int)=(i:Int)∧L[i]? = some c:=by
 have h1:L.findIdx (fun h:Nat=>(h:Int)==(c:Int))<L.length:=List.findIdx_lt_length_of_exists ⟨c,h,by simp⟩
 refine ⟨_,by rw [posL,if_pos h1], ?_⟩
 have:=List.findIdx_getElem (xs:=L) (p:=fun h:Nat=>(h:Int)==(c:Int)) (w:=h1)
 rw [List.getElem?_eq_getElem h1]
 simp only [beq_iff_eq] at this
 congr 1;omega
theorem posL_out {L:List Nat} {id:Int} (h:∀ c ∈ L,(c:Int)≠id):posL L id = -1:=by
 rw [posL,if_neg]
 intro h1
 have:=List.findIdx_getElem (xs:=L) (p:=fun h:Nat=>(h:Int)==id) (w:=h1)
 simp only [beq_iff_eq] at this
 exact h _ (List.getElem_mem h1) this
theorem posL_dead {S:MS} {id:Int} (h:liveB S id=false):posL (liveL S) id = -1:=posL_out fun c hc e=>by
 rw [← e,liveB_iff.2 hc] at h;cases h
def nAV (h:Nat) (s:MNode) (k:AV):List AV:=[.p (.int .i64 h),.p (.int .i64 s.up),k,.p (.str s.tag),.p (.str s.key),.p (.str s.text),.p (.list (s.attrs.map Attr.pv))]
def rowsD (L:List Nat) (st:Nat→MNode) (av:Nat→AV):List (List AV):=L.map fun h=>nAV h (st h) (av h)
section
variable {L:List Nat} {st:Nat→MNode} {av:Nat→AV}
theorem rowsD_len:(rowsD L st av).length=L.length:=by simp [rowsD]
theorem rowsD_get {i c:Nat} (h:L[i]? = some c):(rowsD L st av).getD i []=nAV c (st c) (av c):=by
 rw [List.getD_eq_getElem?_getD,rowsD,List.getElem?_map,h];rfl
theorem rowsD_set (hn:L.Nodup) {i c:Nat} (h:L[i]? = some c) (s:MNode) (a:AV):(rowsD L st av).set i (nAV c s a)=rowsD L (upd st c s) (upd av c a):=by
 apply List.ext_getElem
 ·simp [rowsD]
 ·intro k h1 h2
  have hk:k<L.length:=by simpa [rowsD] using h2
  obtain ⟨hi,e⟩:=List.getElem?_eq_some_iff.1 h
  rw [List.getElem_set]
  simp only [rowsD,List.getElem_map]
  by_cases e2:i=k
  ·subst e2;rw [if_pos rfl,e,upd_at,upd_at]
  ·rw [if_neg e2]
   have:L[k]≠c:=fun e3=>e2 ((List.getElem_inj hn).1 (e.trans e3.symm))
   rw [upd_ne this,upd_ne this]
theorem rowsD_push {c:Nat} (h:c ∉ L) (s:MNode) (a:AV):rowsD L st av++[nAV c s a]=rowsD (L++[c]) (upd st c s) (upd av c a):=by
 simp only [rowsD,List.map_append,List.map_cons,List.map_nil,upd_at]
 congr 1
 apply List.map_congr_left
 intro k hk
 have:k≠c:=fun e=>h (e ▸ hk)
 rw [upd_ne this,upd_ne this]
theorem rowsD_congr {st':Nat→MNode} {av':Nat→AV} (h:∀ k ∈ L,st k=st' k∧av k=av' k):rowsD L st av=rowsD L st' av':=by
 unfold rowsD
 apply List.map_congr_left
 intro k hk
 rw [(h k hk).1,(h k hk).2]
end
inductive KG (g:List AObj):AV→List Int→Prop
 | none:KG g .nils []
 | own {r:Nat} {ks:List Int}:g[r]? = some (.pcells 1 (intsPV ks))→KG g (.own true r ks.length) ks
 | list {ks:List Int}:KG g (.p (.list (intsPV ks))) ks
theorem KG.inv {g:List AObj} {a:AV} {ks:List Int} (h:KG g a ks):(a = .nils∧ks=[])∨(∃ r,a = .own true r ks.length∧g[r]? = some (.pcells 1 (intsPV ks)))∨a = .p (.list (intsPV ks)):=by
 cases h with
 | none=>exact .inl ⟨rfl,rfl⟩
 | own h=>exact .inr (.inl ⟨_,rfl,h⟩)
 | list=>exact .inr (.inr rfl)
theorem KG.keep {g g':List AObj} {a:AV} {ks:List Int} (h:KG g a ks) (hg:∀ r,refOf a=some r→g'[r]? = g[r]?):KG g' a ks:=by
 cases h with
 | none=>exact .none
 | own h=>exact .own (by rw [hg _ rfl];exact h)
 | list=>exact .list
theorem KG.ref_lt {g:List AObj} {a:AV} {ks:List Int} (h:KG g a ks) {r:Nat} (hr:refOf a=some r):r<g.length:=by
  cases h with
  | none=>cases hr
  | own h =>
    simp only [refOf,Option.some.injEq] at hr
    subst hr
    exact (List.getElem?_eq_some_iff.1 h).1
  | list=>cases hr
theorem KG.noLocal {g:List AObj} {a:AV} {ks:List Int} (h:KG g a ks):noLocal a=true:=by
 cases h <;> simp [Go.TA.noLocal]
abbrev DP (p:Nat):AV:=.ptr true p 2 1 0 0
structure DC (L:List Nat) (st:Nat→MNode) (nx:Int) (av:Nat→AV) (p q:Nat) (g:List AObj):Prop where
 obj:g[p]? = some (.cells 2 [[.own true q L.length,.p (.int .i64 nx)]])
 row:∃ o,g[q]? = some o∧RowRep 7 (rowsD L st av) o
 pq:p≠q
 nodup:L.Nodup
structure DM (L:List Nat) (st:Nat→MNode) (kd:Nat→List Int) (nx:Int) (av:Nat→AV) (p q:Nat) (g:List AObj):Prop where
 core:DC L st nx av p q g
 kids:∀ h,h ∈ L→KG g (av h) (kd h)
 away:∀ h,h ∈ L→refOf (av h)≠some p∧refOf (av h)≠some q
 disj:∀ h h',h ∈ L→h' ∈ L→h≠h'→refOf (av h)=none∨refOf (av h)≠refOf (av h')
structure DFr (L:List Nat) (av:Nat→AV) (p q:Nat) (g:List AObj) (L':List Nat) (av':Nat→AV) (q':Nat) (g':List AObj):Prop where
 len:g.length≤g'.length
 keep:∀ j,j<g.length→j≠p→j≠q→(∀ h,h ∈ L→refOf (av h)≠some j)→g'[j]? = g[j]?
 row:q'=q∨g.length≤q'
 refs:∀ h,h ∈ L'→∀ j,refOf (av' h)=some j→j<g.length→∃ h0,h0 ∈ L∧refOf (av h0)=some j
theorem DFr.refl (L:List Nat) (av:Nat→AV) (p q:Nat) (g:List AObj):DFr L av p q g L av q g:=⟨Nat.le_refl _,fun _ _ _ _ _=>rfl,.inl rfl,fun h hh j hj _=>⟨h,hh,hj⟩⟩
theorem DFr.trans {L L' L'':List Nat} {av av' av'':Nat→AV} {p q q' q'':Nat} {g g' g'':List AObj} (h1:DFr L av p q g L' av' q' g') (h2:DFr L' av' p q' g' L'' av'' q'' g''):DFr L av p q g L'' av'' q'' g'' where
 len:=Nat.le_trans h1.len h2.len
 keep j hj hp hq hn:=by
  rw [h2.keep j (Nat.lt_of_lt_of_le hj h1.len) hp (by rcases h1.row with e | e <;> omega) (fun h hh e=>by
   obtain ⟨h0,hh0,e0⟩:=h1.refs h hh j e hj
   exact hn h0 hh0 e0)]
  exact h1.keep j hj hp hq hn
 row:=by
  rcases h1.row with e | e <;> rcases h2.row with e2 | e2
  ·exact .inl (e2.trans e)
  ·exact .inr (Nat.le_trans h1.len e2)
  ·exact .inr (by omega)
  ·exact .inr (Nat.le_trans h1.len e2)
 refs h hh j hj hl:=by
  obtain ⟨h1',hh1,e1⟩:=h2.refs h hh j hj (Nat.lt_of_lt_of_le hl h1.len)
  exact h1.refs h1' hh1 j e1 hl
section
variable {L:List Nat} {st:Nat→MNode} {kd:Nat→List Int} {nx:Int} {av:Nat→AV} {p q:Nat} {g:List AObj}
theorem wr_node {o:AObj} (hr:RowRep 7 (rowsD L st av) o) {i c:Nat} (hi:L[i]? = some c) {j:Nat} (hj:j+1≤7) (v:AV):∃ o',o.wr L.length i j 7 [v]=some o'∧RowRep 7 ((rowsD L st av).set i ((nAV c (st c) (av c)).set j v)) o' :=
 hr.wr1 rowsD_len (List.getElem?_eq_some_iff.1 hi).1 (rowsD_get hi) rfl hj v
theorem rows_kids (hn:L.Nodup) {i c:Nat} (hi:L[i]? = some c) (v:AV):(rowsD L st av).set i ((nAV c (st c) (av c)).set 2 v)=rowsD L st (upd av c v):=by
 have:=rowsD_set (st:=st) (av:=av) hn hi (st c) v
 simp only [nAV] at this ⊢
 simp only [List.set_cons_succ,List.set_cons_zero]
 rw [this]
 refine rowsD_congr fun k _=>⟨?_,rfl⟩
 by_cases e:k=c
 ·subst e;rw [upd_at]
 ·rw [upd_ne e]
theorem rows_node (hn:L.Nodup) {i c:Nat} (hi:L[i]? = some c) (s:MNode):(rowsD L st av).set i (nAV c s (av c))=rowsD L (upd st c s) av:=by
 rw [rowsD_set hn hi]
 refine rowsD_congr fun k _=>⟨rfl, ?_⟩
 by_cases e:k=c
 ·subst e;rw [upd_at]
 ·rw [upd_ne e]
def killG (g:List AObj):AV→List AObj
 | .own true r _=>g.set r .dead
 | _=>g
theorem killG_len (g:List AObj) (a:AV):(killG g a).length=g.length:=by unfold killG;split <;> simp
theorem killG_get {g:List AObj} {a:AV} {j:Nat} (h:refOf a≠some j):(killG g a)[j]? = g[j]? := by
 unfold killG
 split
 ·rename_i r m
  rw [List.getElem?_set,if_neg]
  intro e;subst e;exact h rfl
 ·rfl
theorem DC.set (h:DC L st nx av p q g) {st':Nat→MNode} {av':Nat→AV} {o':AObj} (hr:RowRep 7 (rowsD L st' av') o'):DC L st' nx av' p q (g.set q o') where
 obj:=by rw [List.getElem?_set,if_neg (fun e=>h.pq e.symm)];exact h.obj
 row:=by
  obtain ⟨o,ho,_⟩:=h.row
  exact ⟨o',by rw [List.getElem?_set,if_pos rfl,if_pos (List.getElem?_eq_some_iff.1 ho).1],hr⟩
 pq:=h.pq
 nodup:=h.nodup
theorem DC.kill (h:DC L st nx av p q g) {a:AV} (h1:refOf a≠some p) (h2:refOf a≠some q):DC L st nx av p q (killG g a) where
 obj:=by rw [killG_get h1];exact h.obj
 row:=by rw [killG_get h2];exact h.row
 pq:=h.pq
 nodup:=h.nodup
theorem DC.more (h:DC L st nx av p q g) (r:List AObj):DC L st nx av p q (g++r) where
 obj:=by rw [List.getElem?_append_left (List.getElem?_eq_some_iff.1 h.obj).1];exact h.obj
 row:=by
  obtain ⟨o,h1,h2⟩:=h.row
  exact ⟨o,by rw [List.getElem?_append_left (List.getElem?_eq_some_iff.1 h1).1];exact h1,h2⟩
 pq:=h.pq
 nodup:=h.nodup
theorem DM.fix (h : DM L st kd nx av p q g) {c : Nat} (hc : c ∈ L) (ks : List Int) {o' : AObj} (hr : RowRep 7 (rowsD L st (upd av c (.p (.list (intsPV ks))))) o') : DM L st (upd kd c ks) nx (upd av c (.p (.list (intsPV ks)))) p q ((killG g (av c)).set q o') where
  core:=(h.core.kill (h.away c hc).1 (h.away c hc).2).set hr
  kids k hk:=by
    by_cases e:k=c
    · subst e;rw [upd_at,upd_at];exact .list
    · rw [upd_ne e,upd_ne e]
      refine (h.kids k hk).keep fun r hr => ?_
      rw [List.getElem?_set,if_neg (fun e=>(h.away k hk).2 (by rw [e];exact hr)),killG_get]
      intro e2
      rcases h.disj k c hk hc e with h1 | h1
      · rw [h1] at hr;cases hr
      · exact h1 (by rw [hr,e2])
  away k hk:=by
    by_cases e:k=c
    · subst e;rw [upd_at];simp [refOf]
    · rw [upd_ne e];exact h.away k hk
  disj k k' hk hk' hne:=by
    by_cases e:k=c
    · subst e;left;rw [upd_at];rfl
    · rw [upd_ne e]
      by_cases e':k'=c
      · subst e'
        rw [upd_at]
        cases hr:refOf (av k) with
        | none=>exact .inl rfl
        | some q=>exact .inr (by simp [refOf])
      · rw [upd_ne e'];exact h.disj k k' hk hk' hne
theorem DFr.fix (h:DM L st kd nx av p q g) {c:Nat} (hc:c ∈ L) (ks:List (List PV)) (o':AObj):DFr L av p q g L (upd av c (.p (.list ks))) q ((killG g (av c)).set q o') where
 len:=by rw [List.length_set,killG_len];exact Nat.le_refl _
 keep j hj hp hq hn:=by rw [List.getElem?_set,if_neg (fun e=>hq e.symm),killG_get (hn c hc)]
 row:=.inl rfl
 refs k hk j hj _:=by
  by_cases e:k=c
  ·subst e;rw [upd_at] at hj;cases hj
  ·rw [upd_ne e] at hj;exact ⟨k,hk,hj⟩
theorem DM.node (h:DM L st kd nx av p q g) (st':Nat→MNode) {o':AObj} (hr:RowRep 7 (rowsD L st' av) o'):DM L st' kd nx av p q (g.set q o') where
 core:=h.core.set hr
 kids k hk:=(h.kids k hk).keep fun r hr=>by rw [List.getElem?_set,if_neg (fun e=>(h.away k hk).2 (by rw [e];exact hr))]
 away:=h.away
 disj:=h.disj
theorem DFr.node (o':AObj):DFr L av p q g L av q (g.set q o') where
 len:=by rw [List.length_set];exact Nat.le_refl _
 keep j hj hp hq hn:=by rw [List.getElem?_set,if_neg (fun e=>hq e.symm)]
 row:=.inl rfl
 refs k hk j hj _:=⟨k,hk,hj⟩
end
theorem KG.frz {g:List AObj} {a:AV} {ks:List Int} (h:KG g a ks) (fr:List (Nat × AV)) (l:List (Nat × AObj)):Go.TA.frz ⟨fr,l,g⟩ a=some (.list (intsPV ks),⟨fr,l,killG g a⟩):=by
 cases h with
 | none=>rfl
 | own h=>simp only [Go.TA.frz,St.obj,if_true,h,intsPV_len,St.putObj,killG]
 | list=>rfl
def inL (l:List Int) (h b:Int):List Int:=(l.flatMap fun k=>if k=b then [h,k] else [k])++if b=0 then [h] else []
theorem inL_none {l:List Int} {h b:Int} (hb:b ∉ l):(l.flatMap fun k=>if k=b then [h,k] else [k])=l:=by
  induction l with
  | nil=>rfl
  | cons a l ih =>
    simp only [List.mem_cons,not_or] at hb
    rw [List.flatMap_cons,if_neg (fun e=>hb.1 e.symm),ih hb.2];rfl
theorem inL_insI {l : List Int} {h b : Int} (hn : l.Nodup) (h0 : (0 : Int) ∉ l) (hb : b = 0 ∨ b ∈ l) : inL l h b = insI l h b := by
  unfold inL insI
  by_cases e:b=0
  · subst e
    rw [inL_none h0,if_pos rfl,if_pos rfl,List.take_length,List.drop_length]
  · have hm:b ∈ l:=by rcases hb with h1 | h1;exact absurd h1 e;exact h1
    rw [if_neg e,if_neg e,List.append_nil]
    induction l with
    | nil=>simp at hm
    | cons a l ih =>
      rw [List.nodup_cons] at hn
      simp only [List.mem_cons,not_or] at h0
      rw [List.flatMap_cons]
      by_cases ea:a=b
      · subst ea
        rw [if_pos rfl,inL_none hn.1]
        simp
      · have hm':b ∈ l:=by rcases List.mem_cons.1 hm with h1 | h1;exact absurd h1.symm ea;exact h1
        rw [if_neg ea,ih hn.2 h0.2 (.inr hm') hm',List.idxOf_cons]
        have:(a==b)=false:=by simpa using ea
        rw [this]
        simp
theorem flat_stepI {f:Int→List Int} {l:List Int} {i:Nat} {x:Int} (h:l[i]? = some x):(l.take (i+1)).flatMap f=(l.take i).flatMap f++f x:=by
 rw [List.take_add_one,h];simp
theorem in_len (l:List Int) (h b:Int):(l.flatMap fun k=>if k=b then [h,k] else [k]).length≤2*l.length:=by
  induction l with
  | nil=>simp
  | cons a l ih =>
    rw [List.flatMap_cons,List.length_append,List.length_cons]
    have:(if a=b then [h,a] else [a]).length≤2:=by split <;> simp
    omega
end Go.TA


end
section
/- A machine's rows, and its loose nodes. Plain. -/
namespace Go.TA
def rowsM (S:MS) (R:Nat):List GRow:=belowM S (R+1) [] 0 0
theorem pre_nil {S:MS}:PreO S [] 0:=⟨by simp,by simp,by simp⟩
theorem rowsM_len {R:Nat} {S:MS} (hS:S.Ok R) (R':Nat):(rowsM S R').length≤S.N:=(below_post hS (R'+1) [] 0 0 hS.pos pre_nil).len
def looseM (S:MS):List Int:=((liveL S).filter fun h:Nat => !(h==0) && decide ((S.st h).up<0)).map fun h:Nat=>(h:Int)
end Go.TA


end
section
/- What fields an operation's kind does not use: what they are. Plain. -/
namespace Go.TA
def nzI (n:Int):Bool := !(n==0)
def nzS (s:Bs):Bool := !(s==[])
def nzA (l:List Attr):Bool:=decide (0<(l.length:Int))
def none1 (x:GOp):Bool:=nzI x.node || (nzI x.up || (nzI x.before || (nzS x.name)))
def none2 (x:GOp):Bool:=nzS x.tag || (nzS x.key || (nzA x.attrs || (nzS x.name || (nzS x.text))))
def none3 (x:GOp):Bool:=nzS x.tag || (nzS x.key || (nzA x.attrs || (nzI x.up || (nzS x.name || (nzS x.text)))))
def none4 (x:GOp):Bool:=nzS x.tag || (nzS x.key || (nzA x.attrs || (nzI x.up || (nzI x.before || (nzS x.name || (nzS x.text))))))
def none5 (x:GOp):Bool:=nzS x.tag || (nzS x.key || (nzA x.attrs || (nzI x.up || (nzI x.before))))
def none6 (x:GOp):Bool:=nzS x.tag || (nzS x.key || (nzA x.attrs || (nzI x.up || (nzI x.before || (nzS x.text)))))
def none7 (x:GOp):Bool:=nzS x.tag || (nzS x.key || (nzA x.attrs || (nzI x.up || (nzI x.before || (nzS x.name)))))
def noneB (x:GOp):Bool:=if x.kind=1 then none1 x else if x.kind=2 then none2 x else if x.kind=3 then none3 x else if x.kind=4 then none4 x else if x.kind=5 then none5 x else if x.kind=6 then none6 x else if x.kind=7 then none7 x else false
def used1 (x:GOp):GOp:=⟨x.kind,0,0,0,x.tag,x.key,[],x.text,x.attrs⟩
def used2 (x:GOp):GOp:=⟨x.kind,x.node,x.up,x.before,[],[],[],[],[]⟩
def used3 (x:GOp):GOp:=⟨x.kind,x.node,0,x.before,[],[],[],[],[]⟩
def used4 (x:GOp):GOp:=⟨x.kind,x.node,0,0,[],[],[],[],[]⟩
def used5 (x:GOp):GOp:=⟨x.kind,x.node,0,0,[],[],x.name,x.text,[]⟩
def used6 (x:GOp):GOp:=⟨x.kind,x.node,0,0,[],[],x.name,[],[]⟩
def used7 (x:GOp):GOp:=⟨x.kind,x.node,0,0,[],[],[],x.text,[]⟩
def usedOp (x:GOp):GOp:=if x.kind=1 then used1 x else if x.kind=2 then used2 x else if x.kind=3 then used3 x else if x.kind=4 then used4 x else if x.kind=5 then used5 x else if x.kind=6 then used6 x else if x.kind=7 then used7 x else x
end Go.TA


end
section
/- Which names may be, and what is wrong with attributes. Plain. -/
namespace Go.TA
def smallB (c:UInt8):Bool:=decide ((97:Int)≤c.toNat) && decide ((c.toNat:Int)≤122)
def digitB (c:UInt8):Bool:=decide ((48:Int)≤c.toNat) && decide ((c.toNat:Int)≤57)
def innerB (more:Bool) (c:UInt8):Bool:=smallB c || (digitB c || (((c.toNat:Int)==45) || (more && (((c.toNat:Int)==58) || ((c.toNat:Int)==46)))))
def namedB (more:Bool) (s:Bs):Bool:=match s with
 | []=>false
 | c::r=>decide (s.length≤32) && smallB c && r.all (innerB more)
theorem drop_cons {α : Type} {l:List α} {i:Nat} {x : α} (h:l[i]? = some x):l.drop i=x::l.drop (i+1):=by rw [List.drop_eq_getElem?_toList_append,h];rfl
theorem namedB_len {more:Bool} {s:Bs} (h:namedB more s=true):s.length≤32:=by
 unfold namedB at h
 split at h
 ·cases h
 ·simp only [Bool.and_eq_true,decide_eq_true_eq] at h
  simp_all
def cmpB:Bs→Bs→Int
 | [],[]=>0
 | [],_::_ => -1
 | _::_,[]=>1
 | a::x,b::y=>if (a.toNat:Int)<b.toNat then -1 else if (b.toNat:Int)<a.toNat then 1 else cmpB x y
theorem cmpB_less : ∀ {x y : Bs}, x ≠ y → (0 < cmpB x y ↔ (strLess x y || x == y) = false)
  | [],[],h=>absurd rfl h
  | [],b::y,h=>by simp [cmpB,strLess]
  | a::x,[],h=>by simp [cmpB,strLess]
  | a :: x, b :: y, h => by
    have e1:(a<b)=((a.toNat:Int)<b.toNat):=by rw [UInt8.lt_iff_toNat_lt];simp
    simp only [cmpB,strLess]
    by_cases h1:(a.toNat:Int)<b.toNat
    · simp [h1,e1]
    · by_cases h2:(b.toNat:Int)<a.toNat
      · have hne:a≠b:=fun e=>by subst e;omega
        have hne':¬ (a::x=b::y):=fun e=>hne (by injection e)
        simp [h1,h2,e1,hne]
      · have he:a=b:=UInt8.toNat_inj.1 (by omega)
        subst he
        have hxy:x≠y:=fun e=>h (by rw [e])
        have:=cmpB_less hxy
        simp only [h1,if_false,this,e1]
        simp [h1]
def attrErr (p : List Attr) (i : Nat) (a : Attr) : Int :=
  if i=64 then 12 else if namedB true a.name=false then 8 else if 65536<(a.value.length:Int) then 3 else match p with
    | []=>0
    | b::_=>if b.name=a.name then 10 else if 0<cmpB b.name a.name then 9 else 0
def attrsChk:List Attr→Nat→List Attr→Int × Int
 | _,_,[]=>(0,0)
 | p,i,a::l=>if attrErr p i a=0 then attrsChk [a] (i+1) l else (i,attrErr p i a)
def attrsErr (l:List Attr):Int:=(attrsChk [] 0 l).2
def prevOf (l:List Attr):Nat→List Attr
 | 0=>[]
 | i+1=>(l[i]?).toList
theorem chk_step {l:List Attr} {i:Nat} {a:Attr} (h:l[i]? = some a):attrsChk (prevOf l i) i (l.drop i)=if attrErr (prevOf l i) i a=0 then attrsChk (prevOf l (i+1)) (i+1) (l.drop (i+1)) else ((i:Int),attrErr (prevOf l i) i a):=by
 have e:prevOf l (i+1)=[a]:=by simp [prevOf,h]
 rw [drop_cons h,e]
 simp only [attrsChk]
def chkOut (r:Int × Int):Ex × St:=if r.2=0 then (.exit 0,⟨[],[],[]⟩) else (.ret,⟨[(2,.p (.int .i64 r.1)),(3,.p (.int .i64 r.2))],[],[]⟩)
end Go.TA


end
