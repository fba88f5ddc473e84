/- Part 10 of 15 of a proof; joined from InsAttr, PrimD, IrnTab, IrnDLink, DChain, IrnDPlace, IrnNames, IrnAttrsP, IrnCloneA. A row of attributes is cloned. -/
import Derived.Test.YtbgbmdjfogohnaaGreatDoorIr9
import Derived.Test.YtbgbmdjfogohnaaGreatDoorProg
import Derived.Shelf.Spec.SlicesInsert
import Derived.Shelf.Spec.SlicesInsertGrow
import Derived.Test.YtbgbmdjfogohnaaGreatDoorIr8
import Derived.Test.YtbgbmdjfogohnaaGreatDoorIr6
import Derived.KernelRfl
import Derived.Test.YtbgbmdjfogohnaaGreatDoorShelfItoa
import Derived.Test.YtbgbmdjfogohnaaGreatDoorShelfinternalstringsliteIndexByte
import Derived.Test.YtbgbmdjfogohnaaGreatDoorShelfstringsIndexByte
import Derived.Test.YtbgbmdjfogohnaaGreatDoorIr1
import Derived.Test.YtbgbmdjfogohnaaGreatDoorIr7
set_option linter.unusedSimpArgs false
set_option linter.unusedVariables false
set_option linter.defProp false
set_option maxRecDepth 100000
set_option maxHeartbeats 8000000
section
/- slices.Insert at api.Attr: its roads, and what it is. -/
namespace Go.TA.Tryz
open Go.Shelf Go.RowKit Go.Lib Go.Proofs
def zeroA:Value:=.agg #[.string ⟨#[]⟩,.string ⟨#[]⟩]
set_option maxHeartbeats 4000000 in
set_option maxRecDepth 100000 in
theorem ins_shiftA (b n c i vb voff m vc : Nat) (cs vs : List Value) (w : World) (hi : i < n) (hm : 0 < m) (hroom : n + m ≤ c) (hc63 : c ≤ 9223372036854775807) (hvb : vb ≠ b)
    (hcl:cs.length=n*2) (hvl:vs.length=m*2)
    (hcs:∀ j v,cs[j]? = some v→w.cell? ⟨b,j,none⟩=some v) (hsp:∀ j,j<(n+m)*2→(w.cell? ⟨b,j,none⟩).isSome=true) (hfz:∀ j,j<(n+m)*2→w.frozen? ⟨b,j,none⟩=false)
    (hvs:∀ j v,vs[j]? = some v→w.cell? ⟨vb,voff+j,none⟩=some v) (h1c:∀ v ∈ cs,v.oneCell'=true) (h1v:∀ v ∈ vs,v.oneCell'=true)
    (tA tB:TypeId) (kA kB:Nat) (hsa:w.shape? vb=some (tA,kA)) (hsb:w.shape? b=some (tB,kB)) (hkA:kA≠0) (hfb:∀ j,w.frozen? ⟨b,j,none⟩=false) :
    Calls Go.Proofs.Tryz.prog 172 #[.slice (some ⟨b,0,none⟩) n c,.int .i64 i,.slice (some ⟨vb,voff,none⟩) m vc] w fun e w'=>
      e = .returned (.slice (some ⟨b,0,none⟩) (n+m) c)∧w'=(w.drew.setCells b ((i+m)*2) (cs.drop (i*2))).setCells b (i*2) vs:=by
  have mixed:Go.Proofs.Tryz.prog.follows .mixedOrders=true:=by kernel_rfl
  have hz1:¬ ((m:Int)=0):=by omega
  have hz2:¬ ((i:Int)=(n:Int)):=by omega
  have hov:∀ lb cb,(callFunc 201 #[.slice (some ⟨vb,voff,none⟩) m vc,.slice (some ⟨b,(i+m)*2,none⟩) lb cb]).run Go.Proofs.Tryz.prog w = .ok (.value (.bool false)) w:=fun lb cb=>by
    rw [run_callFunc_extern Tryz.func201 (by kernel_rfl) (by kernel_rfl) (by kernel_rfl) (e:=Extern.SlicesOverlaps.overlaps #[34,34] #[4]) (by kernel_rfl),
      run_overlaps_own w 34 4 82 Tryz.underlying34 2 (fun w=>by kernel_rfl) ⟨vb,voff,none⟩ ⟨b,(i+m)*2,none⟩ m vc lb cb hvb tA tB kA kB hsa hsb hkA (hfb _) (hfb _)]
    rfl
  have hsz:(Go.Proofs.Tryz.prog.info? 82).map (·.size)=some 2:=by kernel_rfl
  have hw1:IntKind.i64.wrap ((i:Int)+(m:Int))=(i:Int)+(m:Int):=by rw [IntKind.wrap_i64];omega
  have hb1:(0:Int)≤(i:Int)+(m:Int):=by omega
  have hin:i≤n:=by omega
  have htn:((i:Int)+(m:Int)).toNat=i+m:=by omega
  have hb2:¬ (c=i+m):=by omega
  have hb3:(i:Int)≤(n:Int)+(m:Int):=by omega
  have hb4:¬ (c=i):=by omega
  have hdl:(cs.drop (i*2)).length=(n - i)*2:=by rw [List.length_drop];omega
  have hcp1:∀ ty dc sc,(Builtin.copy_ #[34,34] ty #[.slice (some ⟨b,(i+m)*2,none⟩) (n+m - (i+m)) dc,.slice (some ⟨b,i*2,none⟩) (n+m - i) sc]).run Go.Proofs.Tryz.prog w.drew = .ok (goInt (Nat.min (n+m - i) (n+m - (i+m)))) (w.drew.setCells b ((i+m)*2) (cs.drop (i*2))):=fun ty dc sc=>
    run_copy_k w.drew _ _ ty 82 2 b ((i+m)*2) (n+m - (i+m)) dc ⟨b,i*2,none⟩ (n+m - i) sc (cs.drop (i*2)) Tryz.underlying34 hsz (by rw [hdl];simp only [Nat.min_def];split <;> omega)
      (fun j v hj=>by rw [Addr.add_lit];exact hcs (i*2+j) v (by rwa [List.getElem?_drop] at hj))
      (fun j hj=>hsp _ (by omega)) (fun j hj=>hfz _ (by omega)) (fun v hv=>h1c v (List.mem_of_mem_drop hv))
  obtain ⟨W1,hW1⟩:∃ W1,W1=w.drew.setCells b ((i+m)*2) (cs.drop (i*2)):=⟨_,rfl⟩
  have hsp1:∀ k,k<(n+m)*2→(W1.cell? ⟨b,k,none⟩).isSome=true:=fun k hk=>by
    rw [hW1]
    exact isSome_setCells b (cs.drop (i*2)) ((i+m)*2) w.drew (fun j hj=>hsp ((i+m)*2+j) (by rw [hdl] at hj;omega)) k (hsp k hk)
  have hcp2:∀ (W:World),(∀ x,W.cell? x=W1.cell? x)→(∀ x,W.frozen? x=W1.frozen? x)→∀ ty dc,(Builtin.copy_ #[34,34] ty #[.slice (some ⟨b,i*2,none⟩) (n+m - i) dc,.slice (some ⟨vb,voff,none⟩) m vc]).run Go.Proofs.Tryz.prog W = .ok (goInt (Nat.min m (n+m - i))) (W.setCells b (i*2) vs):=fun W hWc hWf ty dc=>
    run_copy_k W _ _ ty 82 2 b (i*2) (n+m - i) dc ⟨vb,voff,none⟩ m vc vs Tryz.underlying34 hsz (by rw [hvl];simp only [Nat.min_def];split <;> omega)
      (fun j v hj=>by
        rw [Addr.add_lit,hWc,hW1,World.cell?_setCells_out b _ _ _ _ (fun h _=>absurd h hvb)]
        exact hvs j v hj)
      (fun j hj=>by rw [hWc];exact hsp1 _ (by omega)) (fun j hj=>by rw [hWf,hW1,World.frozen?_setCells];exact hfz _ (by omega)) h1v
  rw [← hW1] at hcp1
  go_enter Tryz.func172,Tryz.ntmps172
  go_wp2_with (simp only [hov])
  go_region_law_o (refine step_copy_runI rfl _ _ 34 34 rfl _ _ (by simp [Act.eval,Act.put]) (by simp [Act.eval,Act.put]) (hcp1 _ _ _) ?_)
  go_wp2_with (at_builtin;refine wpList_copy_runI _ rfl _ _ 34 34 rfl _ _ rfl rfl (hcp2 _ (fun _=>rfl) (fun _=>rfl) _ _) ?_)
  go_ret
  first | exact ⟨rfl,rfl⟩ | exact ⟨rfl,by rw [hW1]⟩
set_option maxHeartbeats 4000000 in
set_option maxRecDepth 100000 in
theorem ins_end_roomA (b n c vb voff m vc:Nat) (vs:List Value) (w:World) (hm:0<m) (hroom:n+m≤c) (hc63:c≤9223372036854775807) (hvl:vs.length=m*2)
  (hsp:∀ j,j<m*2→(w.cell? ⟨b,n*2+j,none⟩).isSome=true) (hfz:∀ j,j<m*2→w.frozen? ⟨b,n*2+j,none⟩=false)
  (hvs:∀ j v,vs[j]? = some v→w.cell? ⟨vb,voff+j,none⟩=some v) (h1v:∀ v ∈ vs,v.oneCell'=true) :
  Calls Go.Proofs.Tryz.prog 172 #[.slice (some ⟨b,0,none⟩) n c,.int .i64 n,.slice (some ⟨vb,voff,none⟩) m vc] w fun e w'=>
   e = .returned (.slice (some ⟨b,0,none⟩) (n+m) c)∧w'=w.setCells b (n*2) vs:=by
 have mixed:Go.Proofs.Tryz.prog.follows .mixedOrders=true:=by kernel_rfl
 have hz1:¬ ((m:Int)=0):=by omega
 obtain ⟨i0,hi0,hs0⟩:∃ i,Go.Proofs.Tryz.prog.info? 82=some i∧i.size=2:=⟨_,rfl,rfl⟩
 have hsrc:Src Go.Proofs.Tryz.prog i0.size 34 (.slice (some ⟨vb,voff,none⟩) m vc) m vs w:=Src.ofSlice w Tryz.underlying34 ⟨vb,voff,none⟩ m vc vs (by rw [hs0];omega) (fun j u hj=>by rw [Addr.add_lit];exact hvs j u hj) h1v
 go_enter Tryz.func172,Tryz.ntmps172
 go_wp2_with (at_builtin;refine wpList_append_room_src _ rfl _ _ 34 34 rfl 82 i0 Tryz.underlying34 hi0 b 0 n c rfl _ rfl m vs hsrc hroom (by rw [hs0,Nat.zero_add,hvl];first | exact hsp | simpa using hsp) (by rw [hs0,Nat.zero_add,hvl];first | exact hfz | simpa using hfz) ?_)
 go_ret
 first | exact ⟨rfl,rfl⟩ | exact ⟨rfl,by rw [hs0,Nat.zero_add]⟩ | exact ⟨rfl,by rw [hs0,Nat.zero_add,Nat.mul_one]⟩
set_option maxHeartbeats 4000000 in
set_option maxRecDepth 100000 in
theorem ins_end_growA (base:Option Addr) (n c vb voff m vc:Nat) (cs vs:List Value) (w:World) (hm:0<m) (hnc:n≤c) (hroom:c<n+m) (hbig:(n+m)*32≤140737488355328)
    (hcl:cs.length=n*2) (hvl:vs.length=m*2) (hnil:base=none→n=0)
    (hcs:∀ a,base=some a→∀ j v,cs[j]? = some v→w.cell? (a.add j)=some v)
    (hvs:∀ j v,vs[j]? = some v→w.cell? ⟨vb,voff+j,none⟩=some v) (h1v:∀ v ∈ vs,v.oneCell'=true) :
    Calls Go.Proofs.Tryz.prog 172 #[.slice base n c,.int .i64 n,.slice (some ⟨vb,voff,none⟩) m vc] w fun e w'=>
      e = .returned (.slice (some ⟨w.heap.size,0,none⟩) (n+m) (grownCap w (n+m) c 82)) ∧
      w'=w.drew.alloc (.cells ((cs++vs).toArray++Builtin.zeroCells zeroA.cells (grownCap w (n+m) c 82 - (n+m))) 82):=by
  have mixed:Go.Proofs.Tryz.prog.follows .mixedOrders=true:=by kernel_rfl
  have hz1:¬ ((m:Int)=0):=by omega
  obtain ⟨i0,hi0,hs0,hz0,hb0⟩:∃ i,Go.Proofs.Tryz.prog.info? 82=some i∧i.size=2∧i.zero=some zeroA∧i.bytes=32:=⟨_,rfl,rfl,rfl,rfl⟩
  have hsrc:Src Go.Proofs.Tryz.prog i0.size 34 (.slice (some ⟨vb,voff,none⟩) m vc) m vs w:=Src.ofSlice w Tryz.underlying34 ⟨vb,voff,none⟩ m vc vs (by rw [hs0];omega) (fun j u hj=>by rw [Addr.add_lit];exact hvs j u hj) h1v
  have hold:(Builtin.firstCells i0.size n (.slice base n c)).run Go.Proofs.Tryz.prog w.drew = .ok cs.toArray w.drew:=by
    rw [hs0]
    cases base with
    | none =>
      have h0:=hnil rfl
      subst h0
      have hc0:cs=[]:=List.length_eq_zero_iff.1 (by simpa using hcl)
      rw [hc0]
      exact run_firstCells_none w.drew 2 0 0 c
    | some a=>exact run_firstCells_some w.drew 2 n a n c cs (by omega) (fun j v hj=>hcs a rfl j v hj)
  have hrun:∀ ty,(Builtin.append_ #[34,34] ty #[.slice base n c,.slice (some ⟨vb,voff,none⟩) m vc]).run Go.Proofs.Tryz.prog w=_:=fun ty=>
    run_append_grow_src w 34 34 ty 82 i0 zeroA Tryz.underlying34 hi0 hz0 base n c cs hold _ m vs hsrc hroom (by omega) (by rw [hb0];exact growslice_fits hroom hbig)
  go_enter Tryz.func172,Tryz.ntmps172
  cases base with
  | none =>
    have h0:=hnil rfl
    subst h0
    go_wp2_with (at_builtin;refine Lib.wpList_append_run _ rfl _ _ _ _ rfl _ _ rfl rfl _ _ (hrun _) ?_)
    go_ret
    exact ⟨rfl,rfl⟩
  | some a =>
    obtain ⟨ab,ao,asp⟩:=a
    go_wp2_with (at_builtin;refine Lib.wpList_append_run _ rfl _ _ _ _ rfl _ _ rfl rfl _ _ (hrun _) ?_)
    all_goals (go_ret;exact ⟨rfl,rfl⟩)
set_option maxHeartbeats 4000000 in
set_option maxRecDepth 100000 in
theorem ins_growA (b n c i vb voff m vc : Nat) (cs vs : List Value) (w : World) (hi : i < n) (hm : 0 < m) (hnc : n ≤ c) (hroom : c < n + m) (hbig : (n + m) * 32 ≤ 140737488355328)
    (hcl:cs.length=n*2) (hvl:vs.length=m*2)
    (hcs:∀ j v,cs[j]? = some v→w.cell? ⟨b,j,none⟩=some v)
    (hvs:∀ j v,vs[j]? = some v→w.cell? ⟨vb,voff+j,none⟩=some v) (h1c:∀ v ∈ cs,v.oneCell'=true) (h1v:∀ v ∈ vs,v.oneCell'=true) :
    Calls Go.Proofs.Tryz.prog 172 #[.slice (some ⟨b,0,none⟩) n c,.int .i64 i,.slice (some ⟨vb,voff,none⟩) m vc] w fun e w'=>
      e = .returned (.slice (some ⟨w.heap.size,0,none⟩) (n+m) (grownCap w (n+m) c 82)) ∧
      w'=(((w.alloc (.cells ((cs.take (i*2)).toArray++Builtin.zeroCells zeroA.cells (n+m - i)++Builtin.zeroCells zeroA.cells (grownCap w (n+m) c 82 - (n+m))) 82)).drew.setCells w.heap.size (i*2) vs).drew).setCells w.heap.size ((i+m)*2) (cs.drop (i*2)):=by
  have mixed:Go.Proofs.Tryz.prog.follows .mixedOrders=true:=by kernel_rfl
  obtain ⟨i0,hi0,hzs,hz0,hzb⟩:∃ i,Go.Proofs.Tryz.prog.info? 82=some i∧i.size=2∧i.zero=some zeroA∧i.bytes=32:=⟨_,rfl,rfl,rfl,rfl⟩
  have hz1:¬ ((m:Int)=0):=by omega
  have hz2:¬ ((i:Int)=(n:Int)):=by omega
  have hz3:(c:Int)<(n:Int)+(m:Int):=by omega
  have hsz:(Go.Proofs.Tryz.prog.info? 82).map (·.size)=some 2:=by kernel_rfl
  have hbw:b<w.heap.size:=block_lt_of_cell (hcs 0 _ (List.getElem?_eq_getElem (by omega)))
  have hvw:vb<w.heap.size:=block_lt_of_cell (hvs 0 _ (List.getElem?_eq_getElem (by omega)))
  have hkk:(n:Int)+(m:Int) - (i:Int)=((n+m - i:Nat):Int):=by omega
  have hik:i+(n+m - i)=n+m:=by omega
  have hold:(Builtin.firstCells i0.size i (.slice (some ⟨b,0,none⟩) i c)).run Go.Proofs.Tryz.prog w.drew = .ok (cs.take (i*2)).toArray w.drew:=by
    rw [hzs]
    exact run_firstCells_some w.drew 2 i ⟨b,0,none⟩ i c (cs.take (i*2)) (by rw [List.length_take];omega) (fun j v hj=>by
      rw [Addr.add_lit,Nat.zero_add]
      rw [List.getElem?_take] at hj
      split at hj
      · exact hcs j v hj
      · cases hj)
  have hrz:∀ ty,(Builtin.append_ #[34,3] ty #[.slice (some ⟨b,0,none⟩) i c,.int .i64 ((n:Int)+(m:Int) - (i:Int))]).run Go.Proofs.Tryz.prog w =
      .ok (.slice (some ⟨w.heap.size,0,none⟩) (n+m) (grownCap w (n+m) c 82)) (w.drew.alloc (.cells ((cs.take (i*2)).toArray++Builtin.zeroCells zeroA.cells (n+m - i)++Builtin.zeroCells zeroA.cells (grownCap w (n+m) c 82 - (n+m))) 82)):=fun ty=>by
    have h:=Lib.run_append_grow_zeros w 34 3 ty 82 i0 zeroA .i64 .i64 Tryz.underlying34 Tryz.underlying3 hi0 hz0 (some ⟨b,0,none⟩) i c (cs.take (i*2)) hold (n+m - i) (by omega) (by omega) (by omega) (by omega) (by rw [hzb];omega) (by rw [hzb,hik];exact growslice_fits hroom hbig)
    rw [hik] at h
    rw [hkk]
    exact h
  obtain ⟨G,hG⟩:∃ G,G=grownCap w (n+m) c 82:=⟨_,rfl⟩
  obtain ⟨ROW,hROW⟩:∃ ROW:Array Value,ROW=(cs.take (i*2)).toArray++Builtin.zeroCells zeroA.cells (n+m - i)++Builtin.zeroCells zeroA.cells (G - (n+m)):=⟨_,rfl⟩
  rw [← hG] at hrz ⊢
  rw [← hROW] at hrz ⊢
  have hRl:(n+m)*2≤ROW.size:=by
    rw [hROW]
    simp [Builtin.zeroCells,Value.cells,zeroA]
    omega
  obtain ⟨W1,hW1⟩:∃ W1,W1=w.drew.alloc (.cells ROW 82):=⟨_,rfl⟩
  rw [← hW1] at hrz
  have hN:∀ j,j<(n+m)*2→(W1.cell? ⟨w.heap.size,j,none⟩).isSome=true:=fun j hj=>by
    rw [hW1,World.cell?_alloc_at (w:=w.drew) ROW _ w.heap.size j rfl,Array.getElem?_eq_getElem (by omega)];rfl
  have hNf:∀ j,W1.frozen? ⟨w.heap.size,j,none⟩=false:=fun j=>by rw [hW1];exact World.frozen?_alloc_at (w:=w.drew) ROW _ w.heap.size j rfl
  have hOb:∀ j v,w.cell? ⟨b,j,none⟩=some v→W1.cell? ⟨b,j,none⟩=some v:=fun j v h=>by rw [hW1,World.cell?_alloc_past (w:=w.drew) _ b j hbw];exact h
  have hOv:∀ j v,w.cell? ⟨vb,voff+j,none⟩=some v→W1.cell? ⟨vb,voff+j,none⟩=some v:=fun j v h=>by rw [hW1,World.cell?_alloc_past (w:=w.drew) _ vb (voff+j) hvw];exact h
  have hcpA:∀ (W:World),(∀ x,W.cell? x=W1.cell? x)→(∀ x,W.frozen? x=W1.frozen? x)→∀ ty dc,(Builtin.copy_ #[34,34] ty #[.slice (some ⟨w.heap.size,i*2,none⟩) (n+m - i) dc,.slice (some ⟨vb,voff,none⟩) m vc]).run Go.Proofs.Tryz.prog W = .ok (goInt (Nat.min m (n+m - i))) (W.setCells w.heap.size (i*2) vs):=fun W hWc hWf ty dc=>
    run_copy_k W _ _ ty 82 2 w.heap.size (i*2) (n+m - i) dc ⟨vb,voff,none⟩ m vc vs Tryz.underlying34 hsz (by rw [hvl];simp only [Nat.min_def];split <;> omega)
      (fun j v hj=>by rw [Addr.add_lit,hWc];exact hOv _ v (hvs j v hj))
      (fun j hj=>by rw [hWc];exact hN _ (by omega)) (fun j hj=>by rw [hWf];exact hNf _) h1v
  have hGn:n+m≤G:=by rw [hG];exact grownCap_ge w _ _ _
  have hG63:G≤9223372036854775807:=by
    have:=grownCap_le_maxLen w (n+m) c 82 (by unfold maxLen;omega)
    rw [← hG] at this
    unfold maxLen at this
    omega
  have hGi:¬ (G=i):=by omega
  have hGim:¬ (G=i+m):=by omega
  have hci:¬ (c=i):=by omega
  have hbN:b≠w.heap.size:=by omega
  have hdl:(cs.drop (i*2)).length=(n - i)*2:=by rw [List.length_drop];omega
  have hcpB:∀ (W:World),(∀ x,W.cell? x=(W1.setCells w.heap.size (i*2) vs).cell? x)→(∀ x,W.frozen? x=(W1.setCells w.heap.size (i*2) vs).frozen? x)→∀ ty dc sc,(Builtin.copy_ #[34,34] ty #[.slice (some ⟨w.heap.size,(i+m)*2,none⟩) (n+m - (i+m)) dc,.slice (some ⟨b,i*2,none⟩) (n - i) sc]).run Go.Proofs.Tryz.prog W = .ok (goInt (Nat.min (n - i) (n+m - (i+m)))) (W.setCells w.heap.size ((i+m)*2) (cs.drop (i*2))):=fun W hWc hWf ty dc sc=>
    run_copy_k W _ _ ty 82 2 w.heap.size ((i+m)*2) (n+m - (i+m)) dc ⟨b,i*2,none⟩ (n - i) sc (cs.drop (i*2)) Tryz.underlying34 hsz (by rw [hdl];simp only [Nat.min_def];split <;> omega)
      (fun j v hj=>by
        rw [Addr.add_lit,hWc,World.cell?_setCells_out _ _ _ _ _ (fun h _=>absurd h hbN)]
        exact hOb _ v (hcs (i*2+j) v (by rwa [List.getElem?_drop] at hj)))
      (fun j hj=>by rw [hWc];exact isSome_setCells _ vs (i*2) W1 (fun t ht=>hN _ (by omega)) _ (hN _ (by omega)))
      (fun j hj=>by rw [hWf,World.frozen?_setCells];exact hNf _) (fun v hv=>h1c v (List.mem_of_mem_drop hv))
  subst hW1
  have hE1:∀ x,((w.alloc (.cells ROW 82)).drew).cell? x=(w.drew.alloc (.cells ROW 82)).cell? x:=fun x=>rfl
  have hE2:∀ x,((w.alloc (.cells ROW 82)).drew).frozen? x=(w.drew.alloc (.cells ROW 82)).frozen? x:=fun x=>rfl
  have hF1:∀ x,(((w.alloc (.cells ROW 82)).drew.setCells w.heap.size (i*2) vs).drew).cell? x=((w.drew.alloc (.cells ROW 82)).setCells w.heap.size (i*2) vs).cell? x:=fun x=>rfl
  have hF2:∀ x,(((w.alloc (.cells ROW 82)).drew.setCells w.heap.size (i*2) vs).drew).frozen? x=((w.drew.alloc (.cells ROW 82)).setCells w.heap.size (i*2) vs).frozen? x:=fun x=>rfl
  have hw1:IntKind.i64.wrap ((i:Int)+(m:Int))=(i:Int)+(m:Int):=by rw [IntKind.wrap_i64];omega
  have hb1:(0:Int)≤(i:Int)+(m:Int):=by omega
  have hin:i≤n:=by omega
  have htn:((i:Int)+(m:Int)).toNat=i+m:=by omega
  have hb3:(i:Int)≤(n:Int):=by omega
  clear hkk hik hold hROW hG hRl
  go_enter Tryz.func172,Tryz.ntmps172
  go_wp2_with (first
    | (at_builtin;refine Lib.wpList_append_run _ rfl _ _ _ _ rfl _ _ rfl rfl _ _ (hrz _) ?_)
    | (at_builtin;refine wpList_copy_runI _ rfl _ _ 34 34 rfl _ _ rfl rfl (hcpA _ hE1 hE2 _ _) ?_)
    | (at_builtin;refine wpList_copy_runI _ rfl _ _ 34 34 rfl _ _ rfl rfl (hcpB _ (fun _=>rfl) (fun _=>rfl) _ _ _) ?_))
  go_region_law_o (refine step_copy_runI rfl _ _ 34 34 rfl (.slice (some ⟨w.heap.size,(i+m)*2,none⟩) (n+m - (i+m)) (G - (i+m))) (.slice (some ⟨b,i*2,none⟩) (n - i) (c - i)) (by simp [Act.eval,Act.put]) (by simp [Act.eval,Act.put]) (hcpB _ hF1 hF2 3 (G - (i+m)) (c - i)) ?_)
  go_wp2
  go_ret
  exact ⟨rfl,rfl⟩
theorem ins_specA : InsSpec Go.Proofs.Tryz.prog 172 2 := by
  unfold InsSpec
  intro A n cp i vb voff m vc cs vs w hi hm hnc hcm hbig hcl hvl h1c h1v hA hV
  have hvs:∀ j v,vs[j]? = some v→w.cell? ⟨vb,voff+j,none⟩=some v:=hV
  obtain ⟨tA,kA,hsa,hkA⟩:=shape_of_cell (hvs 0 _ (List.getElem?_eq_getElem (by omega)))
  have hmax:maxLen=9223372036854775807:=by decide
  by_cases hroom:n+m≤cp
  · rcases hA with ⟨h1,h2,h3⟩ | ⟨b,arr,e,rfl,hvb,hh,hsz,hcc⟩
    · omega
    have hcs:∀ j v,cs[j]? = some v→w.cell? ⟨b,j,none⟩=some v:=fun j v h=>(cell_of_row w b j arr e (0,0) hh).trans (hcc j v h)
    have hbw:b<w.heap.size:=(Array.getElem?_eq_some_iff.1 hh).1
    have hsp:∀ j,j<(n+m)*2→(w.cell? ⟨b,j,none⟩).isSome=true:=fun j hj=>by rw [cell_of_row w b j arr e (0,0) hh,Array.getElem?_eq_getElem (by omega)];rfl
    have hfz:∀ j,w.frozen? ⟨b,j,none⟩=false:=fun j=>by simp [World.frozen?,hh]
    by_cases hin:i<n
    · refine Calls.mono (ins_shiftA b n cp i vb voff m vc cs vs w hin hm hroom (by omega) hvb hcl hvl hcs hsp (fun j _=>hfz j) hvs h1c h1v tA e kA arr.size hsa (by simp [World.shape?,hh]) hkA hfz) (fun e' w' he => ?_)
      obtain ⟨rfl,rfl⟩:=he
      refine ⟨b,cp,rfl,hroom,hcm,.inl ⟨_,rfl,rfl⟩,by rw [heap_lt_setCells,heap_lt_setCells];exact hbw,Only.cells (.inl rfl) _ _ (Only.cells (.inl rfl) _ _ (Only.refl w _).drew),fun j v hj => ?_⟩
      have:=shift_cells (a:=i*2) (w:=w.drew) (b:=b) (by omega) hcs (fun j hj=>hsp j (by omega)) j v hj
      rw [hvl,show i*2+m*2=(i+m)*2 by omega] at this
      exact this
    · have hin:i=n:=by omega
      subst hin
      refine Calls.mono (ins_end_roomA b i cp vb voff m vc vs w hm hroom (by omega) hvl (fun j hj=>hsp _ (by omega)) (fun j _=>hfz _) hvs h1v) (fun e' w' he => ?_)
      obtain ⟨rfl,rfl⟩:=he
      refine ⟨b,cp,rfl,hroom,hcm,.inl ⟨_,rfl,rfl⟩,by rw [heap_lt_setCells];exact hbw,Only.cells (.inl rfl) _ _ (Only.refl w _),fun j v hj => ?_⟩
      rw [← hcl] at hj ⊢
      exact end_cells hcs (fun j hj=>hsp j (by omega)) j v hj
  · have hge:=grownCap_ge w (n+m) cp 82
    have hcm2:=grownCap_le_maxLen w (n+m) cp 82 (by omega)
    by_cases hin:i<n
    · rcases hA with ⟨h1,h2,h3⟩ | ⟨b,arr,e,rfl,hvb,hh,hsz,hcc⟩
      · omega
      have hcs:∀ j v,cs[j]? = some v→w.cell? ⟨b,j,none⟩=some v:=fun j v h=>(cell_of_row w b j arr e (0,0) hh).trans (hcc j v h)
      refine Calls.mono (ins_growA b n cp i vb voff m vc cs vs w hin hm hnc (by omega) (by omega) hcl hvl hcs hvs h1c h1v) (fun e' w' he => ?_)
      obtain ⟨rfl,rfl⟩:=he
      generalize grownCap w (n+m) cp 82=G at *
      obtain ⟨ROW,hROW⟩:∃ ROW:Array Value,ROW=(cs.take (i*2)).toArray++Builtin.zeroCells zeroA.cells (n+m - i)++Builtin.zeroCells zeroA.cells (G - (n+m)):=⟨_,rfl⟩
      have hRl:(n+m)*2≤ROW.size:=by
        rw [hROW]
        simp [Builtin.zeroCells,Value.cells,zeroA]
        omega
      have hRt:∀ j v,(cs.take (i*2))[j]? = some v→ROW[j]? = some v:=fun j v hj=>by
        have hlt:=(List.getElem?_eq_some_iff.1 hj).1
        rw [hROW,Array.getElem?_append_left (by simp at hlt ⊢;omega),Array.getElem?_append_left (by simpa using hlt)]
        simpa using hj
      rw [← hROW]
      have hN:∀ j,(w.alloc (.cells ROW 82)).drew.cell? ⟨w.heap.size,j,none⟩=ROW[j]? := fun j=>World.cell?_alloc_at (w:=w) ROW _ w.heap.size j rfl
      refine ⟨w.heap.size,G,rfl,hge,hcm2,.inr (Nat.le_refl _),by rw [heap_lt_setCells];show w.heap.size<(World.setCells _ _ _ _).heap.size;rw [heap_lt_setCells];show w.heap.size<(w.alloc _).heap.size;simp,Only.cells (.inr (Nat.le_refl _)) _ _ (Only.cells (.inr (Nat.le_refl _)) _ _ ((Only.refl w _).alloc _).drew).drew,fun j v hj => ?_⟩
      have:=grow_cells (a:=i*2) (vs:=vs) (w:=(w.alloc (.cells ROW 82)).drew) (w':=((w.alloc (.cells ROW 82)).drew.setCells w.heap.size (i*2) vs).drew) (b:=w.heap.size) (by omega) (fun j v hj=>(hN j).trans (hRt j v hj)) (fun j hj=>by rw [hN,Array.getElem?_eq_getElem (by omega)];rfl) (fun _=>rfl) j v hj
      rw [hvl,show i*2+m*2=(i+m)*2 by omega] at this
      exact this
    · have hin:i=n:=by omega
      subst hin
      have hnil:A=none→i=0:=fun h=>by
        rcases hA with ⟨_,h2,_⟩ | ⟨b,arr,e,h2,_⟩
        · exact h2
        · rw [h2] at h;cases h
      have hcsA:∀ a,A=some a→∀ j v,cs[j]? = some v→w.cell? (a.add j)=some v:=by
        intro a ha j v hj
        rcases hA with ⟨h,_⟩ | ⟨b,arr,e,h,hvb,hh,hsz,hcc⟩
        · rw [h] at ha;cases ha
        · rw [h] at ha;cases ha
          rw [Addr.add_lit,Nat.zero_add]
          exact (cell_of_row w b j arr e (0,0) hh).trans (hcc j v hj)
      refine Calls.mono (ins_end_growA A i cp vb voff m vc cs vs w hm hnc (by omega) (by omega) hcl hvl hnil hcsA hvs h1v) (fun e' w' he => ?_)
      obtain ⟨rfl,rfl⟩:=he
      generalize grownCap w (i+m) cp 82=G at *
      refine ⟨w.heap.size,G,rfl,hge,hcm2,.inr (Nat.le_refl _),by show w.heap.size<(w.drew.alloc _).heap.size;simp,((Only.refl w _).drew).alloc _,fun j v hj => ?_⟩
      rw [← hcl,List.take_length,List.drop_length,List.append_nil] at hj
      have hlt:=(List.getElem?_eq_some_iff.1 hj).1
      rw [World.cell?_alloc_at (w:=w.drew) _ _ w.heap.size j rfl,Array.getElem?_append_left (by simpa using hlt)]
      simpa using hj
end Go.TA.Tryz


end
section
/- slices.DeleteFunc on a row of one's own, told at once: its text up to the last two lines as lowered code, the rest by hand. -/
namespace Go.TA
def delLoop1 : LCode :=
  (.seq (.region [
    { dst:=some 16,op:=.move (.t 6),ix:=0 },
    { dst:=some 17,op:=.move (.t 0),ix:=1 },
    { dst:=some 18,op:=.len 1 (.t 17),ix:=2 },
    { dst:=some 19,op:=.bin .lss (.t 16) (.t 18),ix:=3 }] false [0,1,5,6,19] []) (.seq (.cond (.t 19) (.keep [0,1,5,6] [] .skip) (.keep [0,5] [] (.exit 0))) (.keep [0,1,5,6] [] (.seq (.block 1 (.seq (.region [
    { dst:=some 22,op:=.move (.t 0),ix:=0 },
    { dst:=some 23,op:=.move (.t 6),ix:=1 },
    { dst:=some 24,op:=.indexAddr 1 (.t 22) (.t 23),ix:=2 },
    { dst:=some 25,op:=.load 1 false (.t 24),ix:=3 },
    { dst:=some 7,op:=.move (.t 25),ix:=4 }] false [0,1,5,6,7] []) (.seq (.region [
    { dst:=some 26,op:=.move (.t 1),ix:=0 },
    { dst:=some 27,op:=.move (.t 7),ix:=1 },
    { dst:=some 28,op:=.callv (.t 26) [(.t 27,.as)],ix:=2 },
    { dst:=some 29,op:=.un .not (.t 28),ix:=3 }] false [0,1,5,6,7,29] []) (.seq (.cond (.t 29) (.seq (.region [
    { dst:=some 30,op:=.move (.t 0),ix:=0 },
    { dst:=some 31,op:=.move (.t 5),ix:=1 },
    { dst:=some 32,op:=.move (.t 7),ix:=2 },
    { dst:=some 33,op:=.indexAddr 1 (.t 30) (.t 31),ix:=3 },
    { dst:=none,op:=.store 1 false (.t 33) (.t 32),ix:=4 }] false [0,1,5,6] []) (.seq (.region [
    { dst:=some 34,op:=.move (.t 5),ix:=0 },
    { dst:=some 35,op:=.bin .add (.t 34) (.c (.int .i64 1)),ix:=1 },
    { dst:=some 5,op:=.move (.t 35),ix:=2 }] false [0,1,5,6] []) (.keep [0,1,5,6] [] .skip))) (.keep [0,1,5,6] [] .skip)) (.keep [0,1,5,6] [] .skip))))) (.keep [0,1,5,6] [] (.seq (.region [
    { dst:=some 20,op:=.move (.t 6),ix:=0 },
    { dst:=some 21,op:=.bin .add (.t 20) (.c (.int .i64 1)),ix:=1 },
    { dst:=some 6,op:=.move (.t 21),ix:=2 }] false [0,1,5,6] []) (.keep [0,1,5,6] [] .skip)))))))
def delLoop2 : LCode :=
  (.seq (.region [
    { dst:=some 16,op:=.move (.t 6),ix:=0 },
    { dst:=some 17,op:=.move (.t 0),ix:=1 },
    { dst:=some 18,op:=.len 1 (.t 17),ix:=2 },
    { dst:=some 19,op:=.bin .lss (.t 16) (.t 18),ix:=3 }] false [0,1,5,6,19] []) (.seq (.cond (.t 19) (.keep [0,1,5,6] [] .skip) (.keep [0,5] [] (.exit 0))) (.keep [0,1,5,6] [] (.seq (.block 1 (.seq (.region [
    { dst:=some 22,op:=.move (.t 0),ix:=0 },
    { dst:=some 23,op:=.move (.t 6),ix:=1 },
    { dst:=some 24,op:=.indexAddr 2 (.t 22) (.t 23),ix:=2 },
    { dst:=some 25,op:=.load 2 true (.t 24),ix:=3 },
    { dst:=some 7,op:=.alloc false 7 [.p (.str []),.p (.str [])] [],ix:=4 },
    { dst:=none,op:=.store 2 true (.t 7) (.t 25),ix:=5 }] false [0,1,5,6,7] [7]) (.seq (.region [
    { dst:=some 26,op:=.move (.t 1),ix:=0 },
    { dst:=some 27,op:=.load 2 true (.t 7),ix:=1 },
    { dst:=some 28,op:=.callv (.t 26) [(.t 27,.as)],ix:=2 },
    { dst:=some 29,op:=.un .not (.t 28),ix:=3 }] false [0,1,5,6,7,29] [7]) (.seq (.cond (.t 29) (.seq (.region [
    { dst:=some 30,op:=.move (.t 0),ix:=0 },
    { dst:=some 31,op:=.move (.t 5),ix:=1 },
    { dst:=some 32,op:=.load 2 true (.t 7),ix:=2 },
    { dst:=some 33,op:=.indexAddr 2 (.t 30) (.t 31),ix:=3 },
    { dst:=none,op:=.store 2 true (.t 33) (.t 32),ix:=4 }] false [0,1,5,6] []) (.seq (.region [
    { dst:=some 34,op:=.move (.t 5),ix:=0 },
    { dst:=some 35,op:=.bin .add (.t 34) (.c (.int .i64 1)),ix:=1 },
    { dst:=some 5,op:=.move (.t 35),ix:=2 }] false [0,1,5,6] []) (.keep [0,1,5,6] [] .skip))) (.keep [0,1,5,6] [] .skip)) (.keep [0,1,5,6] [] .skip))))) (.keep [0,1,5,6] [] (.seq (.region [
    { dst:=some 20,op:=.move (.t 6),ix:=0 },
    { dst:=some 21,op:=.bin .add (.t 20) (.c (.int .i64 1)),ix:=1 },
    { dst:=some 6,op:=.move (.t 21),ix:=2 }] false [0,1,5,6] []) (.keep [0,1,5,6] [] .skip)))))))
def delHead (fi : Nat) (L : LCode) : LCode :=
  (.seq (.region [
    { dst:=some 4,op:=.move (.c (.list [])),ix:=0 }] false [0,1] []) (.seq (.region [
    { dst:=some 8,op:=.move (.t 0),ix:=0 },
    { dst:=some 9,op:=.move (.t 1),ix:=1 },
    { dst:=some 10,op:=.call fi [(.t 8,.as),(.t 9,.as)],ix:=2 },
    { dst:=some 5,op:=.move (.t 10),ix:=3 }] false [0,1,5] []) (.seq (.region [
    { dst:=some 11,op:=.move (.t 5),ix:=0 },
    { dst:=some 12,op:=.eq .i false (.t 11) (.c (.int .i64 (-1))),ix:=1 }] false [0,1,5,12] []) (.seq (.cond (.t 12) (.seq (.region [
    { dst:=some 13,op:=.move (.t 0),ix:=0 },
    { dst:=some 4,op:=.move (.t 13),ix:=1 }] false [4] []) (.keep [4] [] .ret)) (.keep [0,1,5] [] .skip)) (.keep [0,1,5] [] (.seq (.region [
    { dst:=some 14,op:=.move (.t 5),ix:=0 },
    { dst:=some 15,op:=.bin .add (.t 14) (.c (.int .i64 1)),ix:=1 },
    { dst:=some 6,op:=.move (.t 15),ix:=2 }] false [0,1,5,6] []) (.seq (.block 0 (.seq (.keep [0,1,5,6] [] (.loop L)) (.keep [0,5] [] .skip))) (.keep [0,5] [] .skip))))))))
def delOut (sz : Nat) : Ex × St → Option (AV × List AObj)
  | (.ret, ⟨fr, [], g⟩) => match (⟨fr, [], g⟩ : St).get 4 with
    | .own true k n => match g[k]? with
      | some (.pcells s xs)=>if s=sz∧xs.length=n then some (.p (.list xs),g.set k .dead) else none
      | _=>none
    | _=>none
  | (.normal, ⟨fr, [], g⟩) => match (⟨fr, [], g⟩ : St).get 0, (⟨fr, [], g⟩ : St).get 5 with
    | .own true k n, .p (.int .i64 i) => match g[k]? with
      | some (.pcells s xs)=>if s=sz∧xs.length=n∧0≤i∧i<n then some (.p (.list (xs.take i.toNat)),g.set k .dead) else none
      | _=>none
    | _,_=>none
  | _=>none
def pDelete (fi:Nat) (L:LCode) (sz:Nat) (C:Calls'):List AV→List AObj→Option (AV × List AObj)
 | [.own true k n,fv],g=>(aexec C (n+2) (delHead fi L) (enterSt [.own true k n,fv] g)).bind (delOut sz)
 | _,_=>none
def isMv (o:Oper) (d n:Nat):Bool:=o.guard.isNone && o.dst==some d && match o.op with
 | .move (.tmp m)=>m==n
 | .assign (.tmp m)=>m==n
 | _=>false
def isCut (P:Program) (sz:Nat) (o:Oper) (d x i:Nat):Bool:=o.guard.isNone && o.dst==some d && match o.op with
 | .slice t (.tmp y) (some (.tmp j)) none none=>y==x && j==i && (match P.underlying t with | some (.slice e)=>tsize P e==some sz | _=>false)
 | _=>false
def isTop (P:Program) (sz:Nat) (o:Oper) (d x i:Nat):Bool:=o.guard.isNone && o.dst==some d && match o.op with
 | .slice t (.tmp y) none (some (.tmp j)) none=>y==x && j==i && (match P.underlying t with | some (.slice e)=>tsize P e==some sz | _=>false)
 | _=>false
def isClear (P : Program) (sz : Nat) (o : Oper) (x : Nat) : Bool := o.guard.isNone && o.dst == none && match o.op with
  | .call { callee := .builtin .clear, args, argTypes } => (match args.toList, argTypes.toList with
    | [.tmp y], [t] => y == x && (match P.underlying t with
      | some (.slice e) => (match (P.info? e).bind (·.zero) with
        | some z=>z.cells.size==sz && z.cells.toList.all (·.oneCell')
        | none=>false)
      | _=>false)
    | _,_=>false)
  | _=>false
def delTail (P : Program) (sz : Nat) : List Code → Bool
  | [.region _ o4 false, .region _ o5 false, .ret] => (match o4.toList with
    | [a,b,c,d]=>isMv a 36 0 && isMv b 37 5 && isCut P sz c 38 36 37 && isClear P sz d 38
    | _=>false) && (match o5.toList with
    | [a,b,c,d]=>isMv a 39 0 && isMv b 40 5 && isTop P sz c 41 39 40 && isMv d 4 41
    | _=>false)
  | _=>false
def delItems (P:Program) (fi:Nat) (L:LCode) (sz:Nat) (l:List Code):Bool:=codeOk P 42 (delHead fi L) (l.take 6) && delTail P sz (l.drop 6)
def delB (P : Program) (f fi : Nat) (L : LCode) (sz : Nat) : Bool := calleeOk P f && sz != 0 && match P.funcs[f]? with
  | some fn => (match fn.body with
    | some b=>fn.ntmps==42 && resOk P [.tmp 4] fn.results.toList && delItems P fi L sz (items b)
    | none=>false)
  | none=>false
section
variable {P:Program} {Γ : Ground} {f:Nat}
theorem wpL_join {Q:Exit→Act→World→Prop}:∀ {l r:List Code} {a:Act} {w:World},wpL P (Exit.then (wpL P Q r) Q) l a w→wpL P Q (l++r) a w
  | [],r,a,w,h=>h
  | c :: l, r, a, w, h => by
    simp only [List.cons_append,wpL] at h ⊢
    refine wp_mono h (fun e a' w' he => ?_)
    cases e <;> simp only [Exit.then] at he ⊢ <;> first | exact wpL_join he | exact he
theorem wpList_step {ops:Array Oper} {rest:List Oper} {o:Oper} {a:Act} {w w':World} {v:Value} {Q:Exit→Act→World→Prop} (hg:o.guard.isNone=true) (hr:(execOp a.eval o).run P w = .ok (.value v) w') (h:wpList P ops Q rest (a.put o.dst v) w'):wpList P ops Q (o::rest) a w:=by
 have hw:Region.wanted o (yielded ops a.tmps)=true:=by
  have:o.guard=none:=by simpa using hg
  simp [Region.wanted,this]
 unfold wpList
 rw [if_pos hw]
 exact .inl (Does.wp (Does.value (R:=fun v' w''=>v'=v∧w''=w') hr ⟨rfl,rfl⟩) (fun v' w'' hR=>by
  obtain ⟨rfl,rfl⟩:=hR
  exact h))
theorem run_mv {o:Oper} {d n:Nat} (h:isMv o d n=true) (a:Act) (w:World):o.guard.isNone=true∧o.dst=some d∧(execOp a.eval o).run P w = .ok (.value (a.eval (.tmp n))) w:=by
 simp only [isMv,Bool.and_eq_true,beq_iff_eq] at h
 obtain ⟨⟨h1,h2⟩,h3⟩:=h
 refine ⟨h1,h2, ?_⟩
 split at h3 <;> rename_i ho <;> first | (cases h3;done) | skip
 all_goals
  simp only [beq_iff_eq] at h3
  subst h3
  simp only [execOp,ho]
  rfl
theorem run_cut {sz:Nat} {o:Oper} {d x i:Nat} (h:isCut P sz o d x i=true) (a:Act) (w:World) {b n cp m:Nat} (hx:a.eval (.tmp x) = .slice (some ⟨b,0,none⟩) n cp) (hi:a.eval (.tmp i) = .int .i64 m) (hm:m<n) (hn:n≤cp) :
  o.guard.isNone=true∧o.dst=some d∧(execOp a.eval o).run P w = .ok (.value (.slice (some ⟨b,m*sz,none⟩) (n - m) (cp - m))) w:=by
 simp only [isCut,Bool.and_eq_true,beq_iff_eq] at h
 obtain ⟨⟨h1,h2⟩,h3⟩:=h
 refine ⟨h1,h2, ?_⟩
 split at h3
 rotate_left
 ·cases h3
 rename_i t y j ho
 simp only [Bool.and_eq_true,beq_iff_eq] at h3
 obtain ⟨⟨rfl,rfl⟩,h3⟩:=h3
 split at h3
 rotate_left
 ·cases h3
 rename_i e he
 simp only [beq_iff_eq] at h3
 have hne:¬ (cp=m):=by omega
 have hsz:∀ w,(sizeOf e).run P w = .ok sz w:=fun w=>by
  cases hq:P.info? e with
  | none=>simp [tsize,hq] at h3
  | some q=>simp [tsize,hq] at h3;simp [sizeOf,typeInfo,hq,h3]
 have hle:(m:Int)≤(n:Int):=by omega
 simp [execOp,ho,hx,hi,Instr.sliceAt,Instr.slice,run_underlying he,Instr.sliceBounds,Instr.sliceBound,asIntOf,hle,hsz,hne,Addr.add_lit]
 first | done | (intro h;omega)
theorem run_top {sz:Nat} {o:Oper} {d x i:Nat} (h:isTop P sz o d x i=true) (a:Act) (w:World) {b n cp m:Nat} (hx:a.eval (.tmp x) = .slice (some ⟨b,0,none⟩) n cp) (hi:a.eval (.tmp i) = .int .i64 m) (hm:m<n) (hn:n≤cp) :
  o.guard.isNone=true∧o.dst=some d∧(execOp a.eval o).run P w = .ok (.value (.slice (some ⟨b,0,none⟩) m cp)) w:=by
 simp only [isTop,Bool.and_eq_true,beq_iff_eq] at h
 obtain ⟨⟨h1,h2⟩,h3⟩:=h
 refine ⟨h1,h2, ?_⟩
 split at h3
 rotate_left
 ·cases h3
 rename_i t y j ho
 simp only [Bool.and_eq_true,beq_iff_eq] at h3
 obtain ⟨⟨rfl,rfl⟩,h3⟩:=h3
 split at h3
 rotate_left
 ·cases h3
 rename_i e he
 simp only [beq_iff_eq] at h3
 have hne:¬ (cp=0):=by omega
 have hsz:∀ w,(sizeOf e).run P w = .ok sz w:=fun w=>by
  cases hq:P.info? e with
  | none=>simp [tsize,hq] at h3
  | some q=>simp [tsize,hq] at h3;simp [sizeOf,typeInfo,hq,h3]
 have hle:(m:Int)≤(cp:Int):=by omega
 simp [execOp,ho,hx,hi,Instr.sliceAt,Instr.slice,run_underlying he,Instr.sliceBounds,Instr.sliceBound,asIntOf,hle,hsz,hne,Addr.add_lit]
 first | done | (intro h;omega)
theorem run_clear_k (w:World) (t e ty:TypeId) (z:Value) (ht:P.underlying t=some (.slice e)) (hv:∀ w,(zeroValue e).run P w = .ok z w) (h1:∀ v ∈ z.cells.toList,v.oneCell'=true) (b o n c:Nat) (hn:0<n)
  (hc:∀ j,j<n*z.cells.size→(w.cell? ⟨b,o+j,none⟩).isSome=true) (hf:∀ j,j<n*z.cells.size→w.frozen? ⟨b,o+j,none⟩=false) :
  (Builtin.clear_ #[t] ty #[.slice (some ⟨b,o,none⟩) n c]).run P w = .ok (.tuple #[]) (w.setCells b o (Builtin.zeroCells z.cells n).toList):=by
 have hl:(Builtin.zeroCells z.cells n).toList.length=n*z.cells.size:=by rw [Array.length_toList,size_zeroCells]
 have hst:=run_storeCells_cells (P:=P) b o (Builtin.zeroCells z.cells n).toList 0 w (by rw [hl];simpa using hc) (by rw [hl];simpa using hf) (by
  intro v hv'
  refine h1 v ?_
  simp only [Builtin.zeroCells,Array.toList_map,List.mem_map,Array.toList_range,List.mem_range] at hv'
  obtain ⟨i,hi,rfl⟩:=hv'
  have h0:0<z.cells.size:=Nat.pos_of_ne_zero (fun e=>by rw [e] at hi;omega)
  rw [getElem!_pos z.cells _ (Nat.mod_lt _ h0)]
  exact Array.getElem_mem_toList _)
 simp only [Nat.add_zero] at hst
 obtain ⟨m,rfl⟩:∃ m,n=m+1:=⟨n - 1,by omega⟩
 simp [Builtin.clear_,run_underlying ht,hv,hst]
theorem run_clearOp {sz:Nat} {o:Oper} {x:Nat} (h:isClear P sz o x=true) (a:Act) (w:World) {b off n cp:Nat} (hx:a.eval (.tmp x) = .slice (some ⟨b,off,none⟩) n cp) (hn:0<n)
  (hc:∀ j,j<n*sz→(w.cell? ⟨b,off+j,none⟩).isSome=true) (hf:∀ j,w.frozen? ⟨b,j,none⟩=false) :
  o.guard.isNone=true∧o.dst=none∧∃ zs:List Value,zs.length=n*sz∧(execOp a.eval o).run P w = .ok (.value (.tuple #[])) (w.setCells b off zs):=by
 simp only [isClear,Bool.and_eq_true,beq_iff_eq] at h
 obtain ⟨⟨h1,h2⟩,h3⟩:=h
 refine ⟨h1,h2, ?_⟩
 split at h3
 rotate_left
 ·cases h3
 rename_i args ats ho
 split at h3
 rotate_left
 ·cases h3
 rename_i y t hargs hats
 simp only [Bool.and_eq_true,beq_iff_eq] at h3
 obtain ⟨rfl,h3⟩:=h3
 split at h3
 rotate_left
 ·cases h3
 rename_i e he
 split at h3
 rotate_left
 ·cases h3
 rename_i z hz
 simp only [Bool.and_eq_true,beq_iff_eq,List.all_eq_true] at h3
 obtain ⟨rfl,h1c⟩:=h3
 have hv:∀ w,(zeroValue e).run P w = .ok z w:=fun w=>by
  obtain ⟨q,hq,hqz⟩:=Option.bind_eq_some_iff.1 hz
  simp [zeroValue,typeInfo,hq,hqz]
 have hrun:=run_clear_k w t e o.type z he hv h1c b off n cp hn hc (fun j _=>hf _)
 refine ⟨_,by rw [Array.length_toList,size_zeroCells], ?_⟩
 have ha:args = #[.tmp y]:=by rw [← Array.toArray_toList (xs:=args),hargs]
 have ht:ats = #[t]:=by rw [← Array.toArray_toList (xs:=ats),hats]
 subst ha
 subst ht
 simp [execOp,ho,resolve,invoke,builtin,hx,hrun,Result.andThen]
theorem putSize (a:Act) (d:Option Nat) (v:Value):(a.put d v).tmps.size=a.tmps.size:=by cases d <;> simp [Act.put]
theorem putEval {a:Act} {d n:Nat} {v:Value} (h:d<a.tmps.size):(a.put (some d) v).eval (.tmp n)=if n=d then v else a.eval (.tmp n):=by
 by_cases e:n=d
 ·subst e
  simp [Act.put,Act.eval,h]
 ·have e':¬ d=n:=fun h=>e h.symm
  simp [Act.put,Act.eval,e,e',Array.getElem?_setIfInBounds]
theorem putDefers (a:Act) (d:Option Nat) (v:Value):(a.put d v).defers=a.defers:=by cases d <;> rfl
theorem pDelete_ok (hm : P.follows .mixedOrders = true) {fi : Nat} {L : LCode} {sz : Nat} (hB : delB P f fi L sz = true) : PrimOk P Γ f (pDelete fi L sz) := by
  intro C hC args g r g' hp hno hgo
  unfold pDelete at hp
  split at hp
  rotate_left
  · cases hp
  rename_i k n fv
  obtain ⟨⟨ex,s1⟩,hex,hout⟩:=Option.bind_eq_some_iff.1 hp
  simp only [delB,Bool.and_eq_true,bne_iff_ne,ne_eq] at hB
  obtain ⟨⟨hcal,hsz0⟩,hB⟩:=hB
  split at hB
  rotate_left
  · cases hB
  rename_i fn hfn
  split at hB
  rotate_left
  · cases hB
  rename_i body hbody
  simp only [Bool.and_eq_true,beq_iff_eq,delItems] at hB
  obtain ⟨⟨hnt,hres⟩,hhead,htail⟩:=hB
  have hitems:items body=(items body).take 6++(items body).drop 6:=(List.take_append_drop 6 _).symm
  generalize (items body).take 6=is1 at *
  generalize (items body).drop 6=is2 at *
  have hCg:∀ f args g r g',C f args g=some (r,g')→noLocals args=true→gOk g→gOk g':=fun f args g r g' h1 h2 h3=>(hC f args g r g' h1 h2 h3).2.1
  have hgo1:gOk s1.g:=aexec_gOk hCg _ hhead (s:=enterSt [.own true k n,fv] g) hgo hex
  obtain ⟨fr,l1,g1⟩:=s1
  have hr:l1=[]∧∃ xs k',r = .p (.list xs)∧g'=g1.set k' .dead:=by
    unfold delOut at hout
    split at hout <;> (try (cases hout;done)) <;> (rename_i heq;simp only [Prod.mk.injEq,St.mk.injEq] at heq;obtain ⟨_,rfl,rfl,rfl⟩:=heq) <;> (split at hout <;> (try (cases hout;done))) <;> (split at hout <;> (try (cases hout;done))) <;> (split at hout <;> (try (cases hout;done))) <;> (simp only [Option.some.injEq,Prod.mk.injEq] at hout;exact ⟨rfl,_,_,hout.1.symm,hout.2.symm⟩)
  obtain ⟨rfl,ys,k',rfl,rfl⟩:=hr
  refine ⟨hcal,gOk_dead hgo1 k',rfl,fun c vs hl hgc hH hlen hrel => ?_⟩
  subst hgc
  refine calls_of_wp hfn hbody ?_
  have hg0:=body_good (c:=c) (args:=[.own true k n,fv]) (vs:=vs) (np:=2) (nt:=fn.ntmps) hlen hrel hH hl hgo rfl
  rw [hnt] at hg0 ⊢
  have hmax:max 2 42=42:=rfl
  rw [hmax] at hg0
  refine wp_of_wpL ?_
  rw [hitems]
  refine wpL_join (aexec_rel (C:=C) (N:=n+2) hm hC _ hhead hg0 hex (fun c1 a1 hg1 hE1 => ?_))
  have fin:∀ (a2:Act) (c2:Cx),a2.defers=[]→c2.l=[]→c2.g=g1.set k' .dead→Evo c c2→RelH Γ c2→(∃ u,a2.tmps.getD 4 undef=u∧RelV c2 (.p (.list ys)) u)→bodyPost P fn (fun e w'=>∃ v,e = .returned v∧Ans Γ c [] (g1.set k' .dead) (.p (.list ys)) v w') .ret a2 c2.w:=by
    intro a2 c2 hd hl2 hg2 hE hH2 ⟨u,hu,hv⟩
    refine ⟨hd,u, ?_,u,rfl,c2,hl2,hg2,rfl,hE.evolve hl,hH2,hv⟩
    have e:results fn a2.tmps=(do let vs ← fn.results.mapM (rvOf a2.tmps);pure (if h:vs.size=1 then vs[0] else .tuple vs)):=rfl
    have hrs:fn.results.toList=[.tmp 4]:=by
      cases h:fn.results.toList with
      | nil=>rw [h] at hres;simp [resOk] at hres
      | cons x l =>
        rw [h] at hres
        cases x with
        | tmp t =>
          simp only [resOk,Bool.and_eq_true,beq_iff_eq] at hres
          cases l with
          | nil=>rw [← hres.1]
          | cons y l=>simp [resOk] at hres
        | cell a b=>simp [resOk] at hres
    rw [e,Array.mapM_eq_mapM_toList,hrs]
    simp only [List.mapM_cons,List.mapM_nil,rvOf,hu]
    rfl
  cases ex with
  | exit id=>cases hout
  | ret =>
    simp only [delOut] at hout
    split at hout
    rotate_left
    · cases hout
    rename_i k2 n2 hav
    split at hout
    rotate_left
    · cases hout
    rename_i s xs hob
    split at hout
    rotate_left
    · cases hout
    rename_i hc
    obtain ⟨rfl,rfl⟩:=hc
    simp only [Option.some.injEq,Prod.mk.injEq,AV.p.injEq,PV.list.injEq] at hout
    obtain ⟨rfl,hset⟩:=hout
    have hob1:c1.obj true k2=some (.pcells s xs):=by
      have:c1.g=g1:=hg1.g.symm
      simp [Cx.obj,this,hob]
    have h4:=hg1.F 4
    rw [hav] at h4
    obtain ⟨t1,t2,t3⟩:=freeze_rel hg1.H hob1 h4
    refine fin a1 (c1.set true k2 .dead none c1.w) hg1.D ?_ ?_ (hE1.trans t1.evo) t2 ⟨_,rfl,.p _ _ t3⟩
    · have:c1.l=[]:=hg1.l.symm
      simpa [Cx.set] using this
    · have:c1.g=g1:=hg1.g.symm
      simp [Cx.set,this,hset]
  | normal =>
    simp only [delOut] at hout
    split at hout
    rotate_left
    · cases hout
    rename_i k2 n2 i hav0 hav5
    split at hout
    rotate_left
    · cases hout
    rename_i s xs hob
    split at hout
    rotate_left
    · cases hout
    rename_i hc
    obtain ⟨rfl,rfl,hi0,hin⟩:=hc
    simp only [Option.some.injEq,Prod.mk.injEq,AV.p.injEq,PV.list.injEq] at hout
    obtain ⟨rfl,hset⟩:=hout
    have hg1g:c1.g=g1:=hg1.g.symm
    have hob1:c1.obj true k2=some (.pcells s xs):=by simp [Cx.obj,hg1g,hob]
    have h0:=hg1.F 0
    rw [hav0] at h0
    have h5:=hg1.F 5
    rw [hav5] at h5
    have h5:=relV_int h5
    obtain ⟨A,cap,hv0,hrow⟩:=row_now h0 hob1 rfl
    rcases hrow with ⟨_,hn0,_⟩ | ⟨b,arr,e,q1,rfl,q3,q4,q5,q6⟩
    · omega
    simp only [AObj.sz] at q6
    have hR1:RelRow c1 (c1.μ true k2) s (lift xs):=hg1.H.objs true k2 _ hob1
    rw [q1] at hR1
    obtain ⟨arr',e',hh,hrows⟩:=relRow_rows hR1
    rw [q5] at hh
    cases hh
    obtain ⟨m,rfl⟩:∃ m:Nat,i=m:=⟨i.toNat,by omega⟩
    have hmn:m<xs.length:=by omega
    simp only [Int.toNat_natCast] at *
    unfold delTail at htail
    split at htail
    rotate_left
    · cases htail
    rename_i i4 o4 i5 o5
    simp only [Bool.and_eq_true] at htail
    obtain ⟨ht4,ht5⟩:=htail
    split at ht4
    rotate_left
    · cases ht4
    rename_i x0 x1 x2 x3 ho4
    split at ht5
    rotate_left
    · cases ht5
    rename_i y0 y1 y2 y3 ho5
    simp only [Bool.and_eq_true] at ht4 ht5
    obtain ⟨⟨⟨hx0,hx1⟩,hx2⟩,hx3⟩:=ht4
    obtain ⟨⟨⟨hy0,hy1⟩,hy2⟩,hy3⟩:=ht5
    simp only [toExit,Exit.then]
    have hN:=hg1.N
    have E0:a1.eval (.tmp 0) = .slice (some ⟨b,0,none⟩) xs.length cap:=hv0
    have E5:a1.eval (.tmp 5) = .int .i64 m:=h5
    have hfz:∀ j,c1.w.frozen? ⟨b,j,none⟩=false:=fun j=>by simp [World.frozen?,q5]
    have hmul:(xs.length - m)*s+m*s=xs.length*s:=by rw [← Nat.add_mul];congr 1;omega
    have hcap:xs.length*s≤arr.size:=by rw [q6];exact Nat.mul_le_mul_right _ q3
    show (Code.region i4 o4 false).wp P _ a1 c1.w
    refine wp_region_list ?_
    rw [ho4]
    obtain ⟨gd,dd,rr⟩:=run_mv (P:=P) hx0 a1 c1.w
    refine wpList_step gd rr ?_
    rw [dd,E0]
    obtain ⟨gd,dd,rr⟩:=run_mv (P:=P) hx1 (a1.put (some 36) (.slice (some ⟨b,0,none⟩) xs.length cap)) c1.w
    refine wpList_step gd rr ?_
    rw [dd,putEval (by omega),if_neg (by decide),E5]
    obtain ⟨gd,dd,rr⟩:=run_cut hx2 ((a1.put (some 36) (.slice (some ⟨b,0,none⟩) xs.length cap)).put (some 37) (.int .i64 m)) c1.w (b:=b) (n:=xs.length) (cp:=cap) (m:=m) (by rw [putEval (by rw [putSize];omega),if_neg (by decide),putEval (by omega),if_pos rfl]) (by rw [putEval (by rw [putSize];omega),if_pos rfl]) hmn q3
    refine wpList_step gd rr ?_
    rw [dd]
    obtain ⟨gd,dd,zs,hzl,rr⟩:=run_clearOp hx3 (((a1.put (some 36) (.slice (some ⟨b,0,none⟩) xs.length cap)).put (some 37) (.int .i64 m)).put (some 38) (.slice (some ⟨b,m*s,none⟩) (xs.length - m) (cap - m))) c1.w (b:=b) (off:=m*s) (n:=xs.length - m) (cp:=cap - m) (by rw [putEval (by rw [putSize,putSize];omega),if_pos rfl]) (by omega) (fun j hj=>by
      rw [cell_of_row c1.w b _ arr _ (0,0) q5,Array.getElem?_eq_getElem (by omega)];rfl) hfz
    refine wpList_step gd rr ?_
    rw [dd]
    simp only [wpList,Exit.then]
    have hw1:∃ w1,w1=c1.w.setCells b (m*s) zs:=⟨_,rfl⟩
    obtain ⟨w1,hw1⟩:=hw1
    rw [← hw1]
    have hA:∃ a5:Act,a5=((((a1.put (some 36) (.slice (some ⟨b,0,none⟩) xs.length cap)).put (some 37) (.int .i64 m)).put (some 38) (.slice (some ⟨b,m*s,none⟩) (xs.length - m) (cap - m))).put none (.tuple #[])):=⟨_,rfl⟩
    obtain ⟨a5,hA⟩:=hA
    rw [← hA]
    have F0:a5.eval (.tmp 0) = .slice (some ⟨b,0,none⟩) xs.length cap:=by
      rw [hA]
      show (Act.put _ (some 38) _).eval _=_
      rw [putEval (by simp only [putSize];omega),if_neg (by decide),putEval (by simp only [putSize];omega),if_neg (by decide),putEval (by omega),if_neg (by decide),E0]
    have F5:a5.eval (.tmp 5) = .int .i64 m:=by
      rw [hA]
      show (Act.put _ (some 38) _).eval _=_
      rw [putEval (by simp only [putSize];omega),if_neg (by decide),putEval (by simp only [putSize];omega),if_neg (by decide),putEval (by omega),if_neg (by decide),E5]
    have FN:a5.tmps.size=42:=by rw [hA];simp only [putSize];omega
    have FD:a5.defers=[]:=by rw [hA];simp only [putDefers];exact hg1.D
    show (Code.region i5 o5 false).wp P _ a5 w1
    refine wp_region_list ?_
    rw [ho5]
    obtain ⟨gd,dd,rr⟩:=run_mv (P:=P) hy0 a5 w1
    refine wpList_step gd rr ?_
    rw [dd,F0]
    obtain ⟨gd,dd,rr⟩:=run_mv (P:=P) hy1 (a5.put (some 39) (.slice (some ⟨b,0,none⟩) xs.length cap)) w1
    refine wpList_step gd rr ?_
    rw [dd,putEval (by omega),if_neg (by decide),F5]
    obtain ⟨gd,dd,rr⟩:=run_top hy2 ((a5.put (some 39) (.slice (some ⟨b,0,none⟩) xs.length cap)).put (some 40) (.int .i64 m)) w1 (b:=b) (n:=xs.length) (cp:=cap) (m:=m) (by rw [putEval (by rw [putSize];omega),if_neg (by decide),putEval (by omega),if_pos rfl]) (by rw [putEval (by rw [putSize];omega),if_pos rfl]) hmn q3
    refine wpList_step gd rr ?_
    rw [dd]
    obtain ⟨gd,dd,rr⟩:=run_mv (P:=P) hy3 (((a5.put (some 39) (.slice (some ⟨b,0,none⟩) xs.length cap)).put (some 40) (.int .i64 m)).put (some 41) (.slice (some ⟨b,0,none⟩) m cap)) w1
    refine wpList_step gd rr ?_
    rw [dd,putEval (by simp only [putSize];omega),if_pos rfl]
    simp only [wpList,Exit.then]
    refine wp_ret ?_
    have hml:(xs.take m).length=m:=by rw [List.length_take];omega
    have hbw:b<c1.w.heap.size:=(Array.getElem?_eq_some_iff.1 q5).1
    obtain ⟨t1,t2,t3⟩:=kill_list hg1.H hob1 (w':=w1) (by rw [hw1,q1];exact Only.cells (.inl rfl) _ _ (Only.refl _ _)) (b:=b) (cap:=cap) (.inl q1) (by rw [hw1,heap_lt_setCells];exact hbw) (xs:=xs.take m) (by omega) q4 (by rw [lift_take];exact hrows.head m) (fun j v hj=>by
      have hj':j<m*s:=by
        have:=(List.getElem?_eq_some_iff.1 hj).1
        rw [List.length_take] at this
        omega
      rw [hw1,World.cell?_setCells_out b _ _ _ _ (fun _ _=>by show j<m*s∨_;omega),cell_of_row c1.w b _ arr _ (0,0) q5]
      rw [List.getElem?_take,if_pos hj'] at hj
      simpa using hj)
    rw [hml] at t3
    refine fin _ (c1.set true k2 .dead none w1) (by simp only [putDefers];exact FD) ?_ ?_ (hE1.trans t1.evo) t2 ⟨_,rfl, ?_⟩
    · have:c1.l=[]:=hg1.l.symm
      simpa [Cx.set] using this
    · simp [Cx.set,hg1g,hset]
    · have e4:(Act.put (((a5.put (some 39) (.slice (some ⟨b,0,none⟩) xs.length cap)).put (some 40) (.int .i64 m)).put (some 41) (.slice (some ⟨b,0,none⟩) m cap)) (some 4) (.slice (some ⟨b,0,none⟩) m cap)).eval (.tmp 4) = .slice (some ⟨b,0,none⟩) m cap:=by rw [putEval (by simp only [putSize];omega),if_pos rfl]
      have e5:∀ a:Act,a.eval (.tmp 4)=a.tmps.getD 4 undef:=fun _=>rfl
      rw [← e5,e4]
      exact t3
end
end Go.TA


end
section
/- The table of functions, and that it is sound. -/
namespace Go.TA.Tryz
theorem mixed:Go.Proofs.Tryz.prog.follows .mixedOrders=true:=by kernel_rfl
def tab:List (Nat × LFn):=[(4,.code F4),
 (11,.code F11),
 (12,.code F12),
 (13,.code F13),
 (18,.code F18),
 (20,.code F20),
 (25,.code F25),
 (26,.code F26),
 (27,.code F27),
 (28,.code F28),
 (29,.code F29),
 (30,.code F30),
 (31,.code F31),
 (32,.code F32),
 (33,.code F33),
 (34,.code F34),
 (35,.code F35),
 (36,.code F36),
 (38,.code F38),
 (50,.code F50),
 (51,.code F51),
 (52,.code F52),
 (55,.code F55),
 (56,.prim (pCloneT 2)),
 (61,.code F61),
 (62,.code F62),
 (63,.code F63),
 (64,.code F64),
 (65,.code F65),
 (73,.code F73),
 (74,.code F74),
 (75,.code F75),
 (76,.code F76),
 (77,.code F77),
 (78,.prim (pCloneU 1)),
 (79,.code F79),
 (80,.code F80),
 (81,.code F81),
 (82,.code F82),
 (83,.code F83),
 (84,.code F84),
 (85,.code F85),
 (86,.code F86),
 (87,.code F87),
 (93,.code F93),
 (104,.code F104),
 (105,.code F105),
 (106,.code F106),
 (107,.code F107),
 (108,.code F108),
 (109,.code F109),
 (110,.code F110),
 (111,.code F111),
 (112,.code F112),
 (113,.code F113),
 (114,.code F114),
 (115,.code F115),
 (116,.code F116),
 (117,.code F117),
 (118,.code F118),
 (119,.code F119),
 (125,.code F125),
 (126,.code F126),
 (127,.code F127),
 (128,.code F128),
 (129,.code F129),
 (130,.code F130),
 (131,.code F131),
 (132,.code F132),
 (133,.code F133),
 (134,.code F134),
 (135,.code F135),
 (136,.code F136),
 (137,.code F137),
 (138,.code F138),
 (139,.code F139),
 (140,.code F140),
 (141,.code F141),
 (142,.code F142),
 (143,.code F143),
 (158,.code F158),
 (159,.code F159),
 (160,.code F160),
 (161,.code F161),
 (162,.code F162),
 (163,.code F163),
 (164,.code F164),
 (165,.code F165),
 (166,.code F166),
 (167,.prim (pItoa)),
 (168,.code F168),
 (171,.code F171),
 (172,.prim (pInsert 2)),
 (173,.prim (pDelete 203 delLoop2 2)),
 (174,.code F174),
 (175,.code F175),
 (176,.code F176),
 (177,.code F177),
 (178,.code F178),
 (193,.code F193),
 (195,.code F195),
 (197,.code F197),
 (198,.prim (pIndexByte)),
 (203,.code F203),
 (215,.code F215),
 (216,.code F216)]
def T (k:Nat):Option LFn:=lk tab k
theorem T4:T 4=some (.code F4):=rfl
theorem T11:T 11=some (.code F11):=rfl
theorem T12:T 12=some (.code F12):=rfl
theorem T13:T 13=some (.code F13):=rfl
theorem T18:T 18=some (.code F18):=rfl
theorem T20:T 20=some (.code F20):=rfl
theorem T26:T 26=some (.code F26):=rfl
theorem T27:T 27=some (.code F27):=rfl
theorem T28:T 28=some (.code F28):=rfl
theorem T29:T 29=some (.code F29):=rfl
theorem T30:T 30=some (.code F30):=rfl
theorem T31:T 31=some (.code F31):=rfl
theorem T32:T 32=some (.code F32):=rfl
theorem T33:T 33=some (.code F33):=rfl
theorem T34:T 34=some (.code F34):=rfl
theorem T35:T 35=some (.code F35):=rfl
theorem T36:T 36=some (.code F36):=rfl
theorem T38:T 38=some (.code F38):=rfl
theorem T50:T 50=some (.code F50):=rfl
theorem T51:T 51=some (.code F51):=rfl
theorem T52:T 52=some (.code F52):=rfl
theorem T55:T 55=some (.code F55):=rfl
theorem T56:T 56=some (.prim (pCloneT 2)):=rfl
theorem T61:T 61=some (.code F61):=rfl
theorem T62:T 62=some (.code F62):=rfl
theorem T63:T 63=some (.code F63):=rfl
theorem T64:T 64=some (.code F64):=rfl
theorem T65:T 65=some (.code F65):=rfl
theorem T73:T 73=some (.code F73):=rfl
theorem T74:T 74=some (.code F74):=rfl
theorem T75:T 75=some (.code F75):=rfl
theorem T76:T 76=some (.code F76):=rfl
theorem T77:T 77=some (.code F77):=rfl
theorem T78:T 78=some (.prim (pCloneU 1)):=rfl
theorem T79:T 79=some (.code F79):=rfl
theorem T80:T 80=some (.code F80):=rfl
theorem T81:T 81=some (.code F81):=rfl
theorem T82:T 82=some (.code F82):=rfl
theorem T83:T 83=some (.code F83):=rfl
theorem T84:T 84=some (.code F84):=rfl
theorem T85:T 85=some (.code F85):=rfl
theorem T86:T 86=some (.code F86):=rfl
theorem T87:T 87=some (.code F87):=rfl
theorem T93:T 93=some (.code F93):=rfl
theorem T104:T 104=some (.code F104):=rfl
theorem T105:T 105=some (.code F105):=rfl
theorem T106:T 106=some (.code F106):=rfl
theorem T107:T 107=some (.code F107):=rfl
theorem T108:T 108=some (.code F108):=rfl
theorem T109:T 109=some (.code F109):=rfl
theorem T110:T 110=some (.code F110):=rfl
theorem T111:T 111=some (.code F111):=rfl
theorem T112:T 112=some (.code F112):=rfl
theorem T113:T 113=some (.code F113):=rfl
theorem T114:T 114=some (.code F114):=rfl
theorem T115:T 115=some (.code F115):=rfl
theorem T116:T 116=some (.code F116):=rfl
theorem T117:T 117=some (.code F117):=rfl
theorem T118:T 118=some (.code F118):=rfl
theorem T119:T 119=some (.code F119):=rfl
theorem T125:T 125=some (.code F125):=rfl
theorem T126:T 126=some (.code F126):=rfl
theorem T127:T 127=some (.code F127):=rfl
theorem T128:T 128=some (.code F128):=rfl
theorem T129:T 129=some (.code F129):=rfl
theorem T130:T 130=some (.code F130):=rfl
theorem T131:T 131=some (.code F131):=rfl
theorem T132:T 132=some (.code F132):=rfl
theorem T133:T 133=some (.code F133):=rfl
theorem T134:T 134=some (.code F134):=rfl
theorem T135:T 135=some (.code F135):=rfl
theorem T136:T 136=some (.code F136):=rfl
theorem T137:T 137=some (.code F137):=rfl
theorem T138:T 138=some (.code F138):=rfl
theorem T139:T 139=some (.code F139):=rfl
theorem T140:T 140=some (.code F140):=rfl
theorem T141:T 141=some (.code F141):=rfl
theorem T142:T 142=some (.code F142):=rfl
theorem T143:T 143=some (.code F143):=rfl
theorem T158:T 158=some (.code F158):=rfl
theorem T159:T 159=some (.code F159):=rfl
theorem T160:T 160=some (.code F160):=rfl
theorem T161:T 161=some (.code F161):=rfl
theorem T162:T 162=some (.code F162):=rfl
theorem T163:T 163=some (.code F163):=rfl
theorem T164:T 164=some (.code F164):=rfl
theorem T165:T 165=some (.code F165):=rfl
theorem T166:T 166=some (.code F166):=rfl
theorem T167:T 167=some (.prim (pItoa)):=rfl
theorem T168:T 168=some (.code F168):=rfl
theorem T171:T 171=some (.code F171):=rfl
theorem T172:T 172=some (.prim (pInsert 2)):=rfl
theorem T173:T 173=some (.prim (pDelete 203 delLoop2 2)):=rfl
theorem T174:T 174=some (.code F174):=rfl
theorem T175:T 175=some (.code F175):=rfl
theorem T176:T 176=some (.code F176):=rfl
theorem T177:T 177=some (.code F177):=rfl
theorem T178:T 178=some (.code F178):=rfl
theorem T193:T 193=some (.code F193):=rfl
theorem T195:T 195=some (.code F195):=rfl
theorem T197:T 197=some (.code F197):=rfl
theorem T198:T 198=some (.prim (pIndexByte)):=rfl
theorem T203:T 203=some (.code F203):=rfl
theorem T215:T 215=some (.code F215):=rfl
theorem T216:T 216=some (.code F216):=rfl
theorem prim56 {Γ : Ground}:PrimOk Go.Proofs.Tryz.prog Γ 56 (pCloneT 2):=pCloneT_ok (pClone_ok mixed (sz:=2) (bytes:=32) (by decide +kernel))
theorem prim78 {Γ : Ground}:PrimOk Go.Proofs.Tryz.prog Γ 78 (pCloneU 1):=pCloneU_ok mixed (sz:=1) (bytes:=8) (by decide +kernel)
theorem prim167 {Γ : Ground} (hΓ : ∀ w, Γ.holds w→Lib.TabIs Go.Proofs.Tryz.prog w "internal/strconv.uint64pow10" .u64 Lib.pow10Tab):PrimOk Go.Proofs.Tryz.prog Γ 167 (pItoa):=pItoa_ok (by decide +kernel) hΓ (fun n w h0 h1 ht=>Go.Proofs.Tryz.strconv_Itoa n h0 h1 w ht)
theorem prim172 {Γ : Ground}:PrimOk Go.Proofs.Tryz.prog Γ 172 (pInsert 2):=pInsert_ok (by decide +kernel) (by decide) ins_specA
theorem prim173 {Γ : Ground}:PrimOk Go.Proofs.Tryz.prog Γ 173 (pDelete 203 delLoop2 2):=pDelete_ok mixed (by decide +kernel)
theorem prim198 {Γ : Ground}:PrimOk Go.Proofs.Tryz.prog Γ 198 (pIndexByte):=pIndexByte_ok (by decide +kernel) Go.Proofs.Tryz.strings_IndexByte
theorem tab_ok {Γ : Ground} (hΓ : ∀ w, Γ.holds w→Lib.TabIs Go.Proofs.Tryz.prog w "internal/strconv.uint64pow10" .u64 Lib.pow10Tab):∀ e ∈ tab,RowOk Go.Proofs.Tryz.prog Γ e:=by
 unfold tab
 refine List.forall_mem_cons.2 ⟨fnSound_of ok4, ?_⟩
 refine List.forall_mem_cons.2 ⟨fnSound_of ok11, ?_⟩
 refine List.forall_mem_cons.2 ⟨fnSound_of ok12, ?_⟩
 refine List.forall_mem_cons.2 ⟨fnSound_of ok13, ?_⟩
 refine List.forall_mem_cons.2 ⟨fnSound_of ok18, ?_⟩
 refine List.forall_mem_cons.2 ⟨fnSound_of ok20, ?_⟩
 refine List.forall_mem_cons.2 ⟨fnSound_of ok25, ?_⟩
 refine List.forall_mem_cons.2 ⟨fnSound_of ok26, ?_⟩
 refine List.forall_mem_cons.2 ⟨fnSound_of ok27, ?_⟩
 refine List.forall_mem_cons.2 ⟨fnSound_of ok28, ?_⟩
 refine List.forall_mem_cons.2 ⟨fnSound_of ok29, ?_⟩
 refine List.forall_mem_cons.2 ⟨fnSound_of ok30, ?_⟩
 refine List.forall_mem_cons.2 ⟨fnSound_of ok31, ?_⟩
 refine List.forall_mem_cons.2 ⟨fnSound_of ok32, ?_⟩
 refine List.forall_mem_cons.2 ⟨fnSound_of ok33, ?_⟩
 refine List.forall_mem_cons.2 ⟨fnSound_of ok34, ?_⟩
 refine List.forall_mem_cons.2 ⟨fnSound_of ok35, ?_⟩
 refine List.forall_mem_cons.2 ⟨fnSound_of ok36, ?_⟩
 refine List.forall_mem_cons.2 ⟨fnSound_of ok38, ?_⟩
 refine List.forall_mem_cons.2 ⟨fnSound_of ok50, ?_⟩
 refine List.forall_mem_cons.2 ⟨fnSound_of ok51, ?_⟩
 refine List.forall_mem_cons.2 ⟨fnSound_of ok52, ?_⟩
 refine List.forall_mem_cons.2 ⟨fnSound_of ok55, ?_⟩
 refine List.forall_mem_cons.2 ⟨prim56, ?_⟩
 refine List.forall_mem_cons.2 ⟨fnSound_of ok61, ?_⟩
 refine List.forall_mem_cons.2 ⟨fnSound_of ok62, ?_⟩
 refine List.forall_mem_cons.2 ⟨fnSound_of ok63, ?_⟩
 refine List.forall_mem_cons.2 ⟨fnSound_of ok64, ?_⟩
 refine List.forall_mem_cons.2 ⟨fnSound_of ok65, ?_⟩
 refine List.forall_mem_cons.2 ⟨fnSound_of ok73, ?_⟩
 refine List.forall_mem_cons.2 ⟨fnSound_of ok74, ?_⟩
 refine List.forall_mem_cons.2 ⟨fnSound_of ok75, ?_⟩
 refine List.forall_mem_cons.2 ⟨fnSound_of ok76, ?_⟩
 refine List.forall_mem_cons.2 ⟨fnSound_of ok77, ?_⟩
 refine List.forall_mem_cons.2 ⟨prim78, ?_⟩
 refine List.forall_mem_cons.2 ⟨fnSound_of ok79, ?_⟩
 refine List.forall_mem_cons.2 ⟨fnSound_of ok80, ?_⟩
 refine List.forall_mem_cons.2 ⟨fnSound_of ok81, ?_⟩
 refine List.forall_mem_cons.2 ⟨fnSound_of ok82, ?_⟩
 refine List.forall_mem_cons.2 ⟨fnSound_of ok83, ?_⟩
 refine List.forall_mem_cons.2 ⟨fnSound_of ok84, ?_⟩
 refine List.forall_mem_cons.2 ⟨fnSound_of ok85, ?_⟩
 refine List.forall_mem_cons.2 ⟨fnSound_of ok86, ?_⟩
 refine List.forall_mem_cons.2 ⟨fnSound_of ok87, ?_⟩
 refine List.forall_mem_cons.2 ⟨fnSound_of ok93, ?_⟩
 refine List.forall_mem_cons.2 ⟨fnSound_of ok104, ?_⟩
 refine List.forall_mem_cons.2 ⟨fnSound_of ok105, ?_⟩
 refine List.forall_mem_cons.2 ⟨fnSound_of ok106, ?_⟩
 refine List.forall_mem_cons.2 ⟨fnSound_of ok107, ?_⟩
 refine List.forall_mem_cons.2 ⟨fnSound_of ok108, ?_⟩
 refine List.forall_mem_cons.2 ⟨fnSound_of ok109, ?_⟩
 refine List.forall_mem_cons.2 ⟨fnSound_of ok110, ?_⟩
 refine List.forall_mem_cons.2 ⟨fnSound_of ok111, ?_⟩
 refine List.forall_mem_cons.2 ⟨fnSound_of ok112, ?_⟩
 refine List.forall_mem_cons.2 ⟨fnSound_of ok113, ?_⟩
 refine List.forall_mem_cons.2 ⟨fnSound_of ok114, ?_⟩
 refine List.forall_mem_cons.2 ⟨fnSound_of ok115, ?_⟩
 refine List.forall_mem_cons.2 ⟨fnSound_of ok116, ?_⟩
 refine List.forall_mem_cons.2 ⟨fnSound_of ok117, ?_⟩
 refine List.forall_mem_cons.2 ⟨fnSound_of ok118, ?_⟩
 refine List.forall_mem_cons.2 ⟨fnSound_of ok119, ?_⟩
 refine List.forall_mem_cons.2 ⟨fnSound_of ok125, ?_⟩
 refine List.forall_mem_cons.2 ⟨fnSound_of ok126, ?_⟩
 refine List.forall_mem_cons.2 ⟨fnSound_of ok127, ?_⟩
 refine List.forall_mem_cons.2 ⟨fnSound_of ok128, ?_⟩
 refine List.forall_mem_cons.2 ⟨fnSound_of ok129, ?_⟩
 refine List.forall_mem_cons.2 ⟨fnSound_of ok130, ?_⟩
 refine List.forall_mem_cons.2 ⟨fnSound_of ok131, ?_⟩
 refine List.forall_mem_cons.2 ⟨fnSound_of ok132, ?_⟩
 refine List.forall_mem_cons.2 ⟨fnSound_of ok133, ?_⟩
 refine List.forall_mem_cons.2 ⟨fnSound_of ok134, ?_⟩
 refine List.forall_mem_cons.2 ⟨fnSound_of ok135, ?_⟩
 refine List.forall_mem_cons.2 ⟨fnSound_of ok136, ?_⟩
 refine List.forall_mem_cons.2 ⟨fnSound_of ok137, ?_⟩
 refine List.forall_mem_cons.2 ⟨fnSound_of ok138, ?_⟩
 refine List.forall_mem_cons.2 ⟨fnSound_of ok139, ?_⟩
 refine List.forall_mem_cons.2 ⟨fnSound_of ok140, ?_⟩
 refine List.forall_mem_cons.2 ⟨fnSound_of ok141, ?_⟩
 refine List.forall_mem_cons.2 ⟨fnSound_of ok142, ?_⟩
 refine List.forall_mem_cons.2 ⟨fnSound_of ok143, ?_⟩
 refine List.forall_mem_cons.2 ⟨fnSound_of ok158, ?_⟩
 refine List.forall_mem_cons.2 ⟨fnSound_of ok159, ?_⟩
 refine List.forall_mem_cons.2 ⟨fnSound_of ok160, ?_⟩
 refine List.forall_mem_cons.2 ⟨fnSound_of ok161, ?_⟩
 refine List.forall_mem_cons.2 ⟨fnSound_of ok162, ?_⟩
 refine List.forall_mem_cons.2 ⟨fnSound_of ok163, ?_⟩
 refine List.forall_mem_cons.2 ⟨fnSound_of ok164, ?_⟩
 refine List.forall_mem_cons.2 ⟨fnSound_of ok165, ?_⟩
 refine List.forall_mem_cons.2 ⟨fnSound_of ok166, ?_⟩
 refine List.forall_mem_cons.2 ⟨prim167 hΓ, ?_⟩
 refine List.forall_mem_cons.2 ⟨fnSound_of ok168, ?_⟩
 refine List.forall_mem_cons.2 ⟨fnSound_of ok171, ?_⟩
 refine List.forall_mem_cons.2 ⟨prim172, ?_⟩
 refine List.forall_mem_cons.2 ⟨prim173, ?_⟩
 refine List.forall_mem_cons.2 ⟨fnSound_of ok174, ?_⟩
 refine List.forall_mem_cons.2 ⟨fnSound_of ok175, ?_⟩
 refine List.forall_mem_cons.2 ⟨fnSound_of ok176, ?_⟩
 refine List.forall_mem_cons.2 ⟨fnSound_of ok177, ?_⟩
 refine List.forall_mem_cons.2 ⟨fnSound_of ok178, ?_⟩
 refine List.forall_mem_cons.2 ⟨fnSound_of ok193, ?_⟩
 refine List.forall_mem_cons.2 ⟨fnSound_of ok195, ?_⟩
 refine List.forall_mem_cons.2 ⟨fnSound_of ok197, ?_⟩
 refine List.forall_mem_cons.2 ⟨prim198, ?_⟩
 refine List.forall_mem_cons.2 ⟨fnSound_of ok203, ?_⟩
 refine List.forall_mem_cons.2 ⟨fnSound_of ok215, ?_⟩
 refine List.forall_mem_cons.2 ⟨fnSound_of ok216, ?_⟩
 simp
theorem T_okW (W:World):TOk Go.Proofs.Tryz.prog (ΓW Go.Proofs.Tryz.prog W) T:=tOk_of (tab_ok ΓW_tab)
end Go.TA.Tryz


end
section
/- The links of a document's items, walked. -/
namespace Go.TA.Tryz
section
variable {L:List Nat} {st:Nat→MNode} {nx:Int} {it nd:Nat→Nat} {I:Nat→LK} {pd pm:Nat} {g:List AObj}
theorem up_run (hD:DocAt L st nx it nd I pd pm g) {c:Nat} (hc:c ∈ L) (n:Nat):acall T (n+1) 93 [IP it c] g=some (iAV it (I c).u,g):=by
 obtain ⟨o,ho,hr⟩:=hD.items c hc
 obtain ⟨r0,r1,r2,r3,r4,r5⟩:=item_rd hr
 rw [acall_code T93,run_code rfl rfl]
 simp -implicitDefEqProofs (disch:=omega) only [Rx,simprocAttr,F93,ho,r1,iAVe]
theorem first_run (hD:DocAt L st nx it nd I pd pm g) {c:Nat} (hc:c ∈ L) (n:Nat):acall T (n+1) 83 [IP it c] g=some (iAV it (I c).f,g):=by
 obtain ⟨o,ho,hr⟩:=hD.items c hc
 obtain ⟨r0,r1,r2,r3,r4,r5⟩:=item_rd hr
 rw [acall_code T83,run_code rfl rfl]
 simp -implicitDefEqProofs (disch:=omega) only [Rx,simprocAttr,F83,ho,r2,iAVe]
theorem next_run (hD:DocAt L st nx it nd I pd pm g) {c:Nat} (hc:c ∈ L) (n:Nat):acall T (n+1) 84 [IP it c] g=some (iAV it (I c).n,g):=by
 obtain ⟨o,ho,hr⟩:=hD.items c hc
 obtain ⟨r0,r1,r2,r3,r4,r5⟩:=item_rd hr
 rw [acall_code T84,run_code rfl rfl]
 simp -implicitDefEqProofs (disch:=omega) only [Rx,simprocAttr,F84,ho,r5,iAVe]
theorem mark_run (hD:DocAt L st nx it nd I pd pm g) {c:Nat} (hc:c ∈ L) (n:Nat):acall T (n+1) 85 [IP it c] g=some (.p (.int .i64 c),g):=by
 obtain ⟨o,ho,hr⟩:=hD.items c hc
 obtain ⟨r0,r1,r2,r3,r4,r5⟩:=item_rd hr
 rw [acall_code T85,run_code rfl rfl]
 simp -implicitDefEqProofs (disch:=omega) only [Rx,simprocAttr,F85,ho,r0]
theorem make_run (id:Int) (g:List AObj) (n:Nat):acall T (n+1) 73 [.p (.int .i64 id)] g=some (.ptr true g.length 6 1 0 0,g++[.pcells 6 [[.int .i64 id,.nilp,.nilp,.nilp,.nilp,.nilp]]]):=by
 rw [acall_code T73,run_code rfl rfl]
 simp -implicitDefEqProofs (disch:=omega) only [Rx,simprocAttr,F73]
end
section
variable {R:Nat} {S:MS} {nx:Int} {it nd:Nat→Nat} {I:Nat→LK} {pd pm:Nat} {g:List AObj}
theorem dunder_loop (hS : S.Ok R) (hI : LinkOk S I) (hD : DocAt (liveL S) S.st nx it nd I pd pm g) {t : Nat} (ht : t ∈ liveL S) (n : Nat) (N : Nat) (hN : R + 3 < N) (h : Nat) (hh : h ∈ liveL S) :
    aexec (acall T n) N (.loop B175x0) ⟨[(0,IP it h),(1,IP it t)],[],g⟩=some (if underB S (h:Int) (t:Int)=true then (.ret,⟨[(4,.p (.bool true))],[],g⟩) else (.exit 0,⟨[],[],g⟩)):=by
  obtain ⟨r,hr1,hr2⟩:=hS.rank
  have hhN:=(mem_liveL.1 hh).1
  have key:=loop_inv (C:=acall T n) (N:=N) (B:=B175x0) (σ := Option Nat) (S:=fun y=>⟨[(0,iAV it y),(1,IP it t)],[],g⟩)
    (I:=fun y=>(∀ c,y=some c→c ∈ liveL S)∧(Below S (t:Int) (h:Int)↔∃ c:Nat,y=some c∧Below S (t:Int) (c:Int))) (μ := fun y=>match y with | none=>0 | some c=>r c+1)
    (Q:=fun z=>z=(if underB S (h:Int) (t:Int)=true then (.ret,⟨[(4,.p (.bool true))],[],g⟩) else (.exit 0,⟨[],[],g⟩))) ?_ (some h) ⟨fun c e=>by cases e;exact hh,⟨fun b=>⟨h,rfl,b⟩,fun ⟨c,e,b⟩=>by cases e;exact b⟩⟩ (by
      have:=hr1 h hhN
      simp only
      omega)
  · obtain ⟨z,hz,rfl⟩:=key
    exact hz
  rintro y ⟨hy,hb⟩
  cases y with
  | none =>
    right
    have hf:¬ Below S (t:Int) (h:Int):=fun z=>by obtain ⟨c,e,_⟩:=hb.1 z;cases e
    refine ⟨_, ?_, ?_,rfl⟩
    · rw [if_neg (fun z=>hf (underB_iff.1 z))]
      simp -implicitDefEqProofs (disch:=omega) only [Rx,simprocAttr,B175x0,iAVs]
    · rw [if_neg (fun z=>hf (underB_iff.1 z))];simp
  | some c =>
    have hc:=hy c rfl
    have hcN:=(mem_liveL.1 hc).1
    have oc:=hD.one hc [] []
    simp only [St.one,St.obj,if_true] at oc
    have hb':Below S (t:Int) (h:Int)↔Below S (t:Int) (c:Int):=⟨fun z=>by obtain ⟨d,e,b⟩:=hb.1 z;cases e;exact b,fun z=>hb.2 ⟨c,rfl,z⟩⟩
    by_cases e:c=t
    · subst e
      right
      have hf:Below S (c:Int) (h:Int):=hb'.2 .here
      refine ⟨_, ?_, ?_,rfl⟩
      · rw [if_pos (underB_iff.2 hf)]
        simp -implicitDefEqProofs (disch:=omega) only [Rx,simprocAttr,B175x0,iAVs,oc]
      · rw [if_pos (underB_iff.2 hf)];simp
    · left
      have hne:(it c==it t)=false:=by
        simp only [beq_eq_false_iff_ne,ne_eq]
        exact fun e2=>e (hD.itInj c hc t ht e2)
      obtain ⟨o,ho,hr⟩:=hD.items c hc
      obtain ⟨r0,r1,r2,r3,r4,r5⟩:=item_rd hr
      have ot:=hD.one ht [] []
      simp only [St.one,St.obj,if_true] at ot
      rw [ho] at oc
      refine ⟨(I c).u, ?_,⟨fun d hd => ?_, ?_⟩, ?_⟩
      · simp -implicitDefEqProofs (disch:=omega) only [Rx,simprocAttr,B175x0,iAVs,iAVe,oc,ot,hne,ho,r1]
      · rw [hI.up c hc] at hd
        rcases hS.up c hcN with h1 | ⟨p,h1,h2,h3,_⟩
        · rw [upN_none hS hcN (by omega)] at hd;cases hd
        · rw [upN_some hS hcN h2] at hd
          cases hd
          exact mem_liveL.2 ⟨h1,h3⟩
      · rw [hb',below_iff (by omega) (by omega),hI.up c hc]
        rcases hS.up c hcN with h1 | ⟨p,h1,h2,h3,_⟩
        · rw [upN_none hS hcN (by omega)]
          have:upOf S (c:Int) = -1:=h1
          rw [this]
          exact ⟨fun z=>absurd z (below_neg (by omega)),fun ⟨d,e,_⟩=>by cases e⟩
        · rw [upN_some hS hcN h2]
          have:upOf S (c:Int)=(p:Int):=h2
          rw [this]
          exact ⟨fun z=>⟨p,rfl,z⟩,fun ⟨d,e,z⟩=>by cases e;exact z⟩
      · rw [hI.up c hc]
        rcases hS.up c hcN with h1 | ⟨p,h1,h2,h3,_⟩
        · rw [upN_none hS hcN (by omega)]
          simp only;omega
        · rw [upN_some hS hcN h2]
          have:=hr2 c p hcN h2
          simp only;omega
theorem dunder_run (hS:S.Ok R) (hI:LinkOk S I) (hD:DocAt (liveL S) S.st nx it nd I pd pm g) {h t:Nat} (hh:h ∈ liveL S) (ht:t ∈ liveL S) {n:Nat} (hn:R+3<n):acall T (n+1) 175 [IP it h,IP it t] g=some (.p (.bool (underB S h t)),g):=by
 rw [acall_code T175,run_code rfl rfl]
 have hl:=dunder_loop hS hI hD ht n n hn h hh
 by_cases hb:Below S (t:Int) (h:Int)
 ·have e:underB S h t=true:=by simp [underB,hb]
  rw [if_pos e] at hl
  simp -implicitDefEqProofs (disch:=omega) only [Rx,simprocAttr,F175,hl,e]
 ·have e:underB S h t=false:=by simp [underB,hb]
  rw [if_neg (by rw [e];simp)] at hl
  simp -implicitDefEqProofs (disch:=omega) only [Rx,simprocAttr,F175,hl,e]
end
end Go.TA.Tryz


end
section
/- Putting and taking out, store by store. Plain. -/
namespace Go.TA
def placeC (I : Nat → LK) (x y : Nat) (b : Option Nat) : Nat → LK :=
  let I1:=upd I y { I y with u:=some x }
  let I2:=upd I1 y { I1 y with n:=b }
  let I3:=upd I2 y { I2 y with p:=aheadI I x b }
  let I4:=match b with
    | none=>upd I3 x { I3 x with l:=some y }
    | some k=>upd I3 k { I3 k with p:=some y }
  match aheadI I x b with
    | none=>upd I4 x { I4 x with f:=some y }
    | some a=>upd I4 a { I4 a with n:=some y }
theorem placeC_eq {I : Nat → LK} {x y : Nat} {b : Option Nat} (hxy : x ≠ y) (hby : b ≠ some y) (hay : aheadI I x b ≠ some y) : placeC I x y b = placeI I x y b := by
  have hyx:y≠x:=fun e=>hxy e.symm
  funext k
  unfold placeC placeI
  cases h:aheadI I x b with
  | none =>
    cases b with
    | none =>
      by_cases e1:k=y
      · subst e1;simp [upd,hyx]
      · by_cases e2:k=x
        · subst e2;simp [upd,e1]
        · simp [upd,e1,e2]
    | some c =>
      have hcy:c≠y:=fun e=>hby (by rw [e])
      by_cases e1:k=y
      · subst e1
        have:k≠c:=fun e=>hcy e.symm
        simp [upd,hyx,this]
      · by_cases e2:k=x
        · subst e2
          by_cases e3:k=c
          · subst e3;simp [upd,e1]
          · have:c≠k:=fun e=>e3 e.symm
            simp [upd,e1,e3,this]
        · by_cases e3:k=c
          · subst e3;simp [upd,e1,e2]
          · have:c≠k:=fun e=>e3 e.symm
            simp [upd,e1,e2,e3,this]
  | some a =>
    have hay':a≠y:=fun e=>hay (by rw [h,e])
    cases b with
    | none =>
      by_cases e1:k=y
      · subst e1
        have:k≠a:=fun e=>hay' e.symm
        simp [upd,hyx,this]
      · by_cases e2:k=x
        · subst e2
          by_cases e4:k=a
          · subst e4;simp [upd,e1]
          · have:a≠k:=fun e=>e4 e.symm
            simp [upd,e1,e4,this]
        · by_cases e4:k=a
          · subst e4;simp [upd,e1,e2]
          · have:a≠k:=fun e=>e4 e.symm
            simp [upd,e1,e2,e4,this]
    | some c =>
      have hcy:c≠y:=fun e=>hby (by rw [e])
      by_cases e1:k=y
      · subst e1
        have:k≠c:=fun e=>hcy e.symm
        have h2:k≠a:=fun e=>hay' e.symm
        simp [upd,hyx,this,h2]
      · by_cases e3:k=c
        · subst e3
          by_cases e4:k=a
          · subst e4;simp [upd,e1]
          · have:a≠k:=fun e=>e4 e.symm
            simp [upd,e1,e4,this]
        · have q3:c≠k:=fun e=>e3 e.symm
          by_cases e4:k=a
          · subst e4;simp [upd,e1,e3,q3]
          · have:a≠k:=fun e=>e4 e.symm
            simp [upd,e1,e3,e4,this,q3]
def dropC (I : Nat → LK) (x u : Nat) : Nat → LK :=
  let I1:=match (I x).p with
    | none=>upd I u { I u with f:=(I x).n }
    | some a=>upd I a { I a with n:=(I x).n }
  let I2:=match (I x).n with
    | none=>upd I1 u { I1 u with l:=(I x).p }
    | some c=>upd I1 c { I1 c with p:=(I x).p }
  let I3:=upd I2 x { I2 x with u:=none }
  let I4:=upd I3 x { I3 x with p:=none }
  upd I4 x { I4 x with n:=none }
theorem dropC_eq {I : Nat → LK} {x u : Nat} (hu : (I x).u = some u) (hux : u ≠ x) (hp : (I x).p ≠ some x) (hn : (I x).n ≠ some x) : dropC I x u = dropI I x := by
  have hxu:x≠u:=fun e=>hux e.symm
  funext k
  unfold dropC dropI
  rw [hu]
  cases h1:(I x).p with
  | none =>
    cases h2:(I x).n with
    | none =>
      by_cases e1:k=x
      · subst e1;simp [upd,hxu]
      · by_cases e2:k=u
        · subst e2;simp [upd,e1]
        · have:u≠k:=fun e=>e2 e.symm
          simp [upd,e1,e2,this]
    | some c =>
      have hcx:c≠x:=fun e=>hn (by rw [h2,e])
      by_cases e1:k=x
      · subst e1
        have:k≠c:=fun e=>hcx e.symm
        simp [upd,hxu,this]
      · by_cases e2:k=u
        · subst e2
          by_cases e3:k=c
          · subst e3;simp [upd,e1]
          · have:c≠k:=fun e=>e3 e.symm
            simp [upd,e1,e3,this]
        · have q2:u≠k:=fun e=>e2 e.symm
          by_cases e3:k=c
          · subst e3;simp [upd,e1,e2,q2]
          · have:c≠k:=fun e=>e3 e.symm
            simp [upd,e1,e2,e3,this,q2]
  | some a =>
    have hax:a≠x:=fun e=>hp (by rw [h1,e])
    cases h2:(I x).n with
    | none =>
      by_cases e1:k=x
      · subst e1
        have:k≠a:=fun e=>hax e.symm
        simp [upd,hxu,this]
      · by_cases e2:k=u
        · subst e2
          by_cases e4:k=a
          · subst e4;simp [upd,e1]
          · have:a≠k:=fun e=>e4 e.symm
            simp [upd,e1,e4,this]
        · have q2:u≠k:=fun e=>e2 e.symm
          by_cases e4:k=a
          · subst e4;simp [upd,e1,e2,q2]
          · have:a≠k:=fun e=>e4 e.symm
            simp [upd,e1,e2,e4,this,q2]
    | some c =>
      have hcx:c≠x:=fun e=>hn (by rw [h2,e])
      by_cases e1:k=x
      · subst e1
        have:k≠c:=fun e=>hcx e.symm
        have h4:k≠a:=fun e=>hax e.symm
        simp [upd,hxu,this,h4]
      · by_cases e3:k=c
        · subst e3
          by_cases e4:k=a
          · subst e4;simp [upd,e1]
          · have:a≠k:=fun e=>e4 e.symm
            simp [upd,e1,e4,this]
        · have q3:c≠k:=fun e=>e3 e.symm
          by_cases e4:k=a
          · subst e4;simp [upd,e1,e3,q3]
          · have:a≠k:=fun e=>e4 e.symm
            simp [upd,e1,e3,e4,this,q3]
theorem item_at {L:List Nat} {st:Nat→MNode} {nx:Int} {it nd:Nat→Nat} {I:Nat→LK} {pd pm:Nat} {g:List AObj} (hD:DocAt L st nx it nd I pd pm g) {c:Nat} (hc:c ∈ L) (x:LK) (hx:I c=x):∃ o,g[it c]? = some o ∧
  o.rd 1 1 0 0 6 false=some (.p (.int .i64 c))∧o.rd 1 1 0 1 6 false=some (iAV it x.u)∧o.rd 1 1 0 2 6 false=some (iAV it x.f)∧o.rd 1 1 0 3 6 false=some (iAV it x.l)∧o.rd 1 1 0 4 6 false=some (iAV it x.p)∧o.rd 1 1 0 5 6 false=some (iAV it x.n):=by
 subst hx
 obtain ⟨o,ho,hr⟩:=hD.items c hc
 exact ⟨o,ho,item_rd hr⟩
end Go.TA


end
section
/- An item is put below another one; it is taken out. -/
namespace Go.TA.Tryz
section
variable {R:Nat} {S:MS} {nx:Int} {it nd:Nat→Nat} {I:Nat→LK} {pd pm:Nat} {g:List AObj}
theorem place_held (hD:DocAt (liveL S) S.st nx it nd I pd pm g) (hI:LinkOk S I) (hS:S.Ok R) {x y:Nat} (hx:x ∈ liveL S) (hy:y ∈ liveL S) (hyu:0≤(S.st y).up) (b:Option Nat) (n:Nat):acall T (n+2) 129 [IP it x,IP it y,iAV it b] g=some (.p (.int .i64 15),g):=by
 obtain ⟨o,ho,r0,r1,r2,r3,r4,r5⟩:=item_at hD hy (I y) rfl
 obtain ⟨p,hp,_⟩:=hS.up_nat (mem_liveL.1 hy).1 hyu
 rw [hI.up y hy,upN_some hS (mem_liveL.1 hy).1 hp] at r1
 rw [acall_code T129,run_code rfl rfl]
 simp only [iAV] at r1
 simp -implicitDefEqProofs (disch:=omega) only [Rx,simprocAttr,F129,ho,r1,iAVe]
theorem place_cycle (hS:S.Ok R) (hD:DocAt (liveL S) S.st nx it nd I pd pm g) (hI:LinkOk S I) {x y:Nat} (hx:x ∈ liveL S) (hy:y ∈ liveL S) (hyu:(S.st y).up<0) (hun:underB S x y=true) (b:Option Nat) {n:Nat} (hn:R+3<n):acall T (n+2) 129 [IP it x,IP it y,iAV it b] g=some (.p (.int .i64 17),g):=by
 obtain ⟨o,ho,r0,r1,r2,r3,r4,r5⟩:=item_at hD hy (I y) rfl
 have un:=dunder_run hS hI hD hx hy (n:=n) hn
 rw [hun] at un
 rw [hI.up y hy,upN_none hS (mem_liveL.1 hy).1 hyu] at r1
 simp only [iAV] at r1
 rw [acall_code T129,run_code rfl rfl]
 simp -implicitDefEqProofs (disch:=omega) only [Rx,simprocAttr,F129,ho,r1,un,iAVe]
theorem place_bad (hS:S.Ok R) (hD:DocAt (liveL S) S.st nx it nd I pd pm g) (hI:LinkOk S I) {x y:Nat} (hx:x ∈ liveL S) (hy:y ∈ liveL S) (hyu:(S.st y).up<0) (hun:underB S x y=false) {b:Nat} (hb:b ∈ liveL S) (hbu:(S.st b).up≠(x:Int)) {n:Nat} (hn:R+3<n):acall T (n+2) 129 [IP it x,IP it y,IP it b] g=some (.p (.int .i64 18),g):=by
 obtain ⟨o,ho,r0,r1,r2,r3,r4,r5⟩:=item_at hD hy (I y) rfl
 obtain ⟨ob,hob,s0,s1,s2,s3,s4,s5⟩:=item_at hD hb (I b) rfl
 have un:=dunder_run hS hI hD hx hy (n:=n) hn
 rw [hun] at un
 rw [hI.up y hy,upN_none hS (mem_liveL.1 hy).1 hyu] at r1
 rw [hI.up b hb] at s1
 have hbN:=(mem_liveL.1 hb).1
 have ox:=hD.one hx [] []
 simp only [St.one,St.obj,if_true] at ox
 rw [acall_code T129,run_code rfl rfl]
 rcases hS.up b hbN with h1 | ⟨p,h1,h2,h3,_⟩
 ·rw [upN_none hS hbN (by omega)] at s1
  simp only [iAV] at r1 s1
  simp -implicitDefEqProofs (disch:=omega) only [Rx,simprocAttr,F129,ho,r1,hob,s1,un]
 ·rw [upN_some hS hbN h2] at s1
  have hpL:p ∈ liveL S:=mem_liveL.2 ⟨h1,h3⟩
  have op:=hD.one hpL [] []
  simp only [St.one,St.obj,if_true] at op
  have hne:(it p==it x)=false:=by
   simp only [beq_eq_false_iff_ne,ne_eq]
   intro e
   have:=hD.itInj p hpL x hx e
   subst this
   exact hbu h2
  simp only [iAV] at r1 s1
  simp -implicitDefEqProofs (disch:=omega) only [Rx,simprocAttr,F129,ho,r1,hob,s1,un,ox,op,hne]
theorem place_done (hS : S.Ok R) (hD : DocAt (liveL S) S.st nx it nd I pd pm g) (hI : LinkOk S I) {x y : Nat} (hx : x ∈ liveL S) (hy : y ∈ liveL S) (hyu : (S.st y).up < 0) (hun : underB S x y = false) (b : Option Nat) (hb : ∀ k, b = some k → k ∈ liveL S ∧ (S.st k).up = (x : Int)) (ha : ∀ k, aheadI I x b = some k → k ∈ liveL S ∧ k ≠ y) {n : Nat} (hn : R + 3 < n) :
    ∃ g',acall T (n+2) 129 [IP it x,IP it y,iAV it b] g=some (.p (.int .i64 0),g')∧DocAt (liveL S) S.st nx it nd (placeI I x y b) pd pm g'∧GFr g (DocOwn (liveL S) it nd pd pm) g' (DocOwn (liveL S) it nd pd pm):=by
  have hxy:x≠y:=fun e=>by
    subst e
    have:underB S (x:Int) (x:Int)=true:=underB_iff.2 .here
    rw [this] at hun;cases hun
  have hyx:y≠x:=fun e=>hxy e.symm
  have hby:b≠some y:=fun e=>by have:=(hb y e).2;omega
  have hay:aheadI I x b≠some y:=fun e=>(ha y e).2 rfl
  obtain ⟨o,ho,r0,r1,r2,r3,r4,r5⟩:=item_at hD hy (I y) rfl
  rw [hI.up y hy,upN_none hS (mem_liveL.1 hy).1 hyu] at r1
  have un:=dunder_run hS hI hD hx hy (n:=n) hn
  rw [hun] at un
  have ox:=hD.one hx [] []
  simp only [St.one,St.obj,if_true] at ox
  have cA:=cells_iAV it (aheadI I x b)
  have nA:=noLocal_iAV it (aheadI I x b)
  rw [← placeC_eq hxy hby hay]
  obtain ⟨o1,o1',g1,h1,q1,w1,s1,D1,F1⟩:=hD.link hy (j:=1) (by omega) { I y with u:=some x } (some x) rfl
  obtain ⟨o2,o2',g2,h2,q2,w2,s2,D2,F2⟩:=D1.link hy (j:=5) (by omega) { (upd I y { I y with u:=some x }) y with n:=b } b rfl
  rw [ho] at h1;cases h1
  simp only [iAV] at r1 w1
  cases b with
  | none =>
    obtain ⟨ox2,hx2,t0,t1,t2,t3,t4,t5⟩:=item_at D2 hx (I x) (by simp [upd,hxy])
    obtain ⟨o3,o3',g3,h3,q3,w3,s3,D3,F3⟩:=D2.link hy (j:=4) (by omega) { (upd (upd I y { I y with u:=some x }) y { (upd I y { I y with u:=some x }) y with n:=none }) y with p:=aheadI I x none } (aheadI I x none) rfl
    obtain ⟨o4,o4',g4,h4,q4,w4,s4,D4,F4⟩:=D3.link hx (j:=3) (by omega) { (upd (upd (upd I y { I y with u:=some x }) y { (upd I y { I y with u:=some x }) y with n:=none }) y { (upd (upd I y { I y with u:=some x }) y { (upd I y { I y with u:=some x }) y with n:=none }) y with p:=aheadI I x none }) x with l:=some y } (some y) rfl
    obtain ⟨oy4,hy4,v0,v1,v2,v3,v4,v5⟩:=item_at D4 hy ⟨some x,(I y).f,(I y).l,aheadI I x none,none⟩ (by simp [upd,hyx])
    have e3:iAV it (I x).l=iAV it (aheadI I x none):=rfl
    rw [e3] at t3
    simp only at v4
    cases hA:aheadI I x none with
    | none =>
      obtain ⟨o5,o5',g5,h5,q5,w5,s5,D5,F5⟩:=D4.link hx (j:=2) (by omega) { (upd (upd (upd (upd I y { I y with u:=some x }) y { (upd I y { I y with u:=some x }) y with n:=none }) y { (upd (upd I y { I y with u:=some x }) y { (upd I y { I y with u:=some x }) y with n:=none }) y with p:=aheadI I x none }) x { (upd (upd (upd I y { I y with u:=some x }) y { (upd I y { I y with u:=some x }) y with n:=none }) y { (upd (upd I y { I y with u:=some x }) y { (upd I y { I y with u:=some x }) y with n:=none }) y with p:=aheadI I x none }) x with l:=some y }) x with f:=some y } (some y) rfl
      refine ⟨g5, ?_, ?_,((((F1.trans F2).trans F3).trans F4).trans F5)⟩
      · rw [acall_code T129,run_code rfl rfl]
        rw [hA] at t3 w3 v4
        simp only [iAV] at t3 w2 w3 w4 w5 v4 ⊢
        simp -implicitDefEqProofs (disch:=omega) only [Rx,simprocAttr,F129,ho,r1,un,w1,s1,h2,w2,s2,hx2,t3,h3,w3,s3,h4,w4,s4,hy4,v4,h5,w5,s5]
      · unfold placeC
        simp only [hA] at D5 ⊢
        exact D5
    | some a =>
      obtain ⟨haL,hay'⟩:=ha a hA
      obtain ⟨o5,o5',g5,h5,q5,w5,s5,D5,F5⟩:=D4.link haL (j:=5) (by omega) { (upd (upd (upd (upd I y { I y with u:=some x }) y { (upd I y { I y with u:=some x }) y with n:=none }) y { (upd (upd I y { I y with u:=some x }) y { (upd I y { I y with u:=some x }) y with n:=none }) y with p:=aheadI I x none }) x { (upd (upd (upd I y { I y with u:=some x }) y { (upd I y { I y with u:=some x }) y with n:=none }) y { (upd (upd I y { I y with u:=some x }) y { (upd I y { I y with u:=some x }) y with n:=none }) y with p:=aheadI I x none }) x with l:=some y }) a with n:=some y } (some y) rfl
      refine ⟨g5, ?_, ?_,((((F1.trans F2).trans F3).trans F4).trans F5)⟩
      · rw [acall_code T129,run_code rfl rfl]
        rw [hA] at t3 w3 v4
        simp only [iAV] at t3 w2 w3 w4 w5 v4 ⊢
        simp -implicitDefEqProofs (disch:=omega) only [Rx,simprocAttr,F129,ho,r1,un,w1,s1,h2,w2,s2,hx2,t3,h3,w3,s3,h4,w4,s4,hy4,v4,h5,w5,s5]
      · unfold placeC
        simp only [hA] at D5 ⊢
        exact D5
  | some c =>
    obtain ⟨hcL,hcu⟩:=hb c rfl
    have hcy:c≠y:=fun e=>hby (by rw [e])
    have hyc:y≠c:=fun e=>hcy e.symm
    obtain ⟨oc,hoc,c0,c1,c2,c3,c4,c5⟩:=item_at hD hcL (I c) rfl
    rw [hI.up c hcL,upN_some hS (mem_liveL.1 hcL).1 hcu] at c1
    obtain ⟨ox2,hx2,t0,t1,t2,t3,t4,t5⟩:=item_at D2 hcL (I c) (by simp [upd,hcy])
    obtain ⟨o3,o3',g3,h3,q3,w3,s3,D3,F3⟩:=D2.link hy (j:=4) (by omega) { (upd (upd I y { I y with u:=some x }) y { (upd I y { I y with u:=some x }) y with n:=some c }) y with p:=aheadI I x (some c) } (aheadI I x (some c)) rfl
    obtain ⟨o4,o4',g4,h4,q4,w4,s4,D4,F4⟩:=D3.link hcL (j:=4) (by omega) { (upd (upd (upd I y { I y with u:=some x }) y { (upd I y { I y with u:=some x }) y with n:=some c }) y { (upd (upd I y { I y with u:=some x }) y { (upd I y { I y with u:=some x }) y with n:=some c }) y with p:=aheadI I x (some c) }) c with p:=some y } (some y) rfl
    obtain ⟨oy4,hy4,v0,v1,v2,v3,v4,v5⟩:=item_at D4 hy ⟨some x,(I y).f,(I y).l,aheadI I x (some c),some c⟩ (by simp [upd,hyc])
    have e3:iAV it (I c).p=iAV it (aheadI I x (some c)):=rfl
    rw [e3] at t4
    simp only at v4
    cases hA:aheadI I x (some c) with
    | none =>
      obtain ⟨o5,o5',g5,h5,q5,w5,s5,D5,F5⟩:=D4.link hx (j:=2) (by omega) { (upd (upd (upd (upd I y { I y with u:=some x }) y { (upd I y { I y with u:=some x }) y with n:=some c }) y { (upd (upd I y { I y with u:=some x }) y { (upd I y { I y with u:=some x }) y with n:=some c }) y with p:=aheadI I x (some c) }) c { (upd (upd (upd I y { I y with u:=some x }) y { (upd I y { I y with u:=some x }) y with n:=some c }) y { (upd (upd I y { I y with u:=some x }) y { (upd I y { I y with u:=some x }) y with n:=some c }) y with p:=aheadI I x (some c) }) c with p:=some y }) x with f:=some y } (some y) rfl
      refine ⟨g5, ?_, ?_,((((F1.trans F2).trans F3).trans F4).trans F5)⟩
      · rw [acall_code T129,run_code rfl rfl]
        rw [hA] at t4 w3 v4
        simp only [iAV] at c1 t4 w2 w3 w4 w5 v4 ⊢
        simp -implicitDefEqProofs (disch:=omega) only [Rx,simprocAttr,F129,ho,r1,un,ox,hoc,c1,w1,s1,h2,w2,s2,hx2,t4,h3,w3,s3,h4,w4,s4,hy4,v4,h5,w5,s5]
      · unfold placeC
        simp only [hA] at D5 ⊢
        exact D5
    | some a =>
      obtain ⟨haL,hay'⟩:=ha a hA
      obtain ⟨o5,o5',g5,h5,q5,w5,s5,D5,F5⟩:=D4.link haL (j:=5) (by omega) { (upd (upd (upd (upd I y { I y with u:=some x }) y { (upd I y { I y with u:=some x }) y with n:=some c }) y { (upd (upd I y { I y with u:=some x }) y { (upd I y { I y with u:=some x }) y with n:=some c }) y with p:=aheadI I x (some c) }) c { (upd (upd (upd I y { I y with u:=some x }) y { (upd I y { I y with u:=some x }) y with n:=some c }) y { (upd (upd I y { I y with u:=some x }) y { (upd I y { I y with u:=some x }) y with n:=some c }) y with p:=aheadI I x (some c) }) c with p:=some y }) a with n:=some y } (some y) rfl
      refine ⟨g5, ?_, ?_,((((F1.trans F2).trans F3).trans F4).trans F5)⟩
      · rw [acall_code T129,run_code rfl rfl]
        rw [hA] at t4 w3 v4
        simp only [iAV] at c1 t4 w2 w3 w4 w5 v4 ⊢
        simp -implicitDefEqProofs (disch:=omega) only [Rx,simprocAttr,F129,ho,r1,un,ox,hoc,c1,w1,s1,h2,w2,s2,hx2,t4,h3,w3,s3,h4,w4,s4,hy4,v4,h5,w5,s5]
      · unfold placeC
        simp only [hA] at D5 ⊢
        exact D5
theorem drop_free (hD:DocAt (liveL S) S.st nx it nd I pd pm g) {x:Nat} (hx:x ∈ liveL S) (hu:(I x).u=none) (n:Nat):acall T (n+1) 163 [IP it x] g=some (.p (.int .i64 16),g):=by
 obtain ⟨o,ho,r0,r1,r2,r3,r4,r5⟩:=item_at hD hx (I x) rfl
 rw [hu] at r1
 simp only [iAV] at r1
 rw [acall_code T163,run_code rfl rfl]
 simp -implicitDefEqProofs (disch:=omega) only [Rx,simprocAttr,F163,ho,r1]
theorem drop_done (hD : DocAt (liveL S) S.st nx it nd I pd pm g) {x u : Nat} (hx : x ∈ liveL S) (hu : (I x).u = some u) (huL : u ∈ liveL S) (hux : u ≠ x) (hp : ∀ k, (I x).p = some k → k ∈ liveL S ∧ k ≠ x) (hn : ∀ k, (I x).n = some k → k ∈ liveL S ∧ k ≠ x) (n : Nat) :
    ∃ g',acall T (n+1) 163 [IP it x] g=some (.p (.int .i64 0),g')∧DocAt (liveL S) S.st nx it nd (dropI I x) pd pm g'∧GFr g (DocOwn (liveL S) it nd pd pm) g' (DocOwn (liveL S) it nd pd pm):=by
  rw [← dropC_eq hu hux (fun e=>(hp x e).2 rfl) (fun e=>(hn x e).2 rfl)]
  have hxu:x≠u:=fun e=>hux e.symm
  obtain ⟨o,ho,r0,r1,r2,r3,r4,r5⟩:=item_at hD hx (I x) rfl
  have cn:=cells_iAV it (I x).n
  have nn:=noLocal_iAV it (I x).n
  have cp:=cells_iAV it (I x).p
  have np:=noLocal_iAV it (I x).p
  rw [hu] at r1
  have key:∀ (J:Nat→LK) (g1:List AObj),DocAt (liveL S) S.st nx it nd J pd pm g1→J x=I x→∃ g2,∃ o1 o2 o3 o1' o2' o3' ga gb,DocAt (liveL S) S.st nx it nd (upd (upd (upd J x { J x with u:=none }) x { (upd J x { J x with u:=none }) x with p:=none }) x { (upd (upd J x { J x with u:=none }) x { (upd J x { J x with u:=none }) x with p:=none }) x with n:=none }) pd pm g2∧GFr g1 (DocOwn (liveL S) it nd pd pm) g2 (DocOwn (liveL S) it nd pd pm) ∧
      g1[it x]? = some o1∧o1.wr 1 0 1 6 [.p .nilp]=some o1'∧g1.set (it x) o1'=ga∧ga[it x]? = some o2∧o2.wr 1 0 4 6 [.p .nilp]=some o2'∧ga.set (it x) o2'=gb∧gb[it x]? = some o3∧o3.wr 1 0 5 6 [.p .nilp]=some o3'∧gb.set (it x) o3'=g2:=by
    intro J g1 D0 _
    obtain ⟨o1,o1',ga,h1,q1,w1,s1,D1,F1⟩:=D0.link hx (j:=1) (by omega) { J x with u:=none } none rfl
    obtain ⟨o2,o2',gb,h2,q2,w2,s2,D2,F2⟩:=D1.link hx (j:=4) (by omega) { (upd J x { J x with u:=none }) x with p:=none } none rfl
    obtain ⟨o3,o3',gc,h3,q3,w3,s3,D3,F3⟩:=D2.link hx (j:=5) (by omega) { (upd (upd J x { J x with u:=none }) x { (upd J x { J x with u:=none }) x with p:=none }) x with n:=none } none rfl
    exact ⟨gc,o1,o2,o3,o1',o2',o3',ga,gb,D3,(F1.trans F2).trans F3,h1,w1,s1,h2,w2,s2,h3,w3,s3⟩
  unfold dropC
  cases hP:(I x).p with
  | none =>
    obtain ⟨oa,oa',g1,h1,q1,w1,s1,D1,F1⟩:=hD.link huL (j:=2) (by omega) { I u with f:=(I x).n } (I x).n rfl
    obtain ⟨ob,hob,t0,t1,t2,t3,t4,t5⟩:=item_at D1 hx (I x) (by simp [upd,hxu])
    rw [hu] at t1
    cases hN:(I x).n with
    | none =>
      obtain ⟨oc,oc',g2,h2,q2,w2,s2,D2,F2⟩:=D1.link huL (j:=3) (by omega) { (upd I u { I u with f:=(I x).n }) u with l:=(I x).p } (I x).p rfl
      obtain ⟨g3,o1,o2,o3,o1',o2',o3',ga,gb,D3,F3,k1,k2,k3,k4,k5,k6,k7,k8,k9⟩:=key _ _ D2 (by simp [upd,hxu])
      refine ⟨g3, ?_, ?_,(F1.trans F2).trans F3⟩
      · rw [acall_code T163,run_code rfl rfl]
        rw [hP] at r4 t4 w2
        rw [hN] at r5 t5 w1
        simp only [iAV] at r1 r4 r5 t1 t4 t5 w1 w2
        simp -implicitDefEqProofs (disch:=omega) only [Rx,simprocAttr,F163,ho,r1,r4,r5,h1,w1,s1,hob,t1,t4,t5,h2,w2,s2,k1,k2,k3,k4,k5,k6,k7,k8,k9]
      · simp only [hP,hN] at D3 ⊢
        exact D3
    | some c =>
      obtain ⟨hcL,hcx⟩:=hn c hN
      have hxc:x≠c:=fun e=>hcx e.symm
      obtain ⟨oc,oc',g2,h2,q2,w2,s2,D2,F2⟩:=D1.link hcL (j:=4) (by omega) { (upd I u { I u with f:=(I x).n }) c with p:=(I x).p } (I x).p rfl
      obtain ⟨g3,o1,o2,o3,o1',o2',o3',ga,gb,D3,F3,k1,k2,k3,k4,k5,k6,k7,k8,k9⟩:=key _ _ D2 (by simp [upd,hxu,hxc])
      refine ⟨g3, ?_, ?_,(F1.trans F2).trans F3⟩
      · rw [acall_code T163,run_code rfl rfl]
        rw [hP] at r4 t4 w2
        rw [hN] at r5 t5 w1
        simp only [iAV] at r1 r4 r5 t1 t4 t5 w1 w2
        simp -implicitDefEqProofs (disch:=omega) only [Rx,simprocAttr,F163,ho,r1,r4,r5,h1,w1,s1,hob,t4,t5,h2,w2,s2,k1,k2,k3,k4,k5,k6,k7,k8,k9]
      · simp only [hP,hN] at D3 ⊢
        exact D3
  | some a =>
    obtain ⟨haL,hax⟩:=hp a hP
    obtain ⟨oa,oa',g1,h1,q1,w1,s1,D1,F1⟩:=hD.link haL (j:=5) (by omega) { I a with n:=(I x).n } (I x).n rfl
    have hxa:x≠a:=fun e=>hax e.symm
    obtain ⟨ob,hob,t0,t1,t2,t3,t4,t5⟩:=item_at D1 hx (I x) (by simp [upd,hxa])
    rw [hu] at t1
    cases hN:(I x).n with
    | none =>
      obtain ⟨oc,oc',g2,h2,q2,w2,s2,D2,F2⟩:=D1.link huL (j:=3) (by omega) { (upd I a { I a with n:=(I x).n }) u with l:=(I x).p } (I x).p rfl
      obtain ⟨g3,o1,o2,o3,o1',o2',o3',ga,gb,D3,F3,k1,k2,k3,k4,k5,k6,k7,k8,k9⟩:=key _ _ D2 (by simp [upd,hxu,hxa])
      refine ⟨g3, ?_, ?_,(F1.trans F2).trans F3⟩
      · rw [acall_code T163,run_code rfl rfl]
        rw [hP] at r4 t4 w2
        rw [hN] at r5 t5 w1
        simp only [iAV] at r1 r4 r5 t1 t4 t5 w1 w2
        simp -implicitDefEqProofs (disch:=omega) only [Rx,simprocAttr,F163,ho,r1,r4,r5,h1,w1,s1,hob,t1,t4,t5,h2,w2,s2,k1,k2,k3,k4,k5,k6,k7,k8,k9]
      · simp only [hP,hN] at D3 ⊢
        exact D3
    | some c =>
      obtain ⟨hcL,hcx⟩:=hn c hN
      have hxc:x≠c:=fun e=>hcx e.symm
      obtain ⟨oc,oc',g2,h2,q2,w2,s2,D2,F2⟩:=D1.link hcL (j:=4) (by omega) { (upd I a { I a with n:=(I x).n }) c with p:=(I x).p } (I x).p rfl
      obtain ⟨g3,o1,o2,o3,o1',o2',o3',ga,gb,D3,F3,k1,k2,k3,k4,k5,k6,k7,k8,k9⟩:=key _ _ D2 (by simp [upd,hxa,hxc])
      refine ⟨g3, ?_, ?_,(F1.trans F2).trans F3⟩
      · rw [acall_code T163,run_code rfl rfl]
        rw [hP] at r4 t4 w2
        rw [hN] at r5 t5 w1
        simp only [iAV] at r1 r4 r5 t1 t4 t5 w1 w2
        simp -implicitDefEqProofs (disch:=omega) only [Rx,simprocAttr,F163,ho,r1,r4,r5,h1,w1,s1,hob,t4,t5,h2,w2,s2,k1,k2,k3,k4,k5,k6,k7,k8,k9]
      · simp only [hP,hN] at D3 ⊢
        exact D3
end
end Go.TA.Tryz


end
section
/- Tags and names: what the program says of them. -/
set_option maxHeartbeats 1000000
namespace Go.TA.Tryz
theorem smallB_inner {more:Bool} {c:UInt8} (h:smallB c=true):innerB more c=true:=by simp [innerB,h]
theorem small_run (c:UInt8) (g:List AObj) (n:Nat):acall T (n+1) 197 [.p (.int .u8 c.toNat)] g=some (.p (.bool (smallB c)),g):=by
 rw [acall_code T197,run_pure rfl rfl rfl]
 by_cases h1:(97:Int)≤c.toNat
 ·by_cases h2:(c.toNat:Int)≤122
  ·simp -implicitDefEqProofs (disch:=omega) only [Rx,simprocAttr,F197,smallB,h1,h2]
  ·simp -implicitDefEqProofs (disch:=omega) only [Rx,simprocAttr,F197,smallB,h1,h2]
 ·simp -implicitDefEqProofs (disch:=omega) only [Rx,simprocAttr,F197,smallB,h1]
theorem getD_get {s:Bs} {i:Nat} {c:UInt8} (h:s[i]? = some c):s.getD i 0=c:=by rw [List.getD_eq_getElem?_getD,h];rfl
def outB (r:Bool):Ex × St:=if r=true then (.exit 0,⟨[],[],[]⟩) else (.ret,⟨[(4,.p (.bool false))],[],[]⟩)
def othersOf (more:Bool):Bs:=if more=true then [45,58,46] else [45]
theorem u8_ne {c:UInt8} {k:UInt8}:((k==c)=true)↔c.toNat=k.toNat:=by
 rw [beq_iff_eq]
 exact ⟨fun h=>by rw [h],fun h=>(UInt8.toNat_inj.1 h).symm⟩
theorem others_at (more:Bool) (c:UInt8) (hn:(smallB c || digitB c)=false):(Lib.indexByte (othersOf more) c<0)=((innerB more c)=false):=by
 have e:innerB more c=(((c.toNat:Int)==45) || (more && (((c.toNat:Int)==58) || ((c.toNat:Int)==46)))):=by
  simp only [Bool.or_eq_false_iff] at hn
  simp [innerB,hn.1,hn.2]
 rw [e]
 have q:∀ k:UInt8,(k==c)=((c.toNat:Int)==(k.toNat:Int)):=fun k=>by
  rw [Bool.eq_iff_iff,u8_ne,beq_iff_eq]
  omega
 cases more
 ·have e0:othersOf false=[45]:=rfl
  have:((45:UInt8).toNat:Int)=45:=rfl
  simp only [e0,Lib.indexByte,q,this]
  cases h:((c.toNat:Int)==45) <;> simp
 ·have e0:othersOf true=[45,58,46]:=rfl
  have e1:((45:UInt8).toNat:Int)=45:=rfl
  have e2:((58:UInt8).toNat:Int)=58:=rfl
  have e3:((46:UInt8).toNat:Int)=46:=rfl
  simp only [e0,Lib.indexByte,q,e1,e2,e3]
  cases h:((c.toNat:Int)==45) <;> cases h':((c.toNat:Int)==58) <;> cases h'':((c.toNat:Int)==46) <;> simp
theorem index_run (s:Bs) (c:UInt8) (g:List AObj) (n:Nat):acall T (n+1) 198 [.p (.str s),.p (.int .u8 c.toNat)] g=some (.p (.int .i64 (Lib.indexByte s c)),g):=by
 rw [acall_prim T198]
 simp [pIndexByte]
theorem named_loop {n N : Nat} (s : Bs) (more : Bool) (hs : s.length ≤ 32) (hN : 32 < N) (i : Nat) (hi : i ≤ s.length) :
    aexec (acall T (n+1)) N (.loop B168x0) ⟨[(0,.p (.str s)),(1,.p (.str (othersOf more))),(21,.p (.int .i64 s.length)),(22,.p (.int .i64 i))],[],[]⟩=some (outB ((s.drop i).all (innerB more))):=by
  refine loop_rule' (σ := Nat) (S:=fun i=>⟨[(0,.p (.str s)),(1,.p (.str (othersOf more))),(21,.p (.int .i64 s.length)),(22,.p (.int .i64 i))],[],[]⟩) (I:=fun i=>i≤s.length) (μ := fun i=>s.length - i)
    (Φ := fun i=>outB ((s.drop i).all (innerB more))) ?_ i hi (by omega)
  intro i hi
  by_cases h:i<s.length
  · obtain ⟨c,hc⟩:=get_some h
    have hg:=getD_get hc
    have k1:(i:Int)<(s.length:Int):=by omega
    rw [drop_cons hc]
    have good:innerB more c=true→aexec (acall T (n+1)) N B168x0 ⟨[(0,.p (.str s)),(1,.p (.str (othersOf more))),(21,.p (.int .i64 s.length)),(22,.p (.int .i64 i))],[],[]⟩=some (.normal,⟨[(0,.p (.str s)),(1,.p (.str (othersOf more))),(21,.p (.int .i64 s.length)),(22,.p (.int .i64 ((i+1:Nat):Int)))],[],[]⟩):=fun hb=>by
      cases hsm:smallB c with
      | true=>simp -implicitDefEqProofs (disch:=omega) only [Rx,simprocAttr,B168x0,k1,hg,small_run,hsm]
      | false =>
        by_cases h48:(c.toNat:Int)<48
        · have hd:(smallB c || digitB c)=false:=by simp [hsm,digitB];omega
          have ho:¬ (Lib.indexByte (othersOf more) c<0):=by rw [others_at more c hd,hb];simp
          simp -implicitDefEqProofs (disch:=omega) only [Rx,simprocAttr,B168x0,k1,hg,small_run,hsm,h48,index_run,ho]
        · by_cases h57:57<(c.toNat:Int)
          · have hd:(smallB c || digitB c)=false:=by simp [hsm,digitB];omega
            have ho:¬ (Lib.indexByte (othersOf more) c<0):=by rw [others_at more c hd,hb];simp
            simp -implicitDefEqProofs (disch:=omega) only [Rx,simprocAttr,B168x0,k1,hg,small_run,hsm,h48,h57,index_run,ho]
          · simp -implicitDefEqProofs (disch:=omega) only [Rx,simprocAttr,B168x0,k1,hg,small_run,hsm,h48,h57]
    cases hb:innerB more c with
    | true=>exact .inl ⟨i+1,good hb,by omega,by omega,by simp [hb]⟩
    | false =>
      refine .inr ⟨?_,by simp [hb,outB]⟩
      have hsm:smallB c=false:=by
        cases h:smallB c
        · rfl
        · rw [smallB_inner h] at hb;cases hb
      have hdg:digitB c=false:=by
        cases h:digitB c
        · rfl
        · simp [innerB,h] at hb
      have hd:(smallB c || digitB c)=false:=by simp [hsm,hdg]
      have ho:Lib.indexByte (othersOf more) c<0:=by rw [others_at more c hd,hb]
      have eF:outB ((c::s.drop (i+1)).all (innerB more))=(.ret,⟨[(4,.p (.bool false))],[],[]⟩):=by simp [outB,hb]
      by_cases h48:(c.toNat:Int)<48
      · rw [eF]
        simp -implicitDefEqProofs (disch:=omega) only [Rx,simprocAttr,B168x0,k1,hg,small_run,hsm,h48,index_run,ho]
      · have h57:57<(c.toNat:Int):=by simp [digitB] at hdg;omega
        rw [eF]
        simp -implicitDefEqProofs (disch:=omega) only [Rx,simprocAttr,B168x0,k1,hg,small_run,hsm,h48,h57,index_run,ho]
  · refine .inr ⟨?_,by rw [List.drop_eq_nil_of_le (by omega)];simp [outB]⟩
    have k1:¬ (i:Int)<(s.length:Int):=by omega
    rw [List.drop_eq_nil_of_le (by omega)]
    simp -implicitDefEqProofs (disch:=omega) only [Rx,simprocAttr,B168x0,k1,outB]
theorem named_run (s : Bs) (more : Bool) (g : List AObj) (n : Nat) : acall T (n + 35) 168 [.p (.str s), .p (.str (othersOf more))] g = some (.p (.bool (namedB more s)), g) := by
  rw [acall_code T168,run_pure rfl rfl rfl]
  cases s with
  | nil=>simp -implicitDefEqProofs (disch:=omega) only [Rx,simprocAttr,F168,namedB]
  | cons c r =>
    have k0:((c::r)==([]:Bs))=false:=rfl
    by_cases h32:(c::r).length≤32
    · have k1:¬ (32<(r.length:Int)+1):=by simp at h32;omega
      have hl:=named_loop (n:=n+33) (N:=n+34) (c::r) more h32 (by omega) 0 (by simp)
      simp only [List.length_cons,Int.natCast_add,Int.natCast_one,Int.natCast_zero] at hl
      cases hsm:smallB c with
      | true =>
        have e:namedB more (c::r)=((c::r).drop 0).all (innerB more):=by
          simp only [namedB,hsm,List.drop_zero,List.all_cons,smallB_inner hsm,Bool.true_and,Bool.and_true]
          simp at h32 ⊢
          omega
        rw [e]
        cases hb:((c::r).drop 0).all (innerB more) with
        | true =>
          have hl':outB (((c::r).drop 0).all (innerB more))=(.exit 0,⟨[],[],[]⟩):=by simp only [outB,hb];rfl
          rw [hl'] at hl
          simp -implicitDefEqProofs (disch:=omega) only [Rx,simprocAttr,F168,k0,k1,small_run,hsm,hl]
        | false =>
          have hl':outB (((c::r).drop 0).all (innerB more))=(.ret,⟨[(4,.p (.bool false))],[],[]⟩):=by simp only [outB,hb];rfl
          rw [hl'] at hl
          simp -implicitDefEqProofs (disch:=omega) only [Rx,simprocAttr,F168,k0,k1,small_run,hsm,hl]
      | false =>
        have e:namedB more (c::r)=false:=by simp [namedB,hsm]
        rw [e]
        simp -implicitDefEqProofs (disch:=omega) only [Rx,simprocAttr,F168,k0,k1,small_run,hsm]
    · have k1:32<(r.length:Int)+1:=by simp at h32;omega
      have e:namedB more (c::r)=false:=by simp [namedB];simp at h32;omega
      rw [e]
      simp -implicitDefEqProofs (disch:=omega) only [Rx,simprocAttr,F168,k0,k1]
theorem tag_run (s:Bs) (g:List AObj) (n:Nat):acall T (n+36) 116 [.p (.str s)] g=some (.p (.bool (namedB false s)),g):=by
 rw [acall_code T116,run_pure rfl rfl rfl]
 have h:=named_run s false [] n
 simp only [othersOf,Bool.false_eq_true,if_false] at h
 simp -implicitDefEqProofs (disch:=omega) only [Rx,simprocAttr,F116,h]
theorem name_run (s:Bs) (g:List AObj) (n:Nat):acall T (n+36) 117 [.p (.str s)] g=some (.p (.bool (namedB true s)),g):=by
 rw [acall_code T117,run_pure rfl rfl rfl]
 have h:=named_run s true [] n
 simp only [othersOf,if_true] at h
 simp -implicitDefEqProofs (disch:=omega) only [Rx,simprocAttr,F117,h]
theorem fits_run (s:Bs) (g:List AObj) (n:Nat):acall T (n+1) 118 [.p (.str s)] g=some (.p (.bool (decide ((s.length:Int)≤65536))),g):=by
 rw [acall_code T118,run_pure rfl rfl rfl]
 simp -implicitDefEqProofs (disch:=omega) only [Rx,simprocAttr,F118]
end Go.TA.Tryz


end
section
/- What is wrong with attributes: the program. -/
namespace Go.TA.Tryz
theorem ap_loop {n N : Nat} (l : List Attr) (hN : l.length < N) :
    aexec (acall T (n+36)) N (.loop B119x0) ⟨[(0,.p (.list (l.map Attr.pv))),(7,.p (.list (l.map Attr.pv))),(8,.p (.int .i64 l.length)),(9,.p (.int .i64 ((0:Nat):Int)))],[],[]⟩=some (chkOut (attrsChk [] 0 l)):=by
  refine loop_rule' (C:=acall T (n+36)) (N:=N) (B:=B119x0) (σ := Nat) (S:=fun i=>⟨[(0,.p (.list (l.map Attr.pv))),(7,.p (.list (l.map Attr.pv))),(8,.p (.int .i64 l.length)),(9,.p (.int .i64 i))],[],[]⟩) (I:=fun i=>i≤l.length∧i≤64) (μ := fun i=>l.length - i)
    (Φ := fun i=>chkOut (attrsChk (prevOf l i) i (l.drop i))) ?_ 0 ⟨by omega,by omega⟩ (by omega)
  rintro i ⟨hi,hi64⟩
  by_cases h:i<l.length
  · have k1 : (i : Int) < (l.length : Int) := by omega
    obtain ⟨a,ha⟩:=get_some h
    have ga:=getD_map (f:=Attr.pv) ha
    rw [chk_step ha]
    have bad:∀ e:Int,attrErr (prevOf l i) i a=e→e≠0→aexec (acall T (n+36)) N B119x0 ⟨[(0,.p (.list (l.map Attr.pv))),(7,.p (.list (l.map Attr.pv))),(8,.p (.int .i64 l.length)),(9,.p (.int .i64 i))],[],[]⟩=some (.ret,⟨[(2,.p (.int .i64 i)),(3,.p (.int .i64 e))],[],[]⟩) →
        (∃ s',aexec (acall T (n+36)) N B119x0 ⟨[(0,.p (.list (l.map Attr.pv))),(7,.p (.list (l.map Attr.pv))),(8,.p (.int .i64 l.length)),(9,.p (.int .i64 i))],[],[]⟩=some (.normal,(fun (i:Nat)=>(⟨[(0,.p (.list (l.map Attr.pv))),(7,.p (.list (l.map Attr.pv))),(8,.p (.int .i64 l.length)),(9,.p (.int .i64 i))],[],[]⟩:St)) s')∧(s'≤l.length∧s'≤64)∧l.length - s'<l.length - i∧chkOut (if attrErr (prevOf l i) i a=0 then attrsChk (prevOf l (i+1)) (i+1) (l.drop (i+1)) else ((i:Int),attrErr (prevOf l i) i a))=chkOut (attrsChk (prevOf l s') s' (l.drop s'))) ∨
        (aexec (acall T (n+36)) N B119x0 ⟨[(0,.p (.list (l.map Attr.pv))),(7,.p (.list (l.map Attr.pv))),(8,.p (.int .i64 l.length)),(9,.p (.int .i64 i))],[],[]⟩=some (chkOut (if attrErr (prevOf l i) i a=0 then attrsChk (prevOf l (i+1)) (i+1) (l.drop (i+1)) else ((i:Int),attrErr (prevOf l i) i a)))∧(chkOut (if attrErr (prevOf l i) i a=0 then attrsChk (prevOf l (i+1)) (i+1) (l.drop (i+1)) else ((i:Int),attrErr (prevOf l i) i a))).1 ≠ .normal):=fun e he h0 hr=>by
      refine .inr ?_
      rw [he,if_neg h0]
      simp only [chkOut,h0,if_false]
      exact ⟨hr,by simp⟩
    by_cases h64:i=64
    · refine bad 12 (by simp [attrErr,h64]) (by decide) ?_
      have k2:((i:Int)==64)=true:=by simp;omega
      simp -implicitDefEqProofs (disch:=omega) only [Rx,simprocAttr,B119x0,k1,k2,ga,Attr.pv]
    have k2:((i:Int)==64)=false:=by simp;omega
    cases hnm:namedB true a.name with
    | false =>
      refine bad 8 (by simp [attrErr,h64,hnm]) (by decide) ?_
      simp -implicitDefEqProofs (disch:=omega) only [Rx,simprocAttr,B119x0,k1,k2,ga,Attr.pv,name_run,hnm]
    | true=>
    by_cases hlong:(a.value.length:Int)≤65536
    rotate_left
    · refine bad 3 (by simp [attrErr,h64,hnm];omega) (by decide) ?_
      simp -implicitDefEqProofs (disch:=omega) only [Rx,simprocAttr,B119x0,k1,k2,ga,Attr.pv,name_run,hnm,fits_run,hlong]
    have hlong':¬ (65536<(a.value.length:Int)):=by omega
    cases i with
    | zero =>
      have e:attrErr (prevOf l 0) 0 a=0:=by simp [attrErr,hnm,hlong',prevOf]
      rw [e,if_pos rfl]
      refine .inl ⟨1, ?_,⟨by omega,by omega⟩,by omega,rfl⟩
      simp only [Int.natCast_zero,Int.natCast_one] at k1 k2 ⊢
      have k3:(0:Int)<(l.length:Int):=k1
      have ga0:(l.map Attr.pv).getD 0 []=Attr.pv a:=ga
      have e0:Int.toNat 0=0:=rfl
      simp -implicitDefEqProofs (disch:=omega) only [Rx,simprocAttr,B119x0,k3,ga0,e0,Attr.pv,name_run,hnm,fits_run,hlong]
    | succ j =>
      obtain ⟨b,hb⟩:=get_some (show j<l.length by omega)
      have gb:=getD_map (f:=Attr.pv) hb
      have ep:prevOf l (j+1)=[b]:=by simp [prevOf,hb]
      have k3:(0:Int)<(j:Int)+1:=by omega
      have k4:(j:Int)<(l.length:Int):=by omega
      simp only [Int.natCast_add,Int.natCast_one] at k1 k2
      have k5:((j:Int)+1).toNat=j+1:=by omega
      by_cases heq:b.name=a.name
      · refine bad 10 (by simp [attrErr,h64,hnm,hlong',ep,heq]) (by decide) ?_
        have heq':(b.name==a.name)=true:=by simpa using heq
        simp -implicitDefEqProofs (disch:=omega) only [Rx,simprocAttr,B119x0,k1,k2,k3,k4,k5,ga,gb,Attr.pv,name_run,hnm,fits_run,hlong,heq']
      · have heq':(b.name==a.name)=false:=by simpa using heq
        have hcmp:=cmpB_less heq
        by_cases hgt:0<cmpB b.name a.name
        · refine bad 9 (by simp [attrErr,h64,hnm,hlong',ep,heq,hgt]) (by decide) ?_
          have hl:strLess b.name a.name=false:=by have:=hcmp.1 hgt;rw [heq',Bool.or_false] at this;exact this
          simp -implicitDefEqProofs (disch:=omega) only [Rx,simprocAttr,B119x0,k1,k2,k3,k4,k5,ga,gb,Attr.pv,name_run,hnm,fits_run,hlong,heq',binS,hl]
        · have e:attrErr (prevOf l (j+1)) (j+1) a=0:=by simp [attrErr,h64,hnm,hlong',ep,heq,hgt]
          have hl:strLess b.name a.name=true:=by
            cases h:strLess b.name a.name
            · exact absurd (hcmp.2 (by rw [h,heq'];rfl)) hgt
            · rfl
          rw [e,if_pos rfl]
          refine .inl ⟨j+1+1, ?_,⟨by omega,by omega⟩,by omega,rfl⟩
          simp -implicitDefEqProofs (disch:=omega) only [Rx,simprocAttr,B119x0,k1,k2,k3,k4,k5,ga,gb,Attr.pv,name_run,hnm,fits_run,hlong,heq',binS,hl]
  · have k1:¬ (i:Int)<(l.length:Int):=by omega
    have e:l.drop i=[]:=List.drop_eq_nil_of_le (by omega)
    refine .inr ⟨?_,by rw [e];simp [attrsChk,chkOut]⟩
    rw [e]
    simp -implicitDefEqProofs (disch:=omega) only [Rx,simprocAttr,B119x0,k1,attrsChk,chkOut]
theorem ap_run (l : List Attr) (g : List AObj) {n : Nat} (hl : l.length < n + 36) : acall T (n + 37) 119 [.p (.list (l.map Attr.pv))] g = some (.tuple [.p (.int .i64 (attrsChk [] 0 l).1), .p (.int .i64 (attrsErr l))], g) := by
  rw [acall_code T119,run_pure rfl rfl rfl]
  have hloop:=ap_loop (n:=n) (N:=n+36) l hl
  simp only [Int.natCast_zero] at hloop
  unfold attrsErr
  have h1:(attrsChk [] 0 l).2=0→(attrsChk [] 0 l).1=0:=by
    have key:∀ (p:List Attr) (i:Nat) (l:List Attr),(attrsChk p i l).2=0→(attrsChk p i l).1=0:=by
      intro p i l
      induction l generalizing p i with
      | nil=>simp [attrsChk]
      | cons a l ih =>
        simp only [attrsChk]
        split
        · exact ih _ _
        · rename_i h;intro h';exact absurd h' h
    exact key [] 0 l
  generalize attrsChk [] 0 l=r at hloop h1
  obtain ⟨x,e⟩:=r
  simp only [chkOut] at hloop h1 ⊢
  by_cases h:e=0
  · rw [if_pos h] at hloop
    rw [h1 h,h]
    simp -implicitDefEqProofs (disch:=omega) only [Rx,simprocAttr,F119,hloop]
  · rw [if_neg h] at hloop
    simp -implicitDefEqProofs (disch:=omega) only [Rx,simprocAttr,F119,hloop]
end Go.TA.Tryz


end
section
/- A row of attributes is cloned. -/
namespace Go.TA.Tryz
theorem attrs_two (l:List Attr):((l.map Attr.pv).all fun x=>x.length==2)=true:=by simp [List.all_eq_true,Attr.pv]
theorem attrs_same:∀ (l:List Attr),PV.sameLL (l.map Attr.pv) (l.map Attr.pv)=true
 | []=>rfl
 | a::l=>by simp [PV.sameLL,PV.sameL,PV.same,Attr.pv,attrs_same l]
theorem cloneA_run (l:List Attr) (h:l.length≤1048577) (g:List AObj) (n:Nat):acall T (n+1) 56 [.p (.list (l.map Attr.pv))] g=some (.own true g.length l.length,g++[.pcells 2 (l.map Attr.pv)]):=by
 rw [acall_prim T56]
 have h2:=attrs_two l
 have h3:l.length*4096≤140737488355328:=by omega
 simp only [pCloneT,thaw,bk_some,pClone,h2,List.length_map,h3,and_self,if_true]
end Go.TA.Tryz


end
