/- Part 10 of 15 of a proof; joined from InsAttr, VkpTab, VkpNames, VkpRef13, VkpFormed, VkpCloneA, VkpAttrsP, VkpNames02, VkpCmp, VkpAttrs09, VkpAlone, VkpTree, VkpOpsUsed, VkpOpsNone3, VkpOpsNone5, VkpOpsNone7, VkpOpsNone. Does an operation have a field that its kind does not use? The document's answer. -/
import Derived.Test.YtbgbmdjfogohnaaGreatDoorVk7
import Derived.Test.YtbgbmdjfogohnaaGreatDoorProg
import Derived.Shelf.Spec.SlicesInsert
import Derived.Shelf.Spec.SlicesInsertGrow
import Derived.Test.YtbgbmdjfogohnaaGreatDoorVk8
import Derived.Test.YtbgbmdjfogohnaaGreatDoorVk9
import Derived.Test.YtbgbmdjfogohnaaGreatDoorVk6
import Derived.KernelRfl
import Derived.Test.YtbgbmdjfogohnaaGreatDoorShelfSort
import Derived.Test.YtbgbmdjfogohnaaGreatDoorShelfItoa
import Derived.Test.YtbgbmdjfogohnaaGreatDoorShelfinternalstringsliteIndexByte
import Derived.Test.YtbgbmdjfogohnaaGreatDoorShelfstringsIndexByte
import Derived.Test.YtbgbmdjfogohnaaGreatDoorVk1
set_option linter.unusedSimpArgs false
set_option linter.unusedVariables false
set_option linter.defProp false
set_option maxRecDepth 100000
set_option maxHeartbeats 8000000
section
/- slices.Insert at api.Attr: its roads, and what it is. -/
namespace Go.TA.Tryz
open Go.Shelf Go.RowKit Go.Lib Go.Proofs
def zeroA:Value:=.agg #[.string ⟨#[]⟩,.string ⟨#[]⟩]
set_option maxHeartbeats 4000000 in
set_option maxRecDepth 100000 in
theorem ins_shiftA (b n c i vb voff m vc : Nat) (cs vs : List Value) (w : World) (hi : i < n) (hm : 0 < m) (hroom : n + m ≤ c) (hc63 : c ≤ 9223372036854775807) (hvb : vb ≠ b)
    (hcl:cs.length=n*2) (hvl:vs.length=m*2)
    (hcs:∀ j v,cs[j]? = some v→w.cell? ⟨b,j,none⟩=some v) (hsp:∀ j,j<(n+m)*2→(w.cell? ⟨b,j,none⟩).isSome=true) (hfz:∀ j,j<(n+m)*2→w.frozen? ⟨b,j,none⟩=false)
    (hvs:∀ j v,vs[j]? = some v→w.cell? ⟨vb,voff+j,none⟩=some v) (h1c:∀ v ∈ cs,v.oneCell'=true) (h1v:∀ v ∈ vs,v.oneCell'=true)
    (tA tB:TypeId) (kA kB:Nat) (hsa:w.shape? vb=some (tA,kA)) (hsb:w.shape? b=some (tB,kB)) (hkA:kA≠0) (hfb:∀ j,w.frozen? ⟨b,j,none⟩=false) :
    Calls Go.Proofs.Tryz.prog 172 #[.slice (some ⟨b,0,none⟩) n c,.int .i64 i,.slice (some ⟨vb,voff,none⟩) m vc] w fun e w'=>
      e = .returned (.slice (some ⟨b,0,none⟩) (n+m) c)∧w'=(w.drew.setCells b ((i+m)*2) (cs.drop (i*2))).setCells b (i*2) vs:=by
  have mixed:Go.Proofs.Tryz.prog.follows .mixedOrders=true:=by kernel_rfl
  have hz1:¬ ((m:Int)=0):=by omega
  have hz2:¬ ((i:Int)=(n:Int)):=by omega
  have hov:∀ lb cb,(callFunc 201 #[.slice (some ⟨vb,voff,none⟩) m vc,.slice (some ⟨b,(i+m)*2,none⟩) lb cb]).run Go.Proofs.Tryz.prog w = .ok (.value (.bool false)) w:=fun lb cb=>by
    rw [run_callFunc_extern Tryz.func201 (by kernel_rfl) (by kernel_rfl) (by kernel_rfl) (e:=Extern.SlicesOverlaps.overlaps #[34,34] #[4]) (by kernel_rfl),
      run_overlaps_own w 34 4 82 Tryz.underlying34 2 (fun w=>by kernel_rfl) ⟨vb,voff,none⟩ ⟨b,(i+m)*2,none⟩ m vc lb cb hvb tA tB kA kB hsa hsb hkA (hfb _) (hfb _)]
    rfl
  have hsz:(Go.Proofs.Tryz.prog.info? 82).map (·.size)=some 2:=by kernel_rfl
  have hw1:IntKind.i64.wrap ((i:Int)+(m:Int))=(i:Int)+(m:Int):=by rw [IntKind.wrap_i64];omega
  have hb1:(0:Int)≤(i:Int)+(m:Int):=by omega
  have hin:i≤n:=by omega
  have htn:((i:Int)+(m:Int)).toNat=i+m:=by omega
  have hb2:¬ (c=i+m):=by omega
  have hb3:(i:Int)≤(n:Int)+(m:Int):=by omega
  have hb4:¬ (c=i):=by omega
  have hdl:(cs.drop (i*2)).length=(n - i)*2:=by rw [List.length_drop];omega
  have hcp1:∀ ty dc sc,(Builtin.copy_ #[34,34] ty #[.slice (some ⟨b,(i+m)*2,none⟩) (n+m - (i+m)) dc,.slice (some ⟨b,i*2,none⟩) (n+m - i) sc]).run Go.Proofs.Tryz.prog w.drew = .ok (goInt (Nat.min (n+m - i) (n+m - (i+m)))) (w.drew.setCells b ((i+m)*2) (cs.drop (i*2))):=fun ty dc sc=>
    run_copy_k w.drew _ _ ty 82 2 b ((i+m)*2) (n+m - (i+m)) dc ⟨b,i*2,none⟩ (n+m - i) sc (cs.drop (i*2)) Tryz.underlying34 hsz (by rw [hdl];simp only [Nat.min_def];split <;> omega)
      (fun j v hj=>by rw [Addr.add_lit];exact hcs (i*2+j) v (by rwa [List.getElem?_drop] at hj))
      (fun j hj=>hsp _ (by omega)) (fun j hj=>hfz _ (by omega)) (fun v hv=>h1c v (List.mem_of_mem_drop hv))
  obtain ⟨W1,hW1⟩:∃ W1,W1=w.drew.setCells b ((i+m)*2) (cs.drop (i*2)):=⟨_,rfl⟩
  have hsp1:∀ k,k<(n+m)*2→(W1.cell? ⟨b,k,none⟩).isSome=true:=fun k hk=>by
    rw [hW1]
    exact isSome_setCells b (cs.drop (i*2)) ((i+m)*2) w.drew (fun j hj=>hsp ((i+m)*2+j) (by rw [hdl] at hj;omega)) k (hsp k hk)
  have hcp2:∀ (W:World),(∀ x,W.cell? x=W1.cell? x)→(∀ x,W.frozen? x=W1.frozen? x)→∀ ty dc,(Builtin.copy_ #[34,34] ty #[.slice (some ⟨b,i*2,none⟩) (n+m - i) dc,.slice (some ⟨vb,voff,none⟩) m vc]).run Go.Proofs.Tryz.prog W = .ok (goInt (Nat.min m (n+m - i))) (W.setCells b (i*2) vs):=fun W hWc hWf ty dc=>
    run_copy_k W _ _ ty 82 2 b (i*2) (n+m - i) dc ⟨vb,voff,none⟩ m vc vs Tryz.underlying34 hsz (by rw [hvl];simp only [Nat.min_def];split <;> omega)
      (fun j v hj=>by
        rw [Addr.add_lit,hWc,hW1,World.cell?_setCells_out b _ _ _ _ (fun h _=>absurd h hvb)]
        exact hvs j v hj)
      (fun j hj=>by rw [hWc];exact hsp1 _ (by omega)) (fun j hj=>by rw [hWf,hW1,World.frozen?_setCells];exact hfz _ (by omega)) h1v
  rw [← hW1] at hcp1
  go_enter Tryz.func172,Tryz.ntmps172
  go_wp2_with (simp only [hov])
  go_region_law_o (refine step_copy_runI rfl _ _ 34 34 rfl _ _ (by simp [Act.eval,Act.put]) (by simp [Act.eval,Act.put]) (hcp1 _ _ _) ?_)
  go_wp2_with (at_builtin;refine wpList_copy_runI _ rfl _ _ 34 34 rfl _ _ rfl rfl (hcp2 _ (fun _=>rfl) (fun _=>rfl) _ _) ?_)
  go_ret
  first | exact ⟨rfl,rfl⟩ | exact ⟨rfl,by rw [hW1]⟩
set_option maxHeartbeats 4000000 in
set_option maxRecDepth 100000 in
theorem ins_end_roomA (b n c vb voff m vc:Nat) (vs:List Value) (w:World) (hm:0<m) (hroom:n+m≤c) (hc63:c≤9223372036854775807) (hvl:vs.length=m*2)
  (hsp:∀ j,j<m*2→(w.cell? ⟨b,n*2+j,none⟩).isSome=true) (hfz:∀ j,j<m*2→w.frozen? ⟨b,n*2+j,none⟩=false)
  (hvs:∀ j v,vs[j]? = some v→w.cell? ⟨vb,voff+j,none⟩=some v) (h1v:∀ v ∈ vs,v.oneCell'=true) :
  Calls Go.Proofs.Tryz.prog 172 #[.slice (some ⟨b,0,none⟩) n c,.int .i64 n,.slice (some ⟨vb,voff,none⟩) m vc] w fun e w'=>
   e = .returned (.slice (some ⟨b,0,none⟩) (n+m) c)∧w'=w.setCells b (n*2) vs:=by
 have mixed:Go.Proofs.Tryz.prog.follows .mixedOrders=true:=by kernel_rfl
 have hz1:¬ ((m:Int)=0):=by omega
 obtain ⟨i0,hi0,hs0⟩:∃ i,Go.Proofs.Tryz.prog.info? 82=some i∧i.size=2:=⟨_,rfl,rfl⟩
 have hsrc:Src Go.Proofs.Tryz.prog i0.size 34 (.slice (some ⟨vb,voff,none⟩) m vc) m vs w:=Src.ofSlice w Tryz.underlying34 ⟨vb,voff,none⟩ m vc vs (by rw [hs0];omega) (fun j u hj=>by rw [Addr.add_lit];exact hvs j u hj) h1v
 go_enter Tryz.func172,Tryz.ntmps172
 go_wp2_with (at_builtin;refine wpList_append_room_src _ rfl _ _ 34 34 rfl 82 i0 Tryz.underlying34 hi0 b 0 n c rfl _ rfl m vs hsrc hroom (by rw [hs0,Nat.zero_add,hvl];first | exact hsp | simpa using hsp) (by rw [hs0,Nat.zero_add,hvl];first | exact hfz | simpa using hfz) ?_)
 go_ret
 first | exact ⟨rfl,rfl⟩ | exact ⟨rfl,by rw [hs0,Nat.zero_add]⟩ | exact ⟨rfl,by rw [hs0,Nat.zero_add,Nat.mul_one]⟩
set_option maxHeartbeats 4000000 in
set_option maxRecDepth 100000 in
theorem ins_end_growA (base:Option Addr) (n c vb voff m vc:Nat) (cs vs:List Value) (w:World) (hm:0<m) (hnc:n≤c) (hroom:c<n+m) (hbig:(n+m)*32≤140737488355328)
    (hcl:cs.length=n*2) (hvl:vs.length=m*2) (hnil:base=none→n=0)
    (hcs:∀ a,base=some a→∀ j v,cs[j]? = some v→w.cell? (a.add j)=some v)
    (hvs:∀ j v,vs[j]? = some v→w.cell? ⟨vb,voff+j,none⟩=some v) (h1v:∀ v ∈ vs,v.oneCell'=true) :
    Calls Go.Proofs.Tryz.prog 172 #[.slice base n c,.int .i64 n,.slice (some ⟨vb,voff,none⟩) m vc] w fun e w'=>
      e = .returned (.slice (some ⟨w.heap.size,0,none⟩) (n+m) (grownCap w (n+m) c 82)) ∧
      w'=w.drew.alloc (.cells ((cs++vs).toArray++Builtin.zeroCells zeroA.cells (grownCap w (n+m) c 82 - (n+m))) 82):=by
  have mixed:Go.Proofs.Tryz.prog.follows .mixedOrders=true:=by kernel_rfl
  have hz1:¬ ((m:Int)=0):=by omega
  obtain ⟨i0,hi0,hs0,hz0,hb0⟩:∃ i,Go.Proofs.Tryz.prog.info? 82=some i∧i.size=2∧i.zero=some zeroA∧i.bytes=32:=⟨_,rfl,rfl,rfl,rfl⟩
  have hsrc:Src Go.Proofs.Tryz.prog i0.size 34 (.slice (some ⟨vb,voff,none⟩) m vc) m vs w:=Src.ofSlice w Tryz.underlying34 ⟨vb,voff,none⟩ m vc vs (by rw [hs0];omega) (fun j u hj=>by rw [Addr.add_lit];exact hvs j u hj) h1v
  have hold:(Builtin.firstCells i0.size n (.slice base n c)).run Go.Proofs.Tryz.prog w.drew = .ok cs.toArray w.drew:=by
    rw [hs0]
    cases base with
    | none =>
      have h0:=hnil rfl
      subst h0
      have hc0:cs=[]:=List.length_eq_zero_iff.1 (by simpa using hcl)
      rw [hc0]
      exact run_firstCells_none w.drew 2 0 0 c
    | some a=>exact run_firstCells_some w.drew 2 n a n c cs (by omega) (fun j v hj=>hcs a rfl j v hj)
  have hrun:∀ ty,(Builtin.append_ #[34,34] ty #[.slice base n c,.slice (some ⟨vb,voff,none⟩) m vc]).run Go.Proofs.Tryz.prog w=_:=fun ty=>
    run_append_grow_src w 34 34 ty 82 i0 zeroA Tryz.underlying34 hi0 hz0 base n c cs hold _ m vs hsrc hroom (by omega) (by rw [hb0];exact growslice_fits hroom hbig)
  go_enter Tryz.func172,Tryz.ntmps172
  cases base with
  | none =>
    have h0:=hnil rfl
    subst h0
    go_wp2_with (at_builtin;refine Lib.wpList_append_run _ rfl _ _ _ _ rfl _ _ rfl rfl _ _ (hrun _) ?_)
    go_ret
    exact ⟨rfl,rfl⟩
  | some a =>
    obtain ⟨ab,ao,asp⟩:=a
    go_wp2_with (at_builtin;refine Lib.wpList_append_run _ rfl _ _ _ _ rfl _ _ rfl rfl _ _ (hrun _) ?_)
    all_goals (go_ret;exact ⟨rfl,rfl⟩)
set_option maxHeartbeats 4000000 in
set_option maxRecDepth 100000 in
theorem ins_growA (b n c i vb voff m vc : Nat) (cs vs : List Value) (w : World) (hi : i < n) (hm : 0 < m) (hnc : n ≤ c) (hroom : c < n + m) (hbig : (n + m) * 32 ≤ 140737488355328)
    (hcl:cs.length=n*2) (hvl:vs.length=m*2)
    (hcs:∀ j v,cs[j]? = some v→w.cell? ⟨b,j,none⟩=some v)
    (hvs:∀ j v,vs[j]? = some v→w.cell? ⟨vb,voff+j,none⟩=some v) (h1c:∀ v ∈ cs,v.oneCell'=true) (h1v:∀ v ∈ vs,v.oneCell'=true) :
    Calls Go.Proofs.Tryz.prog 172 #[.slice (some ⟨b,0,none⟩) n c,.int .i64 i,.slice (some ⟨vb,voff,none⟩) m vc] w fun e w'=>
      e = .returned (.slice (some ⟨w.heap.size,0,none⟩) (n+m) (grownCap w (n+m) c 82)) ∧
      w'=(((w.alloc (.cells ((cs.take (i*2)).toArray++Builtin.zeroCells zeroA.cells (n+m - i)++Builtin.zeroCells zeroA.cells (grownCap w (n+m) c 82 - (n+m))) 82)).drew.setCells w.heap.size (i*2) vs).drew).setCells w.heap.size ((i+m)*2) (cs.drop (i*2)):=by
  have mixed:Go.Proofs.Tryz.prog.follows .mixedOrders=true:=by kernel_rfl
  obtain ⟨i0,hi0,hzs,hz0,hzb⟩:∃ i,Go.Proofs.Tryz.prog.info? 82=some i∧i.size=2∧i.zero=some zeroA∧i.bytes=32:=⟨_,rfl,rfl,rfl,rfl⟩
  have hz1:¬ ((m:Int)=0):=by omega
  have hz2:¬ ((i:Int)=(n:Int)):=by omega
  have hz3:(c:Int)<(n:Int)+(m:Int):=by omega
  have hsz:(Go.Proofs.Tryz.prog.info? 82).map (·.size)=some 2:=by kernel_rfl
  have hbw:b<w.heap.size:=block_lt_of_cell (hcs 0 _ (List.getElem?_eq_getElem (by omega)))
  have hvw:vb<w.heap.size:=block_lt_of_cell (hvs 0 _ (List.getElem?_eq_getElem (by omega)))
  have hkk:(n:Int)+(m:Int) - (i:Int)=((n+m - i:Nat):Int):=by omega
  have hik:i+(n+m - i)=n+m:=by omega
  have hold:(Builtin.firstCells i0.size i (.slice (some ⟨b,0,none⟩) i c)).run Go.Proofs.Tryz.prog w.drew = .ok (cs.take (i*2)).toArray w.drew:=by
    rw [hzs]
    exact run_firstCells_some w.drew 2 i ⟨b,0,none⟩ i c (cs.take (i*2)) (by rw [List.length_take];omega) (fun j v hj=>by
      rw [Addr.add_lit,Nat.zero_add]
      rw [List.getElem?_take] at hj
      split at hj
      · exact hcs j v hj
      · cases hj)
  have hrz:∀ ty,(Builtin.append_ #[34,3] ty #[.slice (some ⟨b,0,none⟩) i c,.int .i64 ((n:Int)+(m:Int) - (i:Int))]).run Go.Proofs.Tryz.prog w =
      .ok (.slice (some ⟨w.heap.size,0,none⟩) (n+m) (grownCap w (n+m) c 82)) (w.drew.alloc (.cells ((cs.take (i*2)).toArray++Builtin.zeroCells zeroA.cells (n+m - i)++Builtin.zeroCells zeroA.cells (grownCap w (n+m) c 82 - (n+m))) 82)):=fun ty=>by
    have h:=Lib.run_append_grow_zeros w 34 3 ty 82 i0 zeroA .i64 .i64 Tryz.underlying34 Tryz.underlying3 hi0 hz0 (some ⟨b,0,none⟩) i c (cs.take (i*2)) hold (n+m - i) (by omega) (by omega) (by omega) (by omega) (by rw [hzb];omega) (by rw [hzb,hik];exact growslice_fits hroom hbig)
    rw [hik] at h
    rw [hkk]
    exact h
  obtain ⟨G,hG⟩:∃ G,G=grownCap w (n+m) c 82:=⟨_,rfl⟩
  obtain ⟨ROW,hROW⟩:∃ ROW:Array Value,ROW=(cs.take (i*2)).toArray++Builtin.zeroCells zeroA.cells (n+m - i)++Builtin.zeroCells zeroA.cells (G - (n+m)):=⟨_,rfl⟩
  rw [← hG] at hrz ⊢
  rw [← hROW] at hrz ⊢
  have hRl:(n+m)*2≤ROW.size:=by
    rw [hROW]
    simp [Builtin.zeroCells,Value.cells,zeroA]
    omega
  obtain ⟨W1,hW1⟩:∃ W1,W1=w.drew.alloc (.cells ROW 82):=⟨_,rfl⟩
  rw [← hW1] at hrz
  have hN:∀ j,j<(n+m)*2→(W1.cell? ⟨w.heap.size,j,none⟩).isSome=true:=fun j hj=>by
    rw [hW1,World.cell?_alloc_at (w:=w.drew) ROW _ w.heap.size j rfl,Array.getElem?_eq_getElem (by omega)];rfl
  have hNf:∀ j,W1.frozen? ⟨w.heap.size,j,none⟩=false:=fun j=>by rw [hW1];exact World.frozen?_alloc_at (w:=w.drew) ROW _ w.heap.size j rfl
  have hOb:∀ j v,w.cell? ⟨b,j,none⟩=some v→W1.cell? ⟨b,j,none⟩=some v:=fun j v h=>by rw [hW1,World.cell?_alloc_past (w:=w.drew) _ b j hbw];exact h
  have hOv:∀ j v,w.cell? ⟨vb,voff+j,none⟩=some v→W1.cell? ⟨vb,voff+j,none⟩=some v:=fun j v h=>by rw [hW1,World.cell?_alloc_past (w:=w.drew) _ vb (voff+j) hvw];exact h
  have hcpA:∀ (W:World),(∀ x,W.cell? x=W1.cell? x)→(∀ x,W.frozen? x=W1.frozen? x)→∀ ty dc,(Builtin.copy_ #[34,34] ty #[.slice (some ⟨w.heap.size,i*2,none⟩) (n+m - i) dc,.slice (some ⟨vb,voff,none⟩) m vc]).run Go.Proofs.Tryz.prog W = .ok (goInt (Nat.min m (n+m - i))) (W.setCells w.heap.size (i*2) vs):=fun W hWc hWf ty dc=>
    run_copy_k W _ _ ty 82 2 w.heap.size (i*2) (n+m - i) dc ⟨vb,voff,none⟩ m vc vs Tryz.underlying34 hsz (by rw [hvl];simp only [Nat.min_def];split <;> omega)
      (fun j v hj=>by rw [Addr.add_lit,hWc];exact hOv _ v (hvs j v hj))
      (fun j hj=>by rw [hWc];exact hN _ (by omega)) (fun j hj=>by rw [hWf];exact hNf _) h1v
  have hGn:n+m≤G:=by rw [hG];exact grownCap_ge w _ _ _
  have hG63:G≤9223372036854775807:=by
    have:=grownCap_le_maxLen w (n+m) c 82 (by unfold maxLen;omega)
    rw [← hG] at this
    unfold maxLen at this
    omega
  have hGi:¬ (G=i):=by omega
  have hGim:¬ (G=i+m):=by omega
  have hci:¬ (c=i):=by omega
  have hbN:b≠w.heap.size:=by omega
  have hdl:(cs.drop (i*2)).length=(n - i)*2:=by rw [List.length_drop];omega
  have hcpB:∀ (W:World),(∀ x,W.cell? x=(W1.setCells w.heap.size (i*2) vs).cell? x)→(∀ x,W.frozen? x=(W1.setCells w.heap.size (i*2) vs).frozen? x)→∀ ty dc sc,(Builtin.copy_ #[34,34] ty #[.slice (some ⟨w.heap.size,(i+m)*2,none⟩) (n+m - (i+m)) dc,.slice (some ⟨b,i*2,none⟩) (n - i) sc]).run Go.Proofs.Tryz.prog W = .ok (goInt (Nat.min (n - i) (n+m - (i+m)))) (W.setCells w.heap.size ((i+m)*2) (cs.drop (i*2))):=fun W hWc hWf ty dc sc=>
    run_copy_k W _ _ ty 82 2 w.heap.size ((i+m)*2) (n+m - (i+m)) dc ⟨b,i*2,none⟩ (n - i) sc (cs.drop (i*2)) Tryz.underlying34 hsz (by rw [hdl];simp only [Nat.min_def];split <;> omega)
      (fun j v hj=>by
        rw [Addr.add_lit,hWc,World.cell?_setCells_out _ _ _ _ _ (fun h _=>absurd h hbN)]
        exact hOb _ v (hcs (i*2+j) v (by rwa [List.getElem?_drop] at hj)))
      (fun j hj=>by rw [hWc];exact isSome_setCells _ vs (i*2) W1 (fun t ht=>hN _ (by omega)) _ (hN _ (by omega)))
      (fun j hj=>by rw [hWf,World.frozen?_setCells];exact hNf _) (fun v hv=>h1c v (List.mem_of_mem_drop hv))
  subst hW1
  have hE1:∀ x,((w.alloc (.cells ROW 82)).drew).cell? x=(w.drew.alloc (.cells ROW 82)).cell? x:=fun x=>rfl
  have hE2:∀ x,((w.alloc (.cells ROW 82)).drew).frozen? x=(w.drew.alloc (.cells ROW 82)).frozen? x:=fun x=>rfl
  have hF1:∀ x,(((w.alloc (.cells ROW 82)).drew.setCells w.heap.size (i*2) vs).drew).cell? x=((w.drew.alloc (.cells ROW 82)).setCells w.heap.size (i*2) vs).cell? x:=fun x=>rfl
  have hF2:∀ x,(((w.alloc (.cells ROW 82)).drew.setCells w.heap.size (i*2) vs).drew).frozen? x=((w.drew.alloc (.cells ROW 82)).setCells w.heap.size (i*2) vs).frozen? x:=fun x=>rfl
  have hw1:IntKind.i64.wrap ((i:Int)+(m:Int))=(i:Int)+(m:Int):=by rw [IntKind.wrap_i64];omega
  have hb1:(0:Int)≤(i:Int)+(m:Int):=by omega
  have hin:i≤n:=by omega
  have htn:((i:Int)+(m:Int)).toNat=i+m:=by omega
  have hb3:(i:Int)≤(n:Int):=by omega
  clear hkk hik hold hROW hG hRl
  go_enter Tryz.func172,Tryz.ntmps172
  go_wp2_with (first
    | (at_builtin;refine Lib.wpList_append_run _ rfl _ _ _ _ rfl _ _ rfl rfl _ _ (hrz _) ?_)
    | (at_builtin;refine wpList_copy_runI _ rfl _ _ 34 34 rfl _ _ rfl rfl (hcpA _ hE1 hE2 _ _) ?_)
    | (at_builtin;refine wpList_copy_runI _ rfl _ _ 34 34 rfl _ _ rfl rfl (hcpB _ (fun _=>rfl) (fun _=>rfl) _ _ _) ?_))
  go_region_law_o (refine step_copy_runI rfl _ _ 34 34 rfl (.slice (some ⟨w.heap.size,(i+m)*2,none⟩) (n+m - (i+m)) (G - (i+m))) (.slice (some ⟨b,i*2,none⟩) (n - i) (c - i)) (by simp [Act.eval,Act.put]) (by simp [Act.eval,Act.put]) (hcpB _ hF1 hF2 3 (G - (i+m)) (c - i)) ?_)
  go_wp2
  go_ret
  exact ⟨rfl,rfl⟩
theorem ins_specA : InsSpec Go.Proofs.Tryz.prog 172 2 := by
  unfold InsSpec
  intro A n cp i vb voff m vc cs vs w hi hm hnc hcm hbig hcl hvl h1c h1v hA hV
  have hvs:∀ j v,vs[j]? = some v→w.cell? ⟨vb,voff+j,none⟩=some v:=hV
  obtain ⟨tA,kA,hsa,hkA⟩:=shape_of_cell (hvs 0 _ (List.getElem?_eq_getElem (by omega)))
  have hmax:maxLen=9223372036854775807:=by decide
  by_cases hroom:n+m≤cp
  · rcases hA with ⟨h1,h2,h3⟩ | ⟨b,arr,e,rfl,hvb,hh,hsz,hcc⟩
    · omega
    have hcs:∀ j v,cs[j]? = some v→w.cell? ⟨b,j,none⟩=some v:=fun j v h=>(cell_of_row w b j arr e (0,0) hh).trans (hcc j v h)
    have hbw:b<w.heap.size:=(Array.getElem?_eq_some_iff.1 hh).1
    have hsp:∀ j,j<(n+m)*2→(w.cell? ⟨b,j,none⟩).isSome=true:=fun j hj=>by rw [cell_of_row w b j arr e (0,0) hh,Array.getElem?_eq_getElem (by omega)];rfl
    have hfz:∀ j,w.frozen? ⟨b,j,none⟩=false:=fun j=>by simp [World.frozen?,hh]
    by_cases hin:i<n
    · refine Calls.mono (ins_shiftA b n cp i vb voff m vc cs vs w hin hm hroom (by omega) hvb hcl hvl hcs hsp (fun j _=>hfz j) hvs h1c h1v tA e kA arr.size hsa (by simp [World.shape?,hh]) hkA hfz) (fun e' w' he => ?_)
      obtain ⟨rfl,rfl⟩:=he
      refine ⟨b,cp,rfl,hroom,hcm,.inl ⟨_,rfl,rfl⟩,by rw [heap_lt_setCells,heap_lt_setCells];exact hbw,Only.cells (.inl rfl) _ _ (Only.cells (.inl rfl) _ _ (Only.refl w _).drew),fun j v hj => ?_⟩
      have:=shift_cells (a:=i*2) (w:=w.drew) (b:=b) (by omega) hcs (fun j hj=>hsp j (by omega)) j v hj
      rw [hvl,show i*2+m*2=(i+m)*2 by omega] at this
      exact this
    · have hin:i=n:=by omega
      subst hin
      refine Calls.mono (ins_end_roomA b i cp vb voff m vc vs w hm hroom (by omega) hvl (fun j hj=>hsp _ (by omega)) (fun j _=>hfz _) hvs h1v) (fun e' w' he => ?_)
      obtain ⟨rfl,rfl⟩:=he
      refine ⟨b,cp,rfl,hroom,hcm,.inl ⟨_,rfl,rfl⟩,by rw [heap_lt_setCells];exact hbw,Only.cells (.inl rfl) _ _ (Only.refl w _),fun j v hj => ?_⟩
      rw [← hcl] at hj ⊢
      exact end_cells hcs (fun j hj=>hsp j (by omega)) j v hj
  · have hge:=grownCap_ge w (n+m) cp 82
    have hcm2:=grownCap_le_maxLen w (n+m) cp 82 (by omega)
    by_cases hin:i<n
    · rcases hA with ⟨h1,h2,h3⟩ | ⟨b,arr,e,rfl,hvb,hh,hsz,hcc⟩
      · omega
      have hcs:∀ j v,cs[j]? = some v→w.cell? ⟨b,j,none⟩=some v:=fun j v h=>(cell_of_row w b j arr e (0,0) hh).trans (hcc j v h)
      refine Calls.mono (ins_growA b n cp i vb voff m vc cs vs w hin hm hnc (by omega) (by omega) hcl hvl hcs hvs h1c h1v) (fun e' w' he => ?_)
      obtain ⟨rfl,rfl⟩:=he
      generalize grownCap w (n+m) cp 82=G at *
      obtain ⟨ROW,hROW⟩:∃ ROW:Array Value,ROW=(cs.take (i*2)).toArray++Builtin.zeroCells zeroA.cells (n+m - i)++Builtin.zeroCells zeroA.cells (G - (n+m)):=⟨_,rfl⟩
      have hRl:(n+m)*2≤ROW.size:=by
        rw [hROW]
        simp [Builtin.zeroCells,Value.cells,zeroA]
        omega
      have hRt:∀ j v,(cs.take (i*2))[j]? = some v→ROW[j]? = some v:=fun j v hj=>by
        have hlt:=(List.getElem?_eq_some_iff.1 hj).1
        rw [hROW,Array.getElem?_append_left (by simp at hlt ⊢;omega),Array.getElem?_append_left (by simpa using hlt)]
        simpa using hj
      rw [← hROW]
      have hN:∀ j,(w.alloc (.cells ROW 82)).drew.cell? ⟨w.heap.size,j,none⟩=ROW[j]? := fun j=>World.cell?_alloc_at (w:=w) ROW _ w.heap.size j rfl
      refine ⟨w.heap.size,G,rfl,hge,hcm2,.inr (Nat.le_refl _),by rw [heap_lt_setCells];show w.heap.size<(World.setCells _ _ _ _).heap.size;rw [heap_lt_setCells];show w.heap.size<(w.alloc _).heap.size;simp,Only.cells (.inr (Nat.le_refl _)) _ _ (Only.cells (.inr (Nat.le_refl _)) _ _ ((Only.refl w _).alloc _).drew).drew,fun j v hj => ?_⟩
      have:=grow_cells (a:=i*2) (vs:=vs) (w:=(w.alloc (.cells ROW 82)).drew) (w':=((w.alloc (.cells ROW 82)).drew.setCells w.heap.size (i*2) vs).drew) (b:=w.heap.size) (by omega) (fun j v hj=>(hN j).trans (hRt j v hj)) (fun j hj=>by rw [hN,Array.getElem?_eq_getElem (by omega)];rfl) (fun _=>rfl) j v hj
      rw [hvl,show i*2+m*2=(i+m)*2 by omega] at this
      exact this
    · have hin:i=n:=by omega
      subst hin
      have hnil:A=none→i=0:=fun h=>by
        rcases hA with ⟨_,h2,_⟩ | ⟨b,arr,e,h2,_⟩
        · exact h2
        · rw [h2] at h;cases h
      have hcsA:∀ a,A=some a→∀ j v,cs[j]? = some v→w.cell? (a.add j)=some v:=by
        intro a ha j v hj
        rcases hA with ⟨h,_⟩ | ⟨b,arr,e,h,hvb,hh,hsz,hcc⟩
        · rw [h] at ha;cases ha
        · rw [h] at ha;cases ha
          rw [Addr.add_lit,Nat.zero_add]
          exact (cell_of_row w b j arr e (0,0) hh).trans (hcc j v hj)
      refine Calls.mono (ins_end_growA A i cp vb voff m vc cs vs w hm hnc (by omega) (by omega) hcl hvl hnil hcsA hvs h1v) (fun e' w' he => ?_)
      obtain ⟨rfl,rfl⟩:=he
      generalize grownCap w (i+m) cp 82=G at *
      refine ⟨w.heap.size,G,rfl,hge,hcm2,.inr (Nat.le_refl _),by show w.heap.size<(w.drew.alloc _).heap.size;simp,((Only.refl w _).drew).alloc _,fun j v hj => ?_⟩
      rw [← hcl,List.take_length,List.drop_length,List.append_nil] at hj
      have hlt:=(List.getElem?_eq_some_iff.1 hj).1
      rw [World.cell?_alloc_at (w:=w.drew) _ _ w.heap.size j rfl,Array.getElem?_append_left (by simpa using hlt)]
      simpa using hj
end Go.TA.Tryz


end
section
/- The table of functions, and that it is sound. -/
namespace Go.TA.Tryz
theorem mixed:Go.Proofs.Tryz.prog.follows .mixedOrders=true:=by kernel_rfl
def tab:List (Nat × LFn):=[(7,.code F7),
 (11,.code F11),
 (12,.code F12),
 (13,.code F13),
 (15,.code F15),
 (18,.code F18),
 (19,.code F19),
 (21,.code F21),
 (27,.code F27),
 (32,.code F32),
 (34,.code F34),
 (39,.code F39),
 (41,.code F41),
 (42,.code F42),
 (43,.code F43),
 (44,.code F44),
 (50,.code F50),
 (51,.code F51),
 (52,.code F52),
 (53,.code F53),
 (54,.code F54),
 (55,.code F55),
 (56,.prim (pCloneT 2)),
 (61,.code F61),
 (62,.code F62),
 (63,.code F63),
 (64,.code F64),
 (65,.code F65),
 (66,.code F66),
 (67,.code F67),
 (68,.code F68),
 (69,.code F69),
 (70,.code F70),
 (71,.code F71),
 (72,.code F72),
 (76,.code F76),
 (77,.code F77),
 (78,.prim (pCloneT 1)),
 (81,.code F81),
 (86,.code F86),
 (88,.code F88),
 (89,.code F89),
 (90,.code F90),
 (91,.code F91),
 (92,.code F92),
 (94,.prim (pSort)),
 (95,.code F95),
 (96,.code F96),
 (104,.code F104),
 (105,.code F105),
 (111,.code F111),
 (112,.code F112),
 (113,.code F113),
 (114,.code F114),
 (115,.code F115),
 (116,.code F116),
 (117,.code F117),
 (118,.code F118),
 (119,.code F119),
 (120,.code F120),
 (121,.code F121),
 (122,.code F122),
 (123,.prim (pDelete 170 delLoop1 1)),
 (124,.code F124),
 (125,.code F125),
 (126,.code F126),
 (130,.code F130),
 (131,.code F131),
 (132,.code F132),
 (133,.code F133),
 (134,.code F134),
 (139,.code F139),
 (140,.code F140),
 (141,.code F141),
 (142,.code F142),
 (143,.code F143),
 (144,.code F144),
 (147,.code F147),
 (150,.code F150),
 (158,.code F158),
 (159,.code F159),
 (160,.code F160),
 (161,.code F161),
 (162,.code F162),
 (165,.code F165),
 (166,.code F166),
 (167,.prim (pItoa)),
 (168,.code F168),
 (169,.prim (pInsert 1)),
 (170,.code F170),
 (171,.code F171),
 (172,.prim (pInsert 2)),
 (173,.prim (pDelete 203 delLoop2 2)),
 (174,.code F174),
 (176,.code F176),
 (177,.code F177),
 (178,.code F178),
 (193,.code F193),
 (195,.code F195),
 (197,.code F197),
 (198,.prim (pIndexByte)),
 (203,.code F203),
 (215,.code F215),
 (216,.code F216)]
def T (k:Nat):Option LFn:=lk tab k
theorem T7:T 7=some (.code F7):=rfl
theorem T11:T 11=some (.code F11):=rfl
theorem T12:T 12=some (.code F12):=rfl
theorem T13:T 13=some (.code F13):=rfl
theorem T15:T 15=some (.code F15):=rfl
theorem T18:T 18=some (.code F18):=rfl
theorem T19:T 19=some (.code F19):=rfl
theorem T21:T 21=some (.code F21):=rfl
theorem T27:T 27=some (.code F27):=rfl
theorem T32:T 32=some (.code F32):=rfl
theorem T34:T 34=some (.code F34):=rfl
theorem T39:T 39=some (.code F39):=rfl
theorem T42:T 42=some (.code F42):=rfl
theorem T43:T 43=some (.code F43):=rfl
theorem T44:T 44=some (.code F44):=rfl
theorem T50:T 50=some (.code F50):=rfl
theorem T51:T 51=some (.code F51):=rfl
theorem T52:T 52=some (.code F52):=rfl
theorem T53:T 53=some (.code F53):=rfl
theorem T54:T 54=some (.code F54):=rfl
theorem T55:T 55=some (.code F55):=rfl
theorem T56:T 56=some (.prim (pCloneT 2)):=rfl
theorem T61:T 61=some (.code F61):=rfl
theorem T62:T 62=some (.code F62):=rfl
theorem T63:T 63=some (.code F63):=rfl
theorem T64:T 64=some (.code F64):=rfl
theorem T65:T 65=some (.code F65):=rfl
theorem T66:T 66=some (.code F66):=rfl
theorem T67:T 67=some (.code F67):=rfl
theorem T68:T 68=some (.code F68):=rfl
theorem T69:T 69=some (.code F69):=rfl
theorem T70:T 70=some (.code F70):=rfl
theorem T71:T 71=some (.code F71):=rfl
theorem T72:T 72=some (.code F72):=rfl
theorem T76:T 76=some (.code F76):=rfl
theorem T77:T 77=some (.code F77):=rfl
theorem T78:T 78=some (.prim (pCloneT 1)):=rfl
theorem T81:T 81=some (.code F81):=rfl
theorem T86:T 86=some (.code F86):=rfl
theorem T88:T 88=some (.code F88):=rfl
theorem T89:T 89=some (.code F89):=rfl
theorem T90:T 90=some (.code F90):=rfl
theorem T91:T 91=some (.code F91):=rfl
theorem T92:T 92=some (.code F92):=rfl
theorem T94:T 94=some (.prim (pSort)):=rfl
theorem T95:T 95=some (.code F95):=rfl
theorem T96:T 96=some (.code F96):=rfl
theorem T104:T 104=some (.code F104):=rfl
theorem T105:T 105=some (.code F105):=rfl
theorem T111:T 111=some (.code F111):=rfl
theorem T112:T 112=some (.code F112):=rfl
theorem T113:T 113=some (.code F113):=rfl
theorem T114:T 114=some (.code F114):=rfl
theorem T115:T 115=some (.code F115):=rfl
theorem T116:T 116=some (.code F116):=rfl
theorem T117:T 117=some (.code F117):=rfl
theorem T118:T 118=some (.code F118):=rfl
theorem T119:T 119=some (.code F119):=rfl
theorem T120:T 120=some (.code F120):=rfl
theorem T121:T 121=some (.code F121):=rfl
theorem T122:T 122=some (.code F122):=rfl
theorem T123:T 123=some (.prim (pDelete 170 delLoop1 1)):=rfl
theorem T124:T 124=some (.code F124):=rfl
theorem T125:T 125=some (.code F125):=rfl
theorem T126:T 126=some (.code F126):=rfl
theorem T130:T 130=some (.code F130):=rfl
theorem T131:T 131=some (.code F131):=rfl
theorem T132:T 132=some (.code F132):=rfl
theorem T133:T 133=some (.code F133):=rfl
theorem T134:T 134=some (.code F134):=rfl
theorem T139:T 139=some (.code F139):=rfl
theorem T140:T 140=some (.code F140):=rfl
theorem T141:T 141=some (.code F141):=rfl
theorem T142:T 142=some (.code F142):=rfl
theorem T143:T 143=some (.code F143):=rfl
theorem T144:T 144=some (.code F144):=rfl
theorem T147:T 147=some (.code F147):=rfl
theorem T150:T 150=some (.code F150):=rfl
theorem T158:T 158=some (.code F158):=rfl
theorem T159:T 159=some (.code F159):=rfl
theorem T160:T 160=some (.code F160):=rfl
theorem T161:T 161=some (.code F161):=rfl
theorem T162:T 162=some (.code F162):=rfl
theorem T165:T 165=some (.code F165):=rfl
theorem T166:T 166=some (.code F166):=rfl
theorem T167:T 167=some (.prim (pItoa)):=rfl
theorem T168:T 168=some (.code F168):=rfl
theorem T169:T 169=some (.prim (pInsert 1)):=rfl
theorem T170:T 170=some (.code F170):=rfl
theorem T171:T 171=some (.code F171):=rfl
theorem T172:T 172=some (.prim (pInsert 2)):=rfl
theorem T173:T 173=some (.prim (pDelete 203 delLoop2 2)):=rfl
theorem T174:T 174=some (.code F174):=rfl
theorem T176:T 176=some (.code F176):=rfl
theorem T177:T 177=some (.code F177):=rfl
theorem T178:T 178=some (.code F178):=rfl
theorem T193:T 193=some (.code F193):=rfl
theorem T195:T 195=some (.code F195):=rfl
theorem T197:T 197=some (.code F197):=rfl
theorem T198:T 198=some (.prim (pIndexByte)):=rfl
theorem T203:T 203=some (.code F203):=rfl
theorem T215:T 215=some (.code F215):=rfl
theorem T216:T 216=some (.code F216):=rfl
theorem prim56 {Γ : Ground}:PrimOk Go.Proofs.Tryz.prog Γ 56 (pCloneT 2):=pCloneT_ok (pClone_ok mixed (sz:=2) (bytes:=32) (by decide +kernel))
theorem prim78 {Γ : Ground}:PrimOk Go.Proofs.Tryz.prog Γ 78 (pCloneT 1):=pCloneT_ok (pClone_ok mixed (sz:=1) (bytes:=8) (by decide +kernel))
theorem prim94 {Γ : Ground}:PrimOk Go.Proofs.Tryz.prog Γ 94 (pSort):=pSort_ok (by decide +kernel) Go.Proofs.Tryz.sortInt Go.Proofs.Tryz.sortNone
theorem prim123 {Γ : Ground}:PrimOk Go.Proofs.Tryz.prog Γ 123 (pDelete 170 delLoop1 1):=pDelete_ok mixed (by decide +kernel)
theorem prim167 {Γ : Ground} (hΓ : ∀ w, Γ.holds w→Lib.TabIs Go.Proofs.Tryz.prog w "internal/strconv.uint64pow10" .u64 Lib.pow10Tab):PrimOk Go.Proofs.Tryz.prog Γ 167 (pItoa):=pItoa_ok (by decide +kernel) hΓ (fun n w h0 h1 ht=>Go.Proofs.Tryz.strconv_Itoa n h0 h1 w ht)
theorem prim169 {Γ : Ground}:PrimOk Go.Proofs.Tryz.prog Γ 169 (pInsert 1):=pInsert_ok (by decide +kernel) (by decide) ins_specI
theorem prim172 {Γ : Ground}:PrimOk Go.Proofs.Tryz.prog Γ 172 (pInsert 2):=pInsert_ok (by decide +kernel) (by decide) ins_specA
theorem prim173 {Γ : Ground}:PrimOk Go.Proofs.Tryz.prog Γ 173 (pDelete 203 delLoop2 2):=pDelete_ok mixed (by decide +kernel)
theorem prim198 {Γ : Ground}:PrimOk Go.Proofs.Tryz.prog Γ 198 (pIndexByte):=pIndexByte_ok (by decide +kernel) Go.Proofs.Tryz.strings_IndexByte
theorem tab_ok {Γ : Ground} (hΓ : ∀ w, Γ.holds w→Lib.TabIs Go.Proofs.Tryz.prog w "internal/strconv.uint64pow10" .u64 Lib.pow10Tab):∀ e ∈ tab,RowOk Go.Proofs.Tryz.prog Γ e:=by
 unfold tab
 refine List.forall_mem_cons.2 ⟨fnSound_of ok7, ?_⟩
 refine List.forall_mem_cons.2 ⟨fnSound_of ok11, ?_⟩
 refine List.forall_mem_cons.2 ⟨fnSound_of ok12, ?_⟩
 refine List.forall_mem_cons.2 ⟨fnSound_of ok13, ?_⟩
 refine List.forall_mem_cons.2 ⟨fnSound_of ok15, ?_⟩
 refine List.forall_mem_cons.2 ⟨fnSound_of ok18, ?_⟩
 refine List.forall_mem_cons.2 ⟨fnSound_of ok19, ?_⟩
 refine List.forall_mem_cons.2 ⟨fnSound_of ok21, ?_⟩
 refine List.forall_mem_cons.2 ⟨fnSound_of ok27, ?_⟩
 refine List.forall_mem_cons.2 ⟨fnSound_of ok32, ?_⟩
 refine List.forall_mem_cons.2 ⟨fnSound_of ok34, ?_⟩
 refine List.forall_mem_cons.2 ⟨fnSound_of ok39, ?_⟩
 refine List.forall_mem_cons.2 ⟨fnSound_of ok41, ?_⟩
 refine List.forall_mem_cons.2 ⟨fnSound_of ok42, ?_⟩
 refine List.forall_mem_cons.2 ⟨fnSound_of ok43, ?_⟩
 refine List.forall_mem_cons.2 ⟨fnSound_of ok44, ?_⟩
 refine List.forall_mem_cons.2 ⟨fnSound_of ok50, ?_⟩
 refine List.forall_mem_cons.2 ⟨fnSound_of ok51, ?_⟩
 refine List.forall_mem_cons.2 ⟨fnSound_of ok52, ?_⟩
 refine List.forall_mem_cons.2 ⟨fnSound_of ok53, ?_⟩
 refine List.forall_mem_cons.2 ⟨fnSound_of ok54, ?_⟩
 refine List.forall_mem_cons.2 ⟨fnSound_of ok55, ?_⟩
 refine List.forall_mem_cons.2 ⟨prim56, ?_⟩
 refine List.forall_mem_cons.2 ⟨fnSound_of ok61, ?_⟩
 refine List.forall_mem_cons.2 ⟨fnSound_of ok62, ?_⟩
 refine List.forall_mem_cons.2 ⟨fnSound_of ok63, ?_⟩
 refine List.forall_mem_cons.2 ⟨fnSound_of ok64, ?_⟩
 refine List.forall_mem_cons.2 ⟨fnSound_of ok65, ?_⟩
 refine List.forall_mem_cons.2 ⟨fnSound_of ok66, ?_⟩
 refine List.forall_mem_cons.2 ⟨fnSound_of ok67, ?_⟩
 refine List.forall_mem_cons.2 ⟨fnSound_of ok68, ?_⟩
 refine List.forall_mem_cons.2 ⟨fnSound_of ok69, ?_⟩
 refine List.forall_mem_cons.2 ⟨fnSound_of ok70, ?_⟩
 refine List.forall_mem_cons.2 ⟨fnSound_of ok71, ?_⟩
 refine List.forall_mem_cons.2 ⟨fnSound_of ok72, ?_⟩
 refine List.forall_mem_cons.2 ⟨fnSound_of ok76, ?_⟩
 refine List.forall_mem_cons.2 ⟨fnSound_of ok77, ?_⟩
 refine List.forall_mem_cons.2 ⟨prim78, ?_⟩
 refine List.forall_mem_cons.2 ⟨fnSound_of ok81, ?_⟩
 refine List.forall_mem_cons.2 ⟨fnSound_of ok86, ?_⟩
 refine List.forall_mem_cons.2 ⟨fnSound_of ok88, ?_⟩
 refine List.forall_mem_cons.2 ⟨fnSound_of ok89, ?_⟩
 refine List.forall_mem_cons.2 ⟨fnSound_of ok90, ?_⟩
 refine List.forall_mem_cons.2 ⟨fnSound_of ok91, ?_⟩
 refine List.forall_mem_cons.2 ⟨fnSound_of ok92, ?_⟩
 refine List.forall_mem_cons.2 ⟨prim94, ?_⟩
 refine List.forall_mem_cons.2 ⟨fnSound_of ok95, ?_⟩
 refine List.forall_mem_cons.2 ⟨fnSound_of ok96, ?_⟩
 refine List.forall_mem_cons.2 ⟨fnSound_of ok104, ?_⟩
 refine List.forall_mem_cons.2 ⟨fnSound_of ok105, ?_⟩
 refine List.forall_mem_cons.2 ⟨fnSound_of ok111, ?_⟩
 refine List.forall_mem_cons.2 ⟨fnSound_of ok112, ?_⟩
 refine List.forall_mem_cons.2 ⟨fnSound_of ok113, ?_⟩
 refine List.forall_mem_cons.2 ⟨fnSound_of ok114, ?_⟩
 refine List.forall_mem_cons.2 ⟨fnSound_of ok115, ?_⟩
 refine List.forall_mem_cons.2 ⟨fnSound_of ok116, ?_⟩
 refine List.forall_mem_cons.2 ⟨fnSound_of ok117, ?_⟩
 refine List.forall_mem_cons.2 ⟨fnSound_of ok118, ?_⟩
 refine List.forall_mem_cons.2 ⟨fnSound_of ok119, ?_⟩
 refine List.forall_mem_cons.2 ⟨fnSound_of ok120, ?_⟩
 refine List.forall_mem_cons.2 ⟨fnSound_of ok121, ?_⟩
 refine List.forall_mem_cons.2 ⟨fnSound_of ok122, ?_⟩
 refine List.forall_mem_cons.2 ⟨prim123, ?_⟩
 refine List.forall_mem_cons.2 ⟨fnSound_of ok124, ?_⟩
 refine List.forall_mem_cons.2 ⟨fnSound_of ok125, ?_⟩
 refine List.forall_mem_cons.2 ⟨fnSound_of ok126, ?_⟩
 refine List.forall_mem_cons.2 ⟨fnSound_of ok130, ?_⟩
 refine List.forall_mem_cons.2 ⟨fnSound_of ok131, ?_⟩
 refine List.forall_mem_cons.2 ⟨fnSound_of ok132, ?_⟩
 refine List.forall_mem_cons.2 ⟨fnSound_of ok133, ?_⟩
 refine List.forall_mem_cons.2 ⟨fnSound_of ok134, ?_⟩
 refine List.forall_mem_cons.2 ⟨fnSound_of ok139, ?_⟩
 refine List.forall_mem_cons.2 ⟨fnSound_of ok140, ?_⟩
 refine List.forall_mem_cons.2 ⟨fnSound_of ok141, ?_⟩
 refine List.forall_mem_cons.2 ⟨fnSound_of ok142, ?_⟩
 refine List.forall_mem_cons.2 ⟨fnSound_of ok143, ?_⟩
 refine List.forall_mem_cons.2 ⟨fnSound_of ok144, ?_⟩
 refine List.forall_mem_cons.2 ⟨fnSound_of ok147, ?_⟩
 refine List.forall_mem_cons.2 ⟨fnSound_of ok150, ?_⟩
 refine List.forall_mem_cons.2 ⟨fnSound_of ok158, ?_⟩
 refine List.forall_mem_cons.2 ⟨fnSound_of ok159, ?_⟩
 refine List.forall_mem_cons.2 ⟨fnSound_of ok160, ?_⟩
 refine List.forall_mem_cons.2 ⟨fnSound_of ok161, ?_⟩
 refine List.forall_mem_cons.2 ⟨fnSound_of ok162, ?_⟩
 refine List.forall_mem_cons.2 ⟨fnSound_of ok165, ?_⟩
 refine List.forall_mem_cons.2 ⟨fnSound_of ok166, ?_⟩
 refine List.forall_mem_cons.2 ⟨prim167 hΓ, ?_⟩
 refine List.forall_mem_cons.2 ⟨fnSound_of ok168, ?_⟩
 refine List.forall_mem_cons.2 ⟨prim169, ?_⟩
 refine List.forall_mem_cons.2 ⟨fnSound_of ok170, ?_⟩
 refine List.forall_mem_cons.2 ⟨fnSound_of ok171, ?_⟩
 refine List.forall_mem_cons.2 ⟨prim172, ?_⟩
 refine List.forall_mem_cons.2 ⟨prim173, ?_⟩
 refine List.forall_mem_cons.2 ⟨fnSound_of ok174, ?_⟩
 refine List.forall_mem_cons.2 ⟨fnSound_of ok176, ?_⟩
 refine List.forall_mem_cons.2 ⟨fnSound_of ok177, ?_⟩
 refine List.forall_mem_cons.2 ⟨fnSound_of ok178, ?_⟩
 refine List.forall_mem_cons.2 ⟨fnSound_of ok193, ?_⟩
 refine List.forall_mem_cons.2 ⟨fnSound_of ok195, ?_⟩
 refine List.forall_mem_cons.2 ⟨fnSound_of ok197, ?_⟩
 refine List.forall_mem_cons.2 ⟨prim198, ?_⟩
 refine List.forall_mem_cons.2 ⟨fnSound_of ok203, ?_⟩
 refine List.forall_mem_cons.2 ⟨fnSound_of ok215, ?_⟩
 refine List.forall_mem_cons.2 ⟨fnSound_of ok216, ?_⟩
 simp
theorem T_okW (W:World):TOk Go.Proofs.Tryz.prog (ΓW Go.Proofs.Tryz.prog W) T:=tOk_of (tab_ok ΓW_tab)
end Go.TA.Tryz


end
section
/- Tags and names: what the program says of them. -/
set_option maxHeartbeats 1000000
namespace Go.TA.Tryz
theorem smallB_inner {more:Bool} {c:UInt8} (h:smallB c=true):innerB more c=true:=by simp [innerB,h]
theorem small_run (c:UInt8) (g:List AObj) (n:Nat):acall T (n+1) 197 [.p (.int .u8 c.toNat)] g=some (.p (.bool (smallB c)),g):=by
 rw [acall_code T197,run_pure rfl rfl rfl]
 by_cases h1:(97:Int)≤c.toNat
 ·by_cases h2:(c.toNat:Int)≤122
  ·simp -implicitDefEqProofs (disch:=omega) only [Rx,simprocAttr,F197,smallB,h1,h2]
  ·simp -implicitDefEqProofs (disch:=omega) only [Rx,simprocAttr,F197,smallB,h1,h2]
 ·simp -implicitDefEqProofs (disch:=omega) only [Rx,simprocAttr,F197,smallB,h1]
theorem getD_get {s:Bs} {i:Nat} {c:UInt8} (h:s[i]? = some c):s.getD i 0=c:=by rw [List.getD_eq_getElem?_getD,h];rfl
def outB (r:Bool):Ex × St:=if r=true then (.exit 0,⟨[],[],[]⟩) else (.ret,⟨[(4,.p (.bool false))],[],[]⟩)
def othersOf (more:Bool):Bs:=if more=true then [45,58,46] else [45]
theorem u8_ne {c:UInt8} {k:UInt8}:((k==c)=true)↔c.toNat=k.toNat:=by
 rw [beq_iff_eq]
 exact ⟨fun h=>by rw [h],fun h=>(UInt8.toNat_inj.1 h).symm⟩
theorem others_at (more:Bool) (c:UInt8) (hn:(smallB c || digitB c)=false):(Lib.indexByte (othersOf more) c<0)=((innerB more c)=false):=by
 have e:innerB more c=(((c.toNat:Int)==45) || (more && (((c.toNat:Int)==58) || ((c.toNat:Int)==46)))):=by
  simp only [Bool.or_eq_false_iff] at hn
  simp [innerB,hn.1,hn.2]
 rw [e]
 have q:∀ k:UInt8,(k==c)=((c.toNat:Int)==(k.toNat:Int)):=fun k=>by
  rw [Bool.eq_iff_iff,u8_ne,beq_iff_eq]
  omega
 cases more
 ·have e0:othersOf false=[45]:=rfl
  have:((45:UInt8).toNat:Int)=45:=rfl
  simp only [e0,Lib.indexByte,q,this]
  cases h:((c.toNat:Int)==45) <;> simp
 ·have e0:othersOf true=[45,58,46]:=rfl
  have e1:((45:UInt8).toNat:Int)=45:=rfl
  have e2:((58:UInt8).toNat:Int)=58:=rfl
  have e3:((46:UInt8).toNat:Int)=46:=rfl
  simp only [e0,Lib.indexByte,q,e1,e2,e3]
  cases h:((c.toNat:Int)==45) <;> cases h':((c.toNat:Int)==58) <;> cases h'':((c.toNat:Int)==46) <;> simp
theorem index_run (s:Bs) (c:UInt8) (g:List AObj) (n:Nat):acall T (n+1) 198 [.p (.str s),.p (.int .u8 c.toNat)] g=some (.p (.int .i64 (Lib.indexByte s c)),g):=by
 rw [acall_prim T198]
 simp [pIndexByte]
theorem named_loop {n N : Nat} (s : Bs) (more : Bool) (hs : s.length ≤ 32) (hN : 32 < N) (i : Nat) (hi : i ≤ s.length) :
    aexec (acall T (n+1)) N (.loop B168x0) ⟨[(0,.p (.str s)),(1,.p (.str (othersOf more))),(21,.p (.int .i64 s.length)),(22,.p (.int .i64 i))],[],[]⟩=some (outB ((s.drop i).all (innerB more))):=by
  refine loop_rule' (σ := Nat) (S:=fun i=>⟨[(0,.p (.str s)),(1,.p (.str (othersOf more))),(21,.p (.int .i64 s.length)),(22,.p (.int .i64 i))],[],[]⟩) (I:=fun i=>i≤s.length) (μ := fun i=>s.length - i)
    (Φ := fun i=>outB ((s.drop i).all (innerB more))) ?_ i hi (by omega)
  intro i hi
  by_cases h:i<s.length
  · obtain ⟨c,hc⟩:=get_some h
    have hg:=getD_get hc
    have k1:(i:Int)<(s.length:Int):=by omega
    rw [drop_cons hc]
    have good:innerB more c=true→aexec (acall T (n+1)) N B168x0 ⟨[(0,.p (.str s)),(1,.p (.str (othersOf more))),(21,.p (.int .i64 s.length)),(22,.p (.int .i64 i))],[],[]⟩=some (.normal,⟨[(0,.p (.str s)),(1,.p (.str (othersOf more))),(21,.p (.int .i64 s.length)),(22,.p (.int .i64 ((i+1:Nat):Int)))],[],[]⟩):=fun hb=>by
      cases hsm:smallB c with
      | true=>simp -implicitDefEqProofs (disch:=omega) only [Rx,simprocAttr,B168x0,k1,hg,small_run,hsm]
      | false =>
        by_cases h48:(c.toNat:Int)<48
        · have hd:(smallB c || digitB c)=false:=by simp [hsm,digitB];omega
          have ho:¬ (Lib.indexByte (othersOf more) c<0):=by rw [others_at more c hd,hb];simp
          simp -implicitDefEqProofs (disch:=omega) only [Rx,simprocAttr,B168x0,k1,hg,small_run,hsm,h48,index_run,ho]
        · by_cases h57:57<(c.toNat:Int)
          · have hd:(smallB c || digitB c)=false:=by simp [hsm,digitB];omega
            have ho:¬ (Lib.indexByte (othersOf more) c<0):=by rw [others_at more c hd,hb];simp
            simp -implicitDefEqProofs (disch:=omega) only [Rx,simprocAttr,B168x0,k1,hg,small_run,hsm,h48,h57,index_run,ho]
          · simp -implicitDefEqProofs (disch:=omega) only [Rx,simprocAttr,B168x0,k1,hg,small_run,hsm,h48,h57]
    cases hb:innerB more c with
    | true=>exact .inl ⟨i+1,good hb,by omega,by omega,by simp [hb]⟩
    | false =>
      refine .inr ⟨?_,by simp [hb,outB]⟩
      have hsm:smallB c=false:=by
        cases h:smallB c
        · rfl
        · rw [smallB_inner h] at hb;cases hb
      have hdg:digitB c=false:=by
        cases h:digitB c
        · rfl
        · simp [innerB,h] at hb
      have hd:(smallB c || digitB c)=false:=by simp [hsm,hdg]
      have ho:Lib.indexByte (othersOf more) c<0:=by rw [others_at more c hd,hb]
      have eF:outB ((c::s.drop (i+1)).all (innerB more))=(.ret,⟨[(4,.p (.bool false))],[],[]⟩):=by simp [outB,hb]
      by_cases h48:(c.toNat:Int)<48
      · rw [eF]
        simp -implicitDefEqProofs (disch:=omega) only [Rx,simprocAttr,B168x0,k1,hg,small_run,hsm,h48,index_run,ho]
      · have h57:57<(c.toNat:Int):=by simp [digitB] at hdg;omega
        rw [eF]
        simp -implicitDefEqProofs (disch:=omega) only [Rx,simprocAttr,B168x0,k1,hg,small_run,hsm,h48,h57,index_run,ho]
  · refine .inr ⟨?_,by rw [List.drop_eq_nil_of_le (by omega)];simp [outB]⟩
    have k1:¬ (i:Int)<(s.length:Int):=by omega
    rw [List.drop_eq_nil_of_le (by omega)]
    simp -implicitDefEqProofs (disch:=omega) only [Rx,simprocAttr,B168x0,k1,outB]
theorem named_run (s : Bs) (more : Bool) (g : List AObj) (n : Nat) : acall T (n + 35) 168 [.p (.str s), .p (.str (othersOf more))] g = some (.p (.bool (namedB more s)), g) := by
  rw [acall_code T168,run_pure rfl rfl rfl]
  cases s with
  | nil=>simp -implicitDefEqProofs (disch:=omega) only [Rx,simprocAttr,F168,namedB]
  | cons c r =>
    have k0:((c::r)==([]:Bs))=false:=rfl
    by_cases h32:(c::r).length≤32
    · have k1:¬ (32<(r.length:Int)+1):=by simp at h32;omega
      have hl:=named_loop (n:=n+33) (N:=n+34) (c::r) more h32 (by omega) 0 (by simp)
      simp only [List.length_cons,Int.natCast_add,Int.natCast_one,Int.natCast_zero] at hl
      cases hsm:smallB c with
      | true =>
        have e:namedB more (c::r)=((c::r).drop 0).all (innerB more):=by
          simp only [namedB,hsm,List.drop_zero,List.all_cons,smallB_inner hsm,Bool.true_and,Bool.and_true]
          simp at h32 ⊢
          omega
        rw [e]
        cases hb:((c::r).drop 0).all (innerB more) with
        | true =>
          have hl':outB (((c::r).drop 0).all (innerB more))=(.exit 0,⟨[],[],[]⟩):=by simp only [outB,hb];rfl
          rw [hl'] at hl
          simp -implicitDefEqProofs (disch:=omega) only [Rx,simprocAttr,F168,k0,k1,small_run,hsm,hl]
        | false =>
          have hl':outB (((c::r).drop 0).all (innerB more))=(.ret,⟨[(4,.p (.bool false))],[],[]⟩):=by simp only [outB,hb];rfl
          rw [hl'] at hl
          simp -implicitDefEqProofs (disch:=omega) only [Rx,simprocAttr,F168,k0,k1,small_run,hsm,hl]
      | false =>
        have e:namedB more (c::r)=false:=by simp [namedB,hsm]
        rw [e]
        simp -implicitDefEqProofs (disch:=omega) only [Rx,simprocAttr,F168,k0,k1,small_run,hsm]
    · have k1:32<(r.length:Int)+1:=by simp at h32;omega
      have e:namedB more (c::r)=false:=by simp [namedB];simp at h32;omega
      rw [e]
      simp -implicitDefEqProofs (disch:=omega) only [Rx,simprocAttr,F168,k0,k1]
theorem tag_run (s:Bs) (g:List AObj) (n:Nat):acall T (n+36) 116 [.p (.str s)] g=some (.p (.bool (namedB false s)),g):=by
 rw [acall_code T116,run_pure rfl rfl rfl]
 have h:=named_run s false [] n
 simp only [othersOf,Bool.false_eq_true,if_false] at h
 simp -implicitDefEqProofs (disch:=omega) only [Rx,simprocAttr,F116,h]
theorem name_run (s:Bs) (g:List AObj) (n:Nat):acall T (n+36) 117 [.p (.str s)] g=some (.p (.bool (namedB true s)),g):=by
 rw [acall_code T117,run_pure rfl rfl rfl]
 have h:=named_run s true [] n
 simp only [othersOf,if_true] at h
 simp -implicitDefEqProofs (disch:=omega) only [Rx,simprocAttr,F117,h]
theorem fits_run (s:Bs) (g:List AObj) (n:Nat):acall T (n+1) 118 [.p (.str s)] g=some (.p (.bool (decide ((s.length:Int)≤65536))),g):=by
 rw [acall_code T118,run_pure rfl rfl rfl]
 simp -implicitDefEqProofs (disch:=omega) only [Rx,simprocAttr,F118]
end Go.TA.Tryz


end
section
/- Rows that stand as a tree's do: the document's answer. -/
namespace Go.TA.Tryz
def rowsPV (l:List GRow):AV:=.p (.list (l.map GRow.pv))
def aboveOut (r:Bool):Ex × St:=if r=true then (.ret,⟨[(6,.p (.bool true))],[],[]⟩) else (.exit 0,⟨[],[],[]⟩)
theorem up_val {l:List GRow} {i x:Nat} (h:standTo l i) (hi:i≤l.length) (hx:x<i):∃ r,l[x]? = some r∧r.up=(upAt l (x+1):Int):=by
 obtain ⟨r,hr⟩:=get_some (show x<l.length by omega)
 refine ⟨r,hr, ?_⟩
 have:=h x r hx hr
 simp [upAt,hr]
 omega
theorem above_loop {n N : Nat} (l : List GRow) (h : Int) (i : Nat) (hs : standTo l i) (hi : i ≤ l.length) (hl : l.length ≤ 1048576) (hN : i < N) :
    aexec (acall T n) N (.loop B104x0) ⟨[(0,.p (.list (l.map GRow.pv))),(2,.p (.int .i64 h)),(7,.p (.int .i64 (i:Int)))],[],[]⟩=some (aboveOut (aboveB l i h)):=by
  refine loop_rule' (C:=acall T n) (N:=N) (B:=B104x0) (σ := Nat) (S:=fun x=>⟨[(0,.p (.list (l.map GRow.pv))),(2,.p (.int .i64 h)),(7,.p (.int .i64 x))],[],[]⟩) (I:=fun x=>x≤i) (μ := fun x=>x)
    (Φ := fun x=>aboveOut (aboveB l x h)) ?_ i (Nat.le_refl _) hN
  intro x hx
  cases x with
  | zero =>
    refine .inr ⟨?_,by simp [aboveB,chain_zero,aboveOut]⟩
    have e:aboveOut (aboveB l 0 h)=(.exit 0,⟨[],[],[]⟩):=by simp [aboveB,chain_zero,aboveOut]
    rw [e]
    simp -implicitDefEqProofs (disch:=omega) only [Rx,simprocAttr,B104x0,Int.natCast_zero]
  | succ x =>
    obtain ⟨r,hr,hu⟩:=up_val hs hi (show x<i by omega)
    have hg:=getD_map (f:=GRow.pv) hr
    have k1:(0:Int)<(x:Int)+1:=by omega
    have k2:(x:Int)<(l.length:Int):=by omega
    have hc:=chain_succ hs hi (show x<i by omega)
    by_cases he:((x:Int)+1)=h
    · have e:aboveB l (x+1) h=true:=by
        simp only [aboveB,hc,List.any_cons,Bool.or_eq_true,beq_iff_eq]
        left;push_cast;exact he
      have he':((x:Int)+1==h)=true:=by simpa using he
      refine .inr ⟨?_,by rw [e];simp [aboveOut]⟩
      rw [e]
      simp -implicitDefEqProofs (disch:=omega) only [Rx,simprocAttr,B104x0,k1,he',aboveOut]
    · have e:aboveB l (x+1) h=aboveB l (upAt l (x+1)) h:=by
        simp only [aboveB,hc,List.any_cons]
        have:(((x+1:Nat):Int)==h)=false:=by simp;omega
        rw [this,Bool.false_or]
      have he':((x:Int)+1==h)=false:=by simpa using he
      have hle:=upAt_le hs (show x<i by omega) (by omega)
      refine .inl ⟨upAt l (x+1), ?_,by omega,by omega,by rw [e]⟩
      simp -implicitDefEqProofs (disch:=omega) only [Rx,simprocAttr,B104x0,k1,k2,he',hg,GRow.pv,hu]
theorem above_run (l:List GRow) (h:Int) (i:Nat) (hs:standTo l i) (hi:i≤l.length) (hl:l.length≤1048576) (g:List AObj) {n:Nat} (hn:i<n) :
    acall T (n+1) 104 [.p (.list (l.map GRow.pv)),.p (.int .i64 i),.p (.int .i64 h)] g=some (.p (.bool (aboveB l i h)),g):=by
  rw [acall_code T104,run_pure rfl rfl rfl]
  have hloop:=above_loop (n:=n) (N:=n) l h i hs hi hl hn
  cases hb:aboveB l i h with
  | true =>
    rw [hb] at hloop
    simp only [aboveOut,if_true] at hloop
    simp -implicitDefEqProofs (disch:=omega) only [Rx,simprocAttr,F104,hloop]
  | false =>
    rw [hb] at hloop
    simp only [aboveOut,Bool.false_eq_true,if_false] at hloop
    simp -implicitDefEqProofs (disch:=omega) only [Rx,simprocAttr,F104,hloop]
theorem depth_loop {n N:Nat} (l:List GRow) (i:Nat) (hs:standTo l i) (hi:i≤l.length) (hl:l.length≤1048576) (hN:i<N) :
    aexec (acall T n) N (.loop B51x0) ⟨[(0,.p (.list (l.map GRow.pv))),(1,.p (.int .i64 (i:Int))),(5,.p (.int .i64 ((0:Nat):Int)))],[],[]⟩=some (.exit 0,⟨[(5,.p (.int .i64 ((chain l i).length:Int)))],[],[]⟩):=by
  have:=loop_rule' (C:=acall T n) (N:=N) (B:=B51x0) (σ := Nat × Nat) (S:=fun s=>⟨[(0,.p (.list (l.map GRow.pv))),(1,.p (.int .i64 s.1)),(5,.p (.int .i64 s.2))],[],[]⟩) (I:=fun s=>s.1≤i∧s.2+s.1≤i) (μ := fun s=>s.1)
    (Φ := fun s=>(.exit 0,⟨[(5,.p (.int .i64 ((s.2+(chain l s.1).length:Nat):Int)))],[],[]⟩)) ?_ (i,0) ⟨Nat.le_refl _,by simp⟩ hN
  · simpa using this
  rintro ⟨x,d⟩ ⟨hx,hd⟩
  simp only at hx hd ⊢
  cases x with
  | zero =>
    refine .inr ⟨?_,by simp⟩
    simp only [chain_zero,List.length_nil,Nat.add_zero]
    simp -implicitDefEqProofs (disch:=omega) only [Rx,simprocAttr,B51x0,Int.natCast_zero]
  | succ x =>
    obtain ⟨r,hr,hu⟩:=up_val hs hi (show x<i by omega)
    have hg:=getD_map (f:=GRow.pv) hr
    have k1:(0:Int)<(x:Int)+1:=by omega
    have k2:(x:Int)<(l.length:Int):=by omega
    have hc:=chain_succ hs hi (show x<i by omega)
    have hle:=upAt_le hs (show x<i by omega) (by omega)
    refine .inl ⟨(upAt l (x+1),d+1), ?_,⟨by omega,by simp only;omega⟩,by simp only;omega, ?_⟩
    · simp -implicitDefEqProofs (disch:=omega) only [Rx,simprocAttr,B51x0,k1,k2,hg,GRow.pv,hu]
    · rw [hc,List.length_cons];congr 6;simp only;omega
theorem depth_run (l:List GRow) (i:Nat) (hs:standTo l i) (hi:i≤l.length) (hl:l.length≤1048576) (g:List AObj) {n:Nat} (hn:i<n) :
  acall T (n+1) 51 [.p (.list (l.map GRow.pv)),.p (.int .i64 i)] g=some (.p (.int .i64 (chain l i).length),g):=by
 rw [acall_code T51,run_pure rfl rfl rfl]
 have hloop:=depth_loop (n:=n) (N:=n) l i hs hi hl hn
 simp only [Int.natCast_zero] at hloop
 simp -implicitDefEqProofs (disch:=omega) only [Rx,simprocAttr,F51,hloop]
def formOut (k:Nat) (r:Bool):Ex × St:=if r=true then (.exit 0,⟨[],[],[]⟩) else (.ret,⟨[(k,.p (.bool false))],[],[]⟩)
theorem form13_loop {n N : Nat} (l : List GRow) (hl : l.length ≤ 1048576) (hN : l.length < N) (hn : l.length < n) :
    aexec (acall T (n+1)) N (.loop B50x0) ⟨[(0,.p (.list (l.map GRow.pv))),(5,.p (.int .i64 l.length)),(6,.p (.int .i64 ((0:Nat):Int)))],[],[]⟩=some (formOut 2 (formedB l)):=by
  have:=loop_rule' (C:=acall T (n+1)) (N:=N) (B:=B50x0) (σ := Nat) (S:=fun i=>⟨[(0,.p (.list (l.map GRow.pv))),(5,.p (.int .i64 l.length)),(6,.p (.int .i64 i))],[],[]⟩) (I:=fun i=>i≤l.length∧standTo l i) (μ := fun i=>l.length - i)
    (Φ := fun i=>formOut 2 (formedFrom l i (l.drop i))) ?_ 0 ⟨by omega,standTo_zero l⟩ (by omega)
  · simpa [formedB] using this
  rintro i ⟨hi,hs⟩
  by_cases h:i<l.length
  · have k1:(i:Int)<(l.length:Int):=by omega
    obtain ⟨x,hx⟩:=get_some h
    have hg:=getD_map (f:=GRow.pv) hx
    have hd:l.drop i=x::l.drop (i+1):=by rw [List.drop_eq_getElem?_toList_append,hx];rfl
    rw [hd]
    have bad:rowOkB l i x=false→formOut 2 (formedFrom l i (x::l.drop (i+1)))=(.ret,⟨[(2,.p (.bool false))],[],[]⟩):=fun h=>by simp [formedFrom,h,formOut]
    have good:rowOkB l i x=true→formOut 2 (formedFrom l i (x::l.drop (i+1)))=formOut 2 (formedFrom l (i+1) (l.drop (i+1))):=fun h=>by simp [formedFrom,h]
    cases i with
    | zero =>
      by_cases hu:x.up=0
      · have hr:rowOkB l 0 x=true:=by simp [rowOkB,hu]
        refine .inl ⟨1, ?_,⟨by omega,row_stands hs (by omega) hx hr⟩,by omega,good hr⟩
        have hu':(x.up==0)=true:=by simp [hu]
        simp only [Int.natCast_zero,Int.natCast_one] at k1 ⊢
        have hg0:(l.map GRow.pv).getD 0 []=x.pv:=hg
        have e0:Int.toNat 0=0:=rfl
        simp -implicitDefEqProofs (disch:=omega) only [Rx,simprocAttr,B50x0,k1,hg0,e0,GRow.pv,hu']
      · have hr:rowOkB l 0 x=false:=by simp [rowOkB,hu]
        refine .inr ?_
        rw [bad hr]
        refine ⟨?_,by simp⟩
        have hu':(x.up==0)=false:=by simp [hu]
        simp only [Int.natCast_zero,Int.natCast_one] at k1 ⊢
        have hg0:(l.map GRow.pv).getD 0 []=x.pv:=hg
        have e0:Int.toNat 0=0:=rfl
        simp -implicitDefEqProofs (disch:=omega) only [Rx,simprocAttr,B50x0,k1,hg0,e0,GRow.pv,hu']
    | succ j =>
      have k0:((j:Int)+1==0)=false:=by simp;omega
      have k3:(0:Int)<(j:Int)+1:=by omega
      have k5:((j:Int)+1).toNat=j+1:=by omega
      simp only [Int.natCast_add,Int.natCast_one] at k1
      by_cases hu:x.up<1
      · have hr:rowOkB l (j+1) x=false:=by simp [rowOkB];intro h;omega
        refine .inr ?_
        rw [bad hr]
        refine ⟨?_,by simp⟩
        simp -implicitDefEqProofs (disch:=omega) only [Rx,simprocAttr,B50x0,k0,k1,k3,k5,hg,GRow.pv,hu]
      · have hab:=above_run (n:=n) l x.up (j+1) hs (by omega) hl [] (by omega)
        simp only [Int.natCast_add,Int.natCast_one] at hab
        cases hb:aboveB l (j+1) x.up with
        | true =>
          have hr:rowOkB l (j+1) x=true:=by simp [rowOkB,hb];omega
          refine .inl ⟨j+1+1, ?_,⟨by omega,row_stands hs (by omega) hx hr⟩,by omega,good hr⟩
          simp -implicitDefEqProofs (disch:=omega) only [Rx,simprocAttr,B50x0,k0,k1,k3,k5,hg,GRow.pv,hu,hab,hb]
        | false =>
          have hr:rowOkB l (j+1) x=false:=by simp [rowOkB,hb]
          refine .inr ?_
          rw [bad hr]
          refine ⟨?_,by simp⟩
          simp -implicitDefEqProofs (disch:=omega) only [Rx,simprocAttr,B50x0,k0,k1,k3,k5,hg,GRow.pv,hu,hab,hb]
  · have k1:¬ (i:Int)<(l.length:Int):=by omega
    have e:l.drop i=[]:=List.drop_eq_nil_of_le (by omega)
    refine .inr ⟨?_,by rw [e];simp [formedFrom,formOut]⟩
    rw [e]
    simp -implicitDefEqProofs (disch:=omega) only [Rx,simprocAttr,B50x0,k1,formedFrom,formOut]
theorem form13_run (l:List GRow) (hl:l.length≤1048576) (g:List AObj) {n:Nat} (hn:l.length<n):acall T (n+2) 50 [.p (.list (l.map GRow.pv))] g=some (.p (.bool (formedB l)),g):=by
  rw [acall_code T50,run_pure rfl rfl rfl]
  have hloop:=form13_loop (n:=n) (N:=n+1) l hl (by omega) hn
  simp only [Int.natCast_zero] at hloop
  cases hb:formedB l with
  | true =>
    rw [hb] at hloop
    simp only [formOut,if_true] at hloop
    simp -implicitDefEqProofs (disch:=omega) only [Rx,simprocAttr,F50,hloop]
  | false =>
    rw [hb] at hloop
    simp only [formOut,Bool.false_eq_true,if_false] at hloop
    simp -implicitDefEqProofs (disch:=omega) only [Rx,simprocAttr,F50,hloop]
end Go.TA.Tryz


end
section
/- Rows that stand as a tree's do, and are not too deep: the program. -/
namespace Go.TA.Tryz
def stopAt (l:List GRow) (h:Nat) (u:Int):Int:=if aboveB l h u=true then u else 0
def formS (l:List GRow) (i:Nat) (x:GRow) (h:Int):St:=⟨[(0,.p (.list (l.map GRow.pv))),(3,.p (.int .i64 i)),(4,.ptr false 4 6 1 0 0),(5,.p (.int .i64 h)),(6,.p (.list (l.map GRow.pv))),(7,.p (.int .i64 l.length)),(8,.p (.int .i64 i))],[(4,.pcells 6 [x.pv])],[]⟩
theorem formP_inner {n N : Nat} (l : List GRow) (i : Nat) (x : GRow) (hs : standTo l i) (hi : i ≤ l.length) (hl : l.length ≤ 1048576) (hN : i < N) :
    aexec (acall T n) N (.loop B158x1) (formS l i x i)=some (.exit 2,formS l i x (stopAt l i x.up)):=by
  refine loop_rule' (C:=acall T n) (N:=N) (B:=B158x1) (σ := Nat) (S:=fun h=>formS l i x h) (I:=fun h=>h≤i) (μ := fun h=>h)
    (Φ := fun h=>(.exit 2,formS l i x (stopAt l h x.up))) ?_ i (Nat.le_refl _) hN
  intro h hh
  cases h with
  | zero =>
    refine .inr ⟨?_,by simp⟩
    have e:stopAt l 0 x.up=0:=by simp [stopAt,aboveB,chain_zero]
    rw [e]
    simp -implicitDefEqProofs (disch:=omega) only [Rx,simprocAttr,B158x1,formS,GRow.pv,Int.natCast_zero]
  | succ h =>
    obtain ⟨r,hr,hu⟩:=up_val hs hi (show h<i by omega)
    have hg:=getD_map (f:=GRow.pv) hr
    have k2:(h:Int)<(l.length:Int):=by omega
    have k0:((h:Int)+1==0)=false:=by simp;omega
    have hc:=chain_succ hs hi (show h<i by omega)
    cases he:((h:Int)+1==x.up) with
    | true =>
      have he':(h:Int)+1=x.up:=by simpa using he
      have e:stopAt l (h+1) x.up=(h:Int)+1:=by
        have:aboveB l (h+1) x.up=true:=by
          simp only [aboveB,hc,List.any_cons,Bool.or_eq_true,beq_iff_eq]
          left;push_cast;exact he'
        simp [stopAt,this,he']
      refine .inr ⟨?_,by simp⟩
      rw [e]
      simp -implicitDefEqProofs (disch:=omega) only [Rx,simprocAttr,B158x1,formS,GRow.pv,k0,he]
    | false =>
      have e:stopAt l (h+1) x.up=stopAt l (upAt l (h+1)) x.up:=by
        have:aboveB l (h+1) x.up=aboveB l (upAt l (h+1)) x.up:=by
          simp only [aboveB,hc,List.any_cons]
          have:(((h+1:Nat):Int)==x.up)=false:=by simpa using he
          rw [this,Bool.false_or]
        simp only [stopAt,this]
      have hle:=upAt_le hs (show h<i by omega) (by omega)
      refine .inl ⟨upAt l (h+1), ?_,by omega,by omega,by rw [e]⟩
      simp -implicitDefEqProofs (disch:=omega) only [Rx,simprocAttr,B158x1,formS,GRow.pv,k0,k2,he,hg,hu]
theorem formP_loop {n N : Nat} (l : List GRow) (hl : l.length ≤ 1048576) (hN : l.length < N) :
    aexec (acall T n) N (.loop B158x0) ⟨[(0,.p (.list (l.map GRow.pv))),(6,.p (.list (l.map GRow.pv))),(7,.p (.int .i64 l.length)),(8,.p (.int .i64 ((0:Nat):Int)))],[],[]⟩=some (formOut 2 (formedB l)):=by
  have:=loop_rule' (C:=acall T n) (N:=N) (B:=B158x0) (σ := Nat) (S:=fun i=>⟨[(0,.p (.list (l.map GRow.pv))),(6,.p (.list (l.map GRow.pv))),(7,.p (.int .i64 l.length)),(8,.p (.int .i64 i))],[],[]⟩) (I:=fun i=>i≤l.length∧standTo l i) (μ := fun i=>l.length - i)
    (Φ := fun i=>formOut 2 (formedFrom l i (l.drop i))) ?_ 0 ⟨by omega,standTo_zero l⟩ (by omega)
  · simpa [formedB] using this
  rintro i ⟨hi,hs⟩
  by_cases h:i<l.length
  · have k1:(i:Int)<(l.length:Int):=by omega
    obtain ⟨x,hx⟩:=get_some h
    have hg:=getD_map (f:=GRow.pv) hx
    have hd:l.drop i=x::l.drop (i+1):=by rw [List.drop_eq_getElem?_toList_append,hx];rfl
    rw [hd]
    have bad:rowOkB l i x=false→formOut 2 (formedFrom l i (x::l.drop (i+1)))=(.ret,⟨[(2,.p (.bool false))],[],[]⟩):=fun h=>by simp [formedFrom,h,formOut]
    have good:rowOkB l i x=true→formOut 2 (formedFrom l i (x::l.drop (i+1)))=formOut 2 (formedFrom l (i+1) (l.drop (i+1))):=fun h=>by simp [formedFrom,h]
    have hin:=formP_inner (n:=n) (N:=N) l i x hs hi hl (by omega)
    simp only [formS,GRow.pv] at hin
    cases hab:aboveB l i x.up with
    | true =>
      have hpos:=above_up hab
      have hi0:i≠0:=fun e=>by subst e;simp [aboveB,chain_zero] at hab
      have hr:rowOkB l i x=true:=by simp [rowOkB,hi0,hab];omega
      refine .inl ⟨i+1, ?_,⟨by omega,row_stands hs (by omega) hx hr⟩,by omega,good hr⟩
      simp only [stopAt,hab,if_true] at hin
      have k3:(x.up==0)=false:=by simp;omega
      have k4:((i:Int)==0)=false:=by simp;omega
      simp -implicitDefEqProofs (disch:=omega) only [Rx,simprocAttr,B158x0,k1,hg,GRow.pv,hin,k3,k4]
    | false =>
      simp only [stopAt,hab,Bool.false_eq_true,if_false] at hin
      by_cases hu:x.up=0
      · have k3:(0==x.up)=true:=by simp [hu]
        by_cases hi0:i=0
        · have hr:rowOkB l i x=true:=by simp [rowOkB,hi0,hu]
          refine .inl ⟨i+1, ?_,⟨by omega,row_stands hs (by omega) hx hr⟩,by omega,good hr⟩
          have k4:((i:Int)==0)=true:=by simp [hi0]
          simp -implicitDefEqProofs (disch:=omega) only [Rx,simprocAttr,B158x0,k1,hg,GRow.pv,hin,k3,k4]
        · have hr:rowOkB l i x=false:=by simp [rowOkB,hi0,hab]
          refine .inr ?_
          rw [bad hr]
          refine ⟨?_,by simp⟩
          have k4:((i:Int)==0)=false:=by simp;omega
          have k6:((true:Bool)==false)=false:=rfl
          simp -implicitDefEqProofs (disch:=omega) only [Rx,simprocAttr,B158x0,k1,hg,GRow.pv,hin,k3,k4,k6]
      · have k3:(0==x.up)=false:=by simp;omega
        have hr:rowOkB l i x=false:=by
          simp only [rowOkB,hab,Bool.and_false]
          split
          · simpa using hu
          · rfl
        refine .inr ?_
        rw [bad hr]
        refine ⟨?_,by simp⟩
        simp -implicitDefEqProofs (disch:=omega) only [Rx,simprocAttr,B158x0,k1,hg,GRow.pv,hin,k3]
  · have k1:¬ (i:Int)<(l.length:Int):=by omega
    have e:l.drop i=[]:=List.drop_eq_nil_of_le (by omega)
    refine .inr ⟨?_,by rw [e];simp [formedFrom,formOut]⟩
    rw [e]
    simp -implicitDefEqProofs (disch:=omega) only [Rx,simprocAttr,B158x0,k1,formedFrom,formOut]
theorem formP_run (l:List GRow) (hl:l.length≤1048576) (g:List AObj) {n:Nat} (hn:l.length<n):acall T (n+1) 158 [.p (.list (l.map GRow.pv))] g=some (.p (.bool (formedB l)),g):=by
  rw [acall_code T158,run_pure rfl rfl rfl]
  have hloop:=formP_loop (n:=n) (N:=n) l hl hn
  simp only [Int.natCast_zero] at hloop
  cases hb:formedB l with
  | true =>
    rw [hb] at hloop
    simp only [formOut,if_true] at hloop
    simp -implicitDefEqProofs (disch:=omega) only [Rx,simprocAttr,F158,hloop]
  | false =>
    rw [hb] at hloop
    simp only [formOut,Bool.false_eq_true,if_false] at hloop
    simp -implicitDefEqProofs (disch:=omega) only [Rx,simprocAttr,F158,hloop]
def depths (l:List GRow) (i:Nat):List (List PV):=(List.range (l.length+1)).map fun h=>[.int .i64 (if h≤i then ((chain l h).length:Int) else 0)]
theorem depths_len (l:List GRow) (i:Nat):(depths l i).length=l.length+1:=by simp [depths]
theorem depths_get (l:List GRow) {i h:Nat} (hh:h≤l.length):(depths l i).getD h []=[.int .i64 (if h≤i then ((chain l h).length:Int) else 0)]:=by
 rw [List.getD_eq_getElem?_getD,depths,List.getElem?_map,List.getElem?_range (by omega)]
 rfl
theorem depths_set (l:List GRow) {i:Nat} (hi:i<l.length):(depths l i).set (i+1) [.int .i64 ((chain l (i+1)).length:Int)]=depths l (i+1):=by
 apply List.ext_getElem
 ·simp [depths]
 ·intro k h1 h2
  rw [List.getElem_set]
  simp only [depths,List.getElem_map,List.getElem_range]
  by_cases e:i+1=k
  ·subst e;simp
  ·rw [if_neg e]
   have:(k≤i)↔(k≤i+1):=by omega
   simp only [this]
theorem depths_zero (l:List GRow):List.replicate (l.length+1) [PV.int .i64 0]=depths l 0:=by
 apply List.ext_getElem
 ·simp [depths]
 ·intro k h1 h2
  simp only [List.getElem_replicate,depths,List.getElem_map,List.getElem_range]
  by_cases e:k≤0
  ·obtain rfl:k=0:=by omega
   simp [chain_zero]
  ·simp [e]
def shallow (l:List GRow):Prop:=∀ i,i<l.length→(chain l (i+1)).length≤64
end Go.TA.Tryz


end
section
/- A row of attributes is cloned. -/
namespace Go.TA.Tryz
theorem attrs_two (l:List Attr):((l.map Attr.pv).all fun x=>x.length==2)=true:=by simp [List.all_eq_true,Attr.pv]
theorem attrs_same:∀ (l:List Attr),PV.sameLL (l.map Attr.pv) (l.map Attr.pv)=true
 | []=>rfl
 | a::l=>by simp [PV.sameLL,PV.sameL,PV.same,Attr.pv,attrs_same l]
theorem cloneA_run (l:List Attr) (h:l.length≤1048577) (g:List AObj) (n:Nat):acall T (n+1) 56 [.p (.list (l.map Attr.pv))] g=some (.own true g.length l.length,g++[.pcells 2 (l.map Attr.pv)]):=by
 rw [acall_prim T56]
 have h2:=attrs_two l
 have h3:l.length*4096≤140737488355328:=by omega
 simp only [pCloneT,thaw,bk_some,pClone,h2,List.length_map,h3,and_self,if_true]
end Go.TA.Tryz


end
section
/- What is wrong with attributes: the program. -/
namespace Go.TA.Tryz
theorem ap_loop {n N : Nat} (l : List Attr) (hN : l.length < N) :
    aexec (acall T (n+36)) N (.loop B119x0) ⟨[(0,.p (.list (l.map Attr.pv))),(7,.p (.list (l.map Attr.pv))),(8,.p (.int .i64 l.length)),(9,.p (.int .i64 ((0:Nat):Int)))],[],[]⟩=some (chkOut (attrsChk [] 0 l)):=by
  refine loop_rule' (C:=acall T (n+36)) (N:=N) (B:=B119x0) (σ := Nat) (S:=fun i=>⟨[(0,.p (.list (l.map Attr.pv))),(7,.p (.list (l.map Attr.pv))),(8,.p (.int .i64 l.length)),(9,.p (.int .i64 i))],[],[]⟩) (I:=fun i=>i≤l.length∧i≤64) (μ := fun i=>l.length - i)
    (Φ := fun i=>chkOut (attrsChk (prevOf l i) i (l.drop i))) ?_ 0 ⟨by omega,by omega⟩ (by omega)
  rintro i ⟨hi,hi64⟩
  by_cases h:i<l.length
  · have k1 : (i : Int) < (l.length : Int) := by omega
    obtain ⟨a,ha⟩:=get_some h
    have ga:=getD_map (f:=Attr.pv) ha
    rw [chk_step ha]
    have bad:∀ e:Int,attrErr (prevOf l i) i a=e→e≠0→aexec (acall T (n+36)) N B119x0 ⟨[(0,.p (.list (l.map Attr.pv))),(7,.p (.list (l.map Attr.pv))),(8,.p (.int .i64 l.length)),(9,.p (.int .i64 i))],[],[]⟩=some (.ret,⟨[(2,.p (.int .i64 i)),(3,.p (.int .i64 e))],[],[]⟩) →
        (∃ s',aexec (acall T (n+36)) N B119x0 ⟨[(0,.p (.list (l.map Attr.pv))),(7,.p (.list (l.map Attr.pv))),(8,.p (.int .i64 l.length)),(9,.p (.int .i64 i))],[],[]⟩=some (.normal,(fun (i:Nat)=>(⟨[(0,.p (.list (l.map Attr.pv))),(7,.p (.list (l.map Attr.pv))),(8,.p (.int .i64 l.length)),(9,.p (.int .i64 i))],[],[]⟩:St)) s')∧(s'≤l.length∧s'≤64)∧l.length - s'<l.length - i∧chkOut (if attrErr (prevOf l i) i a=0 then attrsChk (prevOf l (i+1)) (i+1) (l.drop (i+1)) else ((i:Int),attrErr (prevOf l i) i a))=chkOut (attrsChk (prevOf l s') s' (l.drop s'))) ∨
        (aexec (acall T (n+36)) N B119x0 ⟨[(0,.p (.list (l.map Attr.pv))),(7,.p (.list (l.map Attr.pv))),(8,.p (.int .i64 l.length)),(9,.p (.int .i64 i))],[],[]⟩=some (chkOut (if attrErr (prevOf l i) i a=0 then attrsChk (prevOf l (i+1)) (i+1) (l.drop (i+1)) else ((i:Int),attrErr (prevOf l i) i a)))∧(chkOut (if attrErr (prevOf l i) i a=0 then attrsChk (prevOf l (i+1)) (i+1) (l.drop (i+1)) else ((i:Int),attrErr (prevOf l i) i a))).1 ≠ .normal):=fun e he h0 hr=>by
      refine .inr ?_
      rw [he,if_neg h0]
      simp only [chkOut,h0,if_false]
      exact ⟨hr,by simp⟩
    by_cases h64:i=64
    · refine bad 12 (by simp [attrErr,h64]) (by decide) ?_
      have k2:((i:Int)==64)=true:=by simp;omega
      simp -implicitDefEqProofs (disch:=omega) only [Rx,simprocAttr,B119x0,k1,k2,ga,Attr.pv]
    have k2:((i:Int)==64)=false:=by simp;omega
    cases hnm:namedB true a.name with
    | false =>
      refine bad 8 (by simp [attrErr,h64,hnm]) (by decide) ?_
      simp -implicitDefEqProofs (disch:=omega) only [Rx,simprocAttr,B119x0,k1,k2,ga,Attr.pv,name_run,hnm]
    | true=>
    by_cases hlong:(a.value.length:Int)≤65536
    rotate_left
    · refine bad 3 (by simp [attrErr,h64,hnm];omega) (by decide) ?_
      simp -implicitDefEqProofs (disch:=omega) only [Rx,simprocAttr,B119x0,k1,k2,ga,Attr.pv,name_run,hnm,fits_run,hlong]
    have hlong':¬ (65536<(a.value.length:Int)):=by omega
    cases i with
    | zero =>
      have e:attrErr (prevOf l 0) 0 a=0:=by simp [attrErr,hnm,hlong',prevOf]
      rw [e,if_pos rfl]
      refine .inl ⟨1, ?_,⟨by omega,by omega⟩,by omega,rfl⟩
      simp only [Int.natCast_zero,Int.natCast_one] at k1 k2 ⊢
      have k3:(0:Int)<(l.length:Int):=k1
      have ga0:(l.map Attr.pv).getD 0 []=Attr.pv a:=ga
      have e0:Int.toNat 0=0:=rfl
      simp -implicitDefEqProofs (disch:=omega) only [Rx,simprocAttr,B119x0,k3,ga0,e0,Attr.pv,name_run,hnm,fits_run,hlong]
    | succ j =>
      obtain ⟨b,hb⟩:=get_some (show j<l.length by omega)
      have gb:=getD_map (f:=Attr.pv) hb
      have ep:prevOf l (j+1)=[b]:=by simp [prevOf,hb]
      have k3:(0:Int)<(j:Int)+1:=by omega
      have k4:(j:Int)<(l.length:Int):=by omega
      simp only [Int.natCast_add,Int.natCast_one] at k1 k2
      have k5:((j:Int)+1).toNat=j+1:=by omega
      by_cases heq:b.name=a.name
      · refine bad 10 (by simp [attrErr,h64,hnm,hlong',ep,heq]) (by decide) ?_
        have heq':(b.name==a.name)=true:=by simpa using heq
        simp -implicitDefEqProofs (disch:=omega) only [Rx,simprocAttr,B119x0,k1,k2,k3,k4,k5,ga,gb,Attr.pv,name_run,hnm,fits_run,hlong,heq']
      · have heq':(b.name==a.name)=false:=by simpa using heq
        have hcmp:=cmpB_less heq
        by_cases hgt:0<cmpB b.name a.name
        · refine bad 9 (by simp [attrErr,h64,hnm,hlong',ep,heq,hgt]) (by decide) ?_
          have hl:strLess b.name a.name=false:=by have:=hcmp.1 hgt;rw [heq',Bool.or_false] at this;exact this
          simp -implicitDefEqProofs (disch:=omega) only [Rx,simprocAttr,B119x0,k1,k2,k3,k4,k5,ga,gb,Attr.pv,name_run,hnm,fits_run,hlong,heq',binS,hl]
        · have e:attrErr (prevOf l (j+1)) (j+1) a=0:=by simp [attrErr,h64,hnm,hlong',ep,heq,hgt]
          have hl:strLess b.name a.name=true:=by
            cases h:strLess b.name a.name
            · exact absurd (hcmp.2 (by rw [h,heq'];rfl)) hgt
            · rfl
          rw [e,if_pos rfl]
          refine .inl ⟨j+1+1, ?_,⟨by omega,by omega⟩,by omega,rfl⟩
          simp -implicitDefEqProofs (disch:=omega) only [Rx,simprocAttr,B119x0,k1,k2,k3,k4,k5,ga,gb,Attr.pv,name_run,hnm,fits_run,hlong,heq',binS,hl]
  · have k1:¬ (i:Int)<(l.length:Int):=by omega
    have e:l.drop i=[]:=List.drop_eq_nil_of_le (by omega)
    refine .inr ⟨?_,by rw [e];simp [attrsChk,chkOut]⟩
    rw [e]
    simp -implicitDefEqProofs (disch:=omega) only [Rx,simprocAttr,B119x0,k1,attrsChk,chkOut]
theorem ap_run (l : List Attr) (g : List AObj) {n : Nat} (hl : l.length < n + 36) : acall T (n + 37) 119 [.p (.list (l.map Attr.pv))] g = some (.tuple [.p (.int .i64 (attrsChk [] 0 l).1), .p (.int .i64 (attrsErr l))], g) := by
  rw [acall_code T119,run_pure rfl rfl rfl]
  have hloop:=ap_loop (n:=n) (N:=n+36) l hl
  simp only [Int.natCast_zero] at hloop
  unfold attrsErr
  have h1:(attrsChk [] 0 l).2=0→(attrsChk [] 0 l).1=0:=by
    have key:∀ (p:List Attr) (i:Nat) (l:List Attr),(attrsChk p i l).2=0→(attrsChk p i l).1=0:=by
      intro p i l
      induction l generalizing p i with
      | nil=>simp [attrsChk]
      | cons a l ih =>
        simp only [attrsChk]
        split
        · exact ih _ _
        · rename_i h;intro h';exact absurd h' h
    exact key [] 0 l
  generalize attrsChk [] 0 l=r at hloop h1
  obtain ⟨x,e⟩:=r
  simp only [chkOut] at hloop h1 ⊢
  by_cases h:e=0
  · rw [if_pos h] at hloop
    rw [h1 h,h]
    simp -implicitDefEqProofs (disch:=omega) only [Rx,simprocAttr,F119,hloop]
  · rw [if_neg h] at hloop
    simp -implicitDefEqProofs (disch:=omega) only [Rx,simprocAttr,F119,hloop]
end Go.TA.Tryz


end
section
/- Tags and names: what the document's answer says of them. -/
set_option maxHeartbeats 1000000
namespace Go.TA.Tryz
theorem inner_run (c : UInt8) (more : Bool) (g : List AObj) (n : Nat) : acall T (n + 1) 111 [.p (.int .u8 c.toNat), .p (.bool more)] g = some (.p (.bool (innerB more c)), g) := by
  rw [acall_code T111,run_pure rfl rfl rfl]
  by_cases h5:(c.toNat:Int)=45
  · simp -implicitDefEqProofs (disch:=omega) only [Rx,simprocAttr,F111,innerB,smallB,digitB,h5]
  have e5:((c.toNat:Int)==45)=false:=by simpa using h5
  by_cases h1:(97:Int)≤c.toNat
  · by_cases h2:(c.toNat:Int)≤122
    · simp -implicitDefEqProofs (disch:=omega) only [Rx,simprocAttr,F111,innerB,smallB,digitB,h1,h2]
    · have h3:(48:Int)≤c.toNat:=by omega
      have h4:¬ (c.toNat:Int)≤57:=by omega
      have e6:((c.toNat:Int)==58)=false:=by simp;omega
      have e7:((c.toNat:Int)==46)=false:=by simp;omega
      cases more
      · simp -implicitDefEqProofs (disch:=omega) only [Rx,simprocAttr,F111,innerB,smallB,digitB,h1,h2,h3,h4,e5,e6,e7]
      · simp -implicitDefEqProofs (disch:=omega) only [Rx,simprocAttr,F111,innerB,smallB,digitB,h1,h2,h3,h4,e5,e6,e7]
  · by_cases h3:(48:Int)≤c.toNat
    · by_cases h4:(c.toNat:Int)≤57
      · simp -implicitDefEqProofs (disch:=omega) only [Rx,simprocAttr,F111,innerB,smallB,digitB,h1,h3,h4]
      · have e7:((c.toNat:Int)==46)=false:=by simp;omega
        cases more
        · simp -implicitDefEqProofs (disch:=omega) only [Rx,simprocAttr,F111,innerB,smallB,digitB,h1,h3,h4,e5,e7]
        · by_cases h6:(c.toNat:Int)=58
          · simp -implicitDefEqProofs (disch:=omega) only [Rx,simprocAttr,F111,innerB,smallB,digitB,h6]
          · have e6:((c.toNat:Int)==58)=false:=by simpa using h6
            simp -implicitDefEqProofs (disch:=omega) only [Rx,simprocAttr,F111,innerB,smallB,digitB,h1,h3,h4,e5,e6,e7]
    · have e6:((c.toNat:Int)==58)=false:=by simp;omega
      cases more
      · simp -implicitDefEqProofs (disch:=omega) only [Rx,simprocAttr,F111,innerB,smallB,digitB,h1,h3,e5,e6]
      · by_cases h7:(c.toNat:Int)=46
        · simp -implicitDefEqProofs (disch:=omega) only [Rx,simprocAttr,F111,innerB,smallB,digitB,h7]
        · have e7:((c.toNat:Int)==46)=false:=by simpa using h7
          simp -implicitDefEqProofs (disch:=omega) only [Rx,simprocAttr,F111,innerB,smallB,digitB,h1,h3,e5,e6,e7]
theorem named02_loop {n N:Nat} (s:Bs) (more:Bool) (hs:s.length≤32) (hN:32<N) (i:Nat) (hi:i≤s.length) :
    aexec (acall T (n+1)) N (.loop B63x0) ⟨[(0,.p (.str s)),(1,.p (.bool more)),(5,.p (.int .i64 i))],[],[]⟩=some (outB ((s.drop i).all (innerB more))):=by
  refine loop_rule' (σ := Nat) (S:=fun i=>⟨[(0,.p (.str s)),(1,.p (.bool more)),(5,.p (.int .i64 i))],[],[]⟩) (I:=fun i=>i≤s.length) (μ := fun i=>s.length - i)
    (Φ := fun i=>outB ((s.drop i).all (innerB more))) ?_ i hi (by omega)
  intro i hi
  by_cases h:i<s.length
  · obtain ⟨c,hc⟩:=get_some h
    have hg:=getD_get hc
    have k1:(i:Int)<(s.length:Int):=by omega
    rw [drop_cons hc]
    cases hb:innerB more c with
    | true =>
      refine .inl ⟨i+1, ?_,by omega,by omega,by simp [hb]⟩
      simp -implicitDefEqProofs (disch:=omega) only [Rx,simprocAttr,B63x0,k1,hg,inner_run,hb]
    | false =>
      refine .inr ⟨?_,by simp [hb,outB]⟩
      have eF:outB ((c::s.drop (i+1)).all (innerB more))=(.ret,⟨[(4,.p (.bool false))],[],[]⟩):=by simp [outB,hb]
      rw [eF]
      simp -implicitDefEqProofs (disch:=omega) only [Rx,simprocAttr,B63x0,k1,hg,inner_run,hb]
  · refine .inr ⟨?_,by rw [List.drop_eq_nil_of_le (by omega)];simp [outB]⟩
    have k1:¬ (i:Int)<(s.length:Int):=by omega
    rw [List.drop_eq_nil_of_le (by omega)]
    simp -implicitDefEqProofs (disch:=omega) only [Rx,simprocAttr,B63x0,k1,outB]
theorem named02_run (s : Bs) (more : Bool) (g : List AObj) (n : Nat) : acall T (n + 35) 63 [.p (.str s), .p (.bool more)] g = some (.p (.bool (namedB more s)), g) := by
  rw [acall_code T63,run_pure rfl rfl rfl]
  cases s with
  | nil=>simp -implicitDefEqProofs (disch:=omega) only [Rx,simprocAttr,F63,namedB,Int.natCast_zero]
  | cons c r =>
    have k0:¬ ((r.length:Int)+1<1):=by omega
    by_cases h32:(c::r).length≤32
    · have k1:¬ (32<(r.length:Int)+1):=by simp at h32;omega
      have hl:=named02_loop (n:=n+33) (N:=n+34) (c::r) more h32 (by omega) 1 (by simp)
      simp only [Int.natCast_one] at hl
      by_cases h1:(97:Int)≤c.toNat
      · by_cases h2:(c.toNat:Int)≤122
        · have h1':¬ ((c.toNat:Int)<97):=by omega
          have h2':¬ (122<(c.toNat:Int)):=by omega
          have e:namedB more (c::r)=r.all (innerB more):=by simp [namedB,smallB,h1,h2];simp at h32;omega
          rw [e]
          cases hb:r.all (innerB more) with
          | true =>
            have hl':outB (((c::r).drop 1).all (innerB more))=(.exit 0,⟨[],[],[]⟩):=by simp [outB,hb]
            rw [hl'] at hl
            simp -implicitDefEqProofs (disch:=omega) only [Rx,simprocAttr,F63,k0,k1,h1',h2',hl]
          | false =>
            have hl':outB (((c::r).drop 1).all (innerB more))=(.ret,⟨[(4,.p (.bool false))],[],[]⟩):=by simp [outB,hb]
            rw [hl'] at hl
            simp -implicitDefEqProofs (disch:=omega) only [Rx,simprocAttr,F63,k0,k1,h1',h2',hl]
        · have h1':¬ ((c.toNat:Int)<97):=by omega
          have h2':122<(c.toNat:Int):=by omega
          have e:namedB more (c::r)=false:=by simp [namedB,smallB,h2]
          rw [e]
          simp -implicitDefEqProofs (disch:=omega) only [Rx,simprocAttr,F63,k0,k1,h1',h2']
      · have h1':(c.toNat:Int)<97:=by omega
        have e:namedB more (c::r)=false:=by simp [namedB,smallB,h1]
        rw [e]
        simp -implicitDefEqProofs (disch:=omega) only [Rx,simprocAttr,F63,k0,k1,h1']
    · have k1:32<(r.length:Int)+1:=by simp at h32;omega
      have e:namedB more (c::r)=false:=by simp [namedB];simp at h32;omega
      rw [e]
      simp -implicitDefEqProofs (disch:=omega) only [Rx,simprocAttr,F63,k0,k1]
end Go.TA.Tryz


end
section
/- Which text is ahead. -/
set_option maxHeartbeats 1000000
namespace Go.TA.Tryz
def cmpOut (a b:Bs) (r:Int):Ex × St:=if r = -1 then (.ret,⟨[(4,.p (.int .i64 (-1)))],[],[]⟩) else if r=1 then (.ret,⟨[(4,.p (.int .i64 1))],[],[]⟩) else (.exit 0,⟨[(0,.p (.str a)),(1,.p (.str b))],[],[]⟩)
def part:Bs→Bs→Int
 | a::x,b::y=>if (a.toNat:Int)<b.toNat then -1 else if (b.toNat:Int)<a.toNat then 1 else part x y
 | _,_=>0
theorem cmp_part:∀ (x y:Bs),cmpB x y=if part x y=0 then (if x.length<y.length then -1 else if y.length<x.length then 1 else 0) else part x y
  | [],[]=>by simp [cmpB,part]
  | [],_::_=>by simp [cmpB,part]
  | _::_,[]=>by simp [cmpB,part]
  | a :: x, b :: y => by
    simp only [cmpB,part,cmp_part x y,List.length_cons]
    split
    · simp
    · split
      · simp
      · simp
theorem cmp_loop {n N : Nat} (a b : Bs) (hN : b.length < N) (hb : b.length ≤ 1048577) :
    aexec (acall T n) N (.loop B112x0) ⟨[(0,.p (.str a)),(1,.p (.str b)),(5,.p (.int .i64 ((0:Nat):Int)))],[],[]⟩=some (cmpOut a b (part a b)):=by
  refine loop_rule' (C:=acall T n) (N:=N) (B:=B112x0) (σ := Nat) (S:=fun i=>⟨[(0,.p (.str a)),(1,.p (.str b)),(5,.p (.int .i64 i))],[],[]⟩) (I:=fun i=>i≤a.length∧i≤b.length) (μ := fun i=>b.length - i)
    (Φ := fun i=>cmpOut a b (part (a.drop i) (b.drop i))) ?_ 0 ⟨by omega,by omega⟩ (by omega)
  rintro i ⟨hia,hib⟩
  by_cases h:i<a.length
  · have k1:(i:Int)<(a.length:Int):=by omega
    obtain ⟨x,hx⟩:=get_some h
    have gx:=getD_get hx
    by_cases h':i<b.length
    · have k2:(i:Int)<(b.length:Int):=by omega
      obtain ⟨y,hy⟩:=get_some h'
      have gy:=getD_get hy
      rw [drop_cons hx,drop_cons hy]
      by_cases c1:(x.toNat:Int)<y.toNat
      · refine .inr ⟨?_,by simp [part,c1,cmpOut]⟩
        have e:part (x::a.drop (i+1)) (y::b.drop (i+1)) = -1:=by simp [part,c1]
        rw [e]
        simp -implicitDefEqProofs (disch:=omega) only [Rx,simprocAttr,B112x0,k1,k2,gx,gy,c1,cmpOut]
      · by_cases c2:(y.toNat:Int)<x.toNat
        · refine .inr ⟨?_,by simp [part,c1,c2,cmpOut]⟩
          have e:part (x::a.drop (i+1)) (y::b.drop (i+1))=1:=by simp [part,c1,c2]
          rw [e]
          simp -implicitDefEqProofs (disch:=omega) only [Rx,simprocAttr,B112x0,k1,k2,gx,gy,c1,c2,cmpOut]
        · refine .inl ⟨i+1, ?_,⟨by omega,by omega⟩,by omega,by simp [part,c1,c2]⟩
          simp -implicitDefEqProofs (disch:=omega) only [Rx,simprocAttr,B112x0,k1,k2,gx,gy,c1,c2]
    · have k2:¬ (i:Int)<(b.length:Int):=by omega
      have e:part (a.drop i) (b.drop i)=0:=by rw [drop_cons hx,List.drop_eq_nil_of_le (by omega:b.length≤i)];rfl
      refine .inr ⟨?_,by rw [e];simp [cmpOut]⟩
      rw [e]
      simp -implicitDefEqProofs (disch:=omega) only [Rx,simprocAttr,B112x0,k1,k2,cmpOut]
  · have k1:¬ (i:Int)<(a.length:Int):=by omega
    have e:part (a.drop i) (b.drop i)=0:=by rw [List.drop_eq_nil_of_le (by omega:a.length≤i)];rfl
    refine .inr ⟨?_,by rw [e];simp [cmpOut]⟩
    rw [e]
    simp -implicitDefEqProofs (disch:=omega) only [Rx,simprocAttr,B112x0,k1,cmpOut]
theorem part_cases:∀ (x y:Bs),part x y = -1∨part x y=1∨part x y=0
  | [],[]=>by simp [part]
  | [],_::_=>by simp [part]
  | _::_,[]=>by simp [part]
  | a :: x, b :: y => by
    simp only [part]
    split
    · simp
    · split
      · simp
      · exact part_cases x y
theorem cmp_run (a b : Bs) (g : List AObj) {n : Nat} (ha : b.length < n) (hb : b.length ≤ 1048577) : acall T (n + 1) 112 [.p (.str a), .p (.str b)] g = some (.p (.int .i64 (cmpB a b)), g) := by
  rw [acall_code T112,run_pure rfl rfl rfl,cmp_part]
  have hl:=cmp_loop (n:=n) (N:=n) a b ha hb
  simp only [Int.natCast_zero] at hl
  rcases part_cases a b with h | h | h
  · rw [h] at hl ⊢
    simp only [cmpOut] at hl
    simp -implicitDefEqProofs (disch:=omega) only [Rx,simprocAttr,F112,hl]
  · rw [h] at hl ⊢
    simp only [cmpOut] at hl
    simp -implicitDefEqProofs (disch:=omega) only [Rx,simprocAttr,F112,hl]
  · rw [h] at hl ⊢
    simp only [cmpOut] at hl
    by_cases c1:a.length<b.length
    · have k1:(a.length:Int)<(b.length:Int):=by omega
      simp -implicitDefEqProofs (disch:=omega) only [Rx,simprocAttr,F112,hl,k1,c1]
    · have k1:¬ (a.length:Int)<(b.length:Int):=by omega
      by_cases c2:b.length<a.length
      · have k2:(b.length:Int)<(a.length:Int):=by omega
        simp -implicitDefEqProofs (disch:=omega) only [Rx,simprocAttr,F112,hl,k1,c1,k2,c2]
      · have k2:¬ (b.length:Int)<(a.length:Int):=by omega
        simp -implicitDefEqProofs (disch:=omega) only [Rx,simprocAttr,F112,hl,k1,c1,k2,c2]
end Go.TA.Tryz


end
section
/- What is wrong with attributes: the document's answer. -/
namespace Go.TA.Tryz
theorem a09_loop {n N : Nat} (l : List Attr) (hs : smallAttrs l) (hN : l.length < N) (hn : 1048576 < n) :
    aexec (acall T (n+35)) N (.loop B64x0) ⟨[(0,.p (.list (l.map Attr.pv))),(6,.p (.int .i64 l.length)),(7,.p (.int .i64 ((0:Nat):Int)))],[],[]⟩=some (chkOut (attrsChk [] 0 l)):=by
  refine loop_rule' (C:=acall T (n+35)) (N:=N) (B:=B64x0) (σ := Nat) (S:=fun i=>⟨[(0,.p (.list (l.map Attr.pv))),(6,.p (.int .i64 l.length)),(7,.p (.int .i64 i))],[],[]⟩) (I:=fun i=>i≤l.length∧i≤64) (μ := fun i=>l.length - i)
    (Φ := fun i=>chkOut (attrsChk (prevOf l i) i (l.drop i))) ?_ 0 ⟨by omega,by omega⟩ (by omega)
  rintro i ⟨hi,hi64⟩
  by_cases h:i<l.length
  · have k1:(i:Int)<(l.length:Int):=by omega
    obtain ⟨a,ha⟩:=get_some h
    have ga:=getD_map (f:=Attr.pv) ha
    have hsa:=hs a (List.mem_of_getElem? ha)
    rw [chk_step ha]
    have bad:∀ e:Int,attrErr (prevOf l i) i a=e→e≠0→aexec (acall T (n+35)) N B64x0 ⟨[(0,.p (.list (l.map Attr.pv))),(6,.p (.int .i64 l.length)),(7,.p (.int .i64 i))],[],[]⟩=some (.ret,⟨[(2,.p (.int .i64 i)),(3,.p (.int .i64 e))],[],[]⟩) →
        (∃ s',aexec (acall T (n+35)) N B64x0 ⟨[(0,.p (.list (l.map Attr.pv))),(6,.p (.int .i64 l.length)),(7,.p (.int .i64 i))],[],[]⟩=some (.normal,(fun (i:Nat)=>(⟨[(0,.p (.list (l.map Attr.pv))),(6,.p (.int .i64 l.length)),(7,.p (.int .i64 i))],[],[]⟩:St)) s')∧(s'≤l.length∧s'≤64)∧l.length - s'<l.length - i∧chkOut (if attrErr (prevOf l i) i a=0 then attrsChk (prevOf l (i+1)) (i+1) (l.drop (i+1)) else ((i:Int),attrErr (prevOf l i) i a))=chkOut (attrsChk (prevOf l s') s' (l.drop s'))) ∨
        (aexec (acall T (n+35)) N B64x0 ⟨[(0,.p (.list (l.map Attr.pv))),(6,.p (.int .i64 l.length)),(7,.p (.int .i64 i))],[],[]⟩=some (chkOut (if attrErr (prevOf l i) i a=0 then attrsChk (prevOf l (i+1)) (i+1) (l.drop (i+1)) else ((i:Int),attrErr (prevOf l i) i a)))∧(chkOut (if attrErr (prevOf l i) i a=0 then attrsChk (prevOf l (i+1)) (i+1) (l.drop (i+1)) else ((i:Int),attrErr (prevOf l i) i a))).1 ≠ .normal):=fun e he h0 hr=>by
      refine .inr ?_
      rw [he,if_neg h0]
      simp only [chkOut,h0,if_false]
      exact ⟨hr,by simp⟩
    by_cases h64:i=64
    · refine bad 12 (by simp [attrErr,h64]) (by decide) ?_
      have k2:((i:Int)==64)=true:=by simp;omega
      simp -implicitDefEqProofs (disch:=omega) only [Rx,simprocAttr,B64x0,k1,k2]
    have k2:((i:Int)==64)=false:=by simp;omega
    cases hnm:namedB true a.name with
    | false =>
      refine bad 8 (by simp [attrErr,h64,hnm]) (by decide) ?_
      simp -implicitDefEqProofs (disch:=omega) only [Rx,simprocAttr,B64x0,k1,k2,ga,Attr.pv,named02_run,hnm]
    | true=>
    by_cases hlong:65536<(a.value.length:Int)
    · refine bad 3 (by simp [attrErr,h64,hnm,hlong]) (by decide) ?_
      simp -implicitDefEqProofs (disch:=omega) only [Rx,simprocAttr,B64x0,k1,k2,ga,Attr.pv,named02_run,hnm,hlong]
    cases i with
    | zero =>
      have e:attrErr (prevOf l 0) 0 a=0:=by simp [attrErr,hnm,hlong,prevOf]
      rw [e,if_pos rfl]
      refine .inl ⟨1, ?_,⟨by omega,by omega⟩,by omega,rfl⟩
      simp only [Int.natCast_zero,Int.natCast_one] at k1 k2 ⊢
      have k3:(0:Int)<(l.length:Int):=k1
      have ga0:(l.map Attr.pv).getD 0 []=Attr.pv a:=ga
      have e0:Int.toNat 0=0:=rfl
      simp -implicitDefEqProofs (disch:=omega) only [Rx,simprocAttr,B64x0,k3,ga0,e0,Attr.pv,named02_run,hnm,hlong]
    | succ j =>
      obtain ⟨b,hb⟩:=get_some (show j<l.length by omega)
      have gb:=getD_map (f:=Attr.pv) hb
      have hsb:=hs b (List.mem_of_getElem? hb)
      have ep:prevOf l (j+1)=[b]:=by simp [prevOf,hb]
      have k3:(0:Int)<(j:Int)+1:=by omega
      have k4:(j:Int)<(l.length:Int):=by omega
      simp only [Int.natCast_add,Int.natCast_one] at k1 k2
      have k5:((j:Int)+1).toNat=j+1:=by omega
      have hc:=fun g=>cmp_run (n:=n+34) b.name a.name g (by omega) (by omega)
      by_cases heq:b.name=a.name
      · refine bad 10 (by simp [attrErr,h64,hnm,hlong,ep,heq]) (by decide) ?_
        have heq':(b.name==a.name)=true:=by simpa using heq
        simp -implicitDefEqProofs (disch:=omega) only [Rx,simprocAttr,B64x0,k1,k2,k3,k4,k5,ga,gb,Attr.pv,named02_run,hnm,hlong,heq']
      · have heq':(b.name==a.name)=false:=by simpa using heq
        by_cases hgt:0<cmpB b.name a.name
        · refine bad 9 (by simp [attrErr,h64,hnm,hlong,ep,heq,hgt]) (by decide) ?_
          simp -implicitDefEqProofs (disch:=omega) only [Rx,simprocAttr,B64x0,k1,k2,k3,k4,k5,ga,gb,Attr.pv,named02_run,hnm,hlong,heq',hc,hgt]
        · have e:attrErr (prevOf l (j+1)) (j+1) a=0:=by simp [attrErr,h64,hnm,hlong,ep,heq,hgt]
          rw [e,if_pos rfl]
          refine .inl ⟨j+1+1, ?_,⟨by omega,by omega⟩,by omega,rfl⟩
          simp -implicitDefEqProofs (disch:=omega) only [Rx,simprocAttr,B64x0,k1,k2,k3,k4,k5,ga,gb,Attr.pv,named02_run,hnm,hlong,heq',hc,hgt]
  · have k1:¬ (i:Int)<(l.length:Int):=by omega
    have e:l.drop i=[]:=List.drop_eq_nil_of_le (by omega)
    refine .inr ⟨?_,by rw [e];simp [attrsChk,chkOut]⟩
    rw [e]
    simp -implicitDefEqProofs (disch:=omega) only [Rx,simprocAttr,B64x0,k1,attrsChk,chkOut]
theorem a09_run (l : List Attr) (hs : smallAttrs l) (g : List AObj) {n : Nat} (hl : l.length < n + 35) (hn : 1048576 < n) : acall T (n + 36) 64 [.p (.list (l.map Attr.pv))] g = some (.tuple [.p (.int .i64 (attrsChk [] 0 l).1), .p (.int .i64 (attrsErr l))], g) := by
  rw [acall_code T64,run_pure rfl rfl rfl]
  have hloop:=a09_loop (n:=n) (N:=n+35) l hs hl hn
  simp only [Int.natCast_zero] at hloop
  unfold attrsErr
  have h1:(attrsChk [] 0 l).2=0→(attrsChk [] 0 l).1=0:=by
    have key:∀ (p:List Attr) (i:Nat) (l:List Attr),(attrsChk p i l).2=0→(attrsChk p i l).1=0:=by
      intro p i l
      induction l generalizing p i with
      | nil=>simp [attrsChk]
      | cons a l ih =>
        simp only [attrsChk]
        split
        · exact ih _ _
        · rename_i h;intro h';exact absurd h' h
    exact key [] 0 l
  generalize attrsChk [] 0 l=r at hloop h1
  obtain ⟨x,e⟩:=r
  simp only [chkOut] at hloop h1 ⊢
  by_cases h:e=0
  · rw [if_pos h] at hloop
    rw [h1 h,h]
    simp -implicitDefEqProofs (disch:=omega) only [Rx,simprocAttr,F64,hloop]
  · rw [if_neg h] at hloop
    simp -implicitDefEqProofs (disch:=omega) only [Rx,simprocAttr,F64,hloop]
end Go.TA.Tryz


end
section
/- What is wrong with a node alone. -/
namespace Go.TA.Tryz
def aloneErr (x:GRow):Int:=if namedB false x.tag=false then 7 else if 65536<(x.key.length:Int) then 3 else if 65536<(x.text.length:Int) then 3 else attrsErr x.attrs
def nodeCells (x:GRow) (ks:List (List PV)):List PV:=[.str x.tag,.str x.key,.str x.text,.list (x.attrs.map Attr.pv),.list ks]
theorem alone_run (x:GRow) (ks:List (List PV)) (hs:smallAttrs x.attrs) (g:List AObj) {n:Nat} (hl:x.attrs.length<n) (hn:1048576<n) :
    acall T (n+37) 52 [.p (.agg (nodeCells x ks))] g=some (.p (.int .i64 (aloneErr x)),g):=by
  rw [acall_code T52,run_pure rfl rfl rfl]
  have ha:=fun g=>a09_run x.attrs hs g (n:=n) (by omega) hn
  cases h1:namedB false x.tag with
  | false =>
    have e:aloneErr x=7:=by simp [aloneErr,h1]
    rw [e]
    simp -implicitDefEqProofs (disch:=omega) only [Rx,simprocAttr,F52,nodeCells,named02_run,h1]
  | true=>
  by_cases h2:65536<(x.key.length:Int)
  · have e:aloneErr x=3:=by simp [aloneErr,h1,h2]
    rw [e]
    simp -implicitDefEqProofs (disch:=omega) only [Rx,simprocAttr,F52,nodeCells,named02_run,h1,h2]
  by_cases h3:65536<(x.text.length:Int)
  · have e:aloneErr x=3:=by simp [aloneErr,h1,h2,h3]
    rw [e]
    simp -implicitDefEqProofs (disch:=omega) only [Rx,simprocAttr,F52,nodeCells,named02_run,h1,h2,h3]
  have e:aloneErr x=attrsErr x.attrs:=by simp [aloneErr,h1,h2,h3]
  rw [e]
  simp -implicitDefEqProofs (disch:=omega) only [Rx,simprocAttr,F52,nodeCells,named02_run,h1,h2,h3,ha]
theorem wrong_run (x:GRow) (ks:List (List PV)) (g:List AObj) {n:Nat} (hl:x.attrs.length<n) :
    acall T (n+38) 216 [.p (.agg (nodeCells x ks))] g=some (.p (.int .i64 (aloneErr x)),g):=by
  rw [acall_code T216,run_pure rfl rfl rfl]
  have ha:=fun g=>ap_run x.attrs g (n:=n) (by omega)
  cases h1:namedB false x.tag with
  | false =>
    have e:aloneErr x=7:=by simp [aloneErr,h1]
    rw [e]
    simp -implicitDefEqProofs (disch:=omega) only [Rx,simprocAttr,F216,nodeCells,tag_run,h1]
  | true=>
  by_cases h2:(x.key.length:Int)≤65536
  rotate_left
  · have e:aloneErr x=3:=by simp [aloneErr,h1];omega
    rw [e]
    simp -implicitDefEqProofs (disch:=omega) only [Rx,simprocAttr,F216,nodeCells,tag_run,h1,fits_run,h2]
  by_cases h3:(x.text.length:Int)≤65536
  rotate_left
  · have e:aloneErr x=3:=by simp [aloneErr,h1];omega
    rw [e]
    simp -implicitDefEqProofs (disch:=omega) only [Rx,simprocAttr,F216,nodeCells,tag_run,h1,fits_run,h2,h3]
  have e:aloneErr x=attrsErr x.attrs:=by
    have h2':¬ 65536<(x.key.length:Int):=by omega
    have h3':¬ 65536<(x.text.length:Int):=by omega
    simp [aloneErr,h1,h2',h3']
  rw [e]
  simp -implicitDefEqProofs (disch:=omega) only [Rx,simprocAttr,F216,nodeCells,tag_run,h1,fits_run,h2,h3,ha]
end Go.TA.Tryz


end
section
/- The tree of rows, as the program builds it. -/
namespace Go.TA.Tryz
mutual
inductive BT (l:List GRow):Nat→Nat→List PV→Prop
 | mk {a b:Nat} {x:GRow} {ks:List (List PV)}:l[a]? = some x→BTs l a b ks→BT l a b (nodeCells x ks)
inductive BTs (l:List GRow):Nat→Nat→List (List PV)→Prop
 | nil {a:Nat}:BTs l a (a+1) []
 | snoc {a m b:Nat} {ks:List (List PV)} {k:List PV} {y:GRow}:BTs l a m ks→l[m]? = some y→y.up=(a:Int)+1→BT l m b k→BTs l a b (ks++[k])
end
mutual
theorem BT.lt {l:List GRow} {a b:Nat} {p:List PV}:BT l a b p→a<b∧b≤l.length
  | .mk hx h => by
    have:=BTs.lt h (List.getElem?_eq_some_iff.1 hx).1
    omega
theorem BTs.lt {l:List GRow} {a b:Nat} {ks:List (List PV)}:BTs l a b ks→a<l.length→a+1≤b∧b≤l.length∧ks.length+a+1≤b
  | .nil,ha=>⟨Nat.le_refl _,ha,by simp⟩
  | .snoc h _ _ h2, ha => by
    have h3:=BTs.lt h ha
    have h4:=BT.lt h2
    simp only [List.length_append,List.length_singleton]
    omega
end
theorem BT.len {l:List GRow} {a b:Nat} {p:List PV} (h:BT l a b p):p.length=5:=by
 cases h with
 | mk _ _=>rfl
theorem BTs.at {l:List GRow} {a b:Nat} {ks:List (List PV)} (h:BTs l a b ks):∀ (i:Nat) k,ks[i]? = some k→∃ m m' y,BTs l a m (ks.take i)∧l[m]? = some y∧y.up=(a:Int)+1∧BT l m m' k∧BTs l a m' (ks.take (i+1))∧m'≤b:=by
  match h with
  | .nil=>intro i k hk;simp at hk
  | .snoc (m := m) (ks := ks0) (k := k0) (y := y) h1 hy hu h2 =>
    intro i k hk
    by_cases hi:i<ks0.length
    · rw [List.getElem?_append_left hi] at hk
      obtain ⟨m1,m2,y1,q1,q2,q3,q4,q5,q6⟩:=BTs.at h1 i k hk
      have:=BT.lt h2
      refine ⟨m1,m2,y1, ?_,q2,q3,q4, ?_,by omega⟩
      · rw [List.take_append_of_le_length (by omega)];exact q1
      · rw [List.take_append_of_le_length (by omega)];exact q5
    · have hlt:=(List.getElem?_eq_some_iff.1 hk).1
      simp only [List.length_append,List.length_singleton] at hlt
      obtain rfl:i=ks0.length:=by omega
      rw [List.getElem?_append_right (Nat.le_refl _),Nat.sub_self] at hk
      simp only [List.getElem?_cons_zero,Option.some.injEq] at hk
      subst hk
      refine ⟨m,b,y, ?_,hy,hu,h2, ?_,Nat.le_refl _⟩
      · rw [List.take_append_of_le_length (Nat.le_refl _),List.take_length];exact h1
      · rw [List.take_of_length_le (by simp)];exact .snoc h1 hy hu h2
mutual
theorem BT.uniq {l:List GRow} {a b b':Nat} {p p':List PV}:BT l a b p→BT l a b' p'→p=p'→b=b'
  | .mk hx h, .mk hx' h', e => by
    simp only [nodeCells,List.cons.injEq,PV.list.injEq,and_true] at e
    exact BTs.uniq h h' e.2.2.2.2
theorem BTs.uniq {l:List GRow} {a b b':Nat} {ks ks':List (List PV)}:BTs l a b ks→BTs l a b' ks'→ks=ks'→b=b'
  | .nil,.nil,_=>rfl
  | .nil,.snoc _ _ _ _,e=>by simp at e
  | .snoc _ _ _ _,.nil,e=>by simp at e
  | .snoc h1 _ _ h2, .snoc h1' _ _ h2', e => by
    obtain ⟨e1,e2⟩:=List.append_inj' e rfl
    have e3:=BTs.uniq h1 h1' e1
    subst e3
    exact BT.uniq h2 h2' (by simpa using e2)
end
def kidsC (ks:List (List PV)):AV:=match ks with
 | [] => .nils
 | _::_ => .own true 0 ks.length
theorem kidsC_m (r:List Nat) (ks:List (List PV)):mentions r (kidsC ks)=false:=by cases ks <;> simp [kidsC,mentions]
def kidsG (ks:List (List PV)):List AObj:=match ks with
 | []=>[]
 | _::_=>[.pcells 5 ks]
def buildL (x:GRow) (ks:List (List PV)):List (Nat × AObj):=[(4,.pcells 5 [[.str [],.str [],.str [],.list [],.list []]]),(7,.cells 5 [[.p (.str x.tag),.p (.str x.key),.p (.str x.text),.p (.list (x.attrs.map Attr.pv)),kidsC ks]]),(1000,.pcells 5 [])]
def buildS (l:List GRow) (a:Nat) (x:GRow) (nx:Nat) (ks:List (List PV)):St:=⟨[(0,.p (.list (l.map GRow.pv))),(1,.p (.int .i64 a)),(4,.ptr false 4 5 1 0 0),(7,.ptr false 7 5 1 0 0),(8,.p (.int .i64 nx))],buildL x ks,kidsG ks⟩
def buildQ (l:List GRow) (a:Nat) (x:GRow) (r:Ex × St):Prop:=∃ nx ks,BTs l a nx ks∧(∀ y,l[nx]? = some y→y.up≠(a:Int)+1)∧r=(.exit 0,⟨[(4,.ptr false 4 5 1 0 0),(7,.ptr false 7 5 1 0 0),(8,.p (.int .i64 nx))],buildL x ks,kidsG ks⟩)
end Go.TA.Tryz


end
section
/- An operation with the fields alone that its kind uses. -/
namespace Go.TA.Tryz
theorem used1_run (x:GOp) (hk:x.kind=1) (g:List AObj) (n:Nat):acall T (n+1) 115 [.p (.agg x.pv)] g=some (.p (.agg (used1 x).pv),g):=by
 rw [acall_code T115,run_pure rfl rfl rfl]
 simp -implicitDefEqProofs (disch:=omega) only [Rx,simprocAttr,F115,GOp.pv,attrsPV,used1,hk,attrs_same]
theorem used2_run (x:GOp) (hk:x.kind=2) (g:List AObj) (n:Nat):acall T (n+1) 115 [.p (.agg x.pv)] g=some (.p (.agg (used2 x).pv),g):=by
 rw [acall_code T115,run_pure rfl rfl rfl]
 simp -implicitDefEqProofs (disch:=omega) only [Rx,simprocAttr,F115,GOp.pv,attrsPV,used2,hk]
theorem used3_run (x:GOp) (hk:x.kind=3) (g:List AObj) (n:Nat):acall T (n+1) 115 [.p (.agg x.pv)] g=some (.p (.agg (used3 x).pv),g):=by
 rw [acall_code T115,run_pure rfl rfl rfl]
 simp -implicitDefEqProofs (disch:=omega) only [Rx,simprocAttr,F115,GOp.pv,attrsPV,used3,hk]
theorem used4_run (x:GOp) (hk:x.kind=4) (g:List AObj) (n:Nat):acall T (n+1) 115 [.p (.agg x.pv)] g=some (.p (.agg (used4 x).pv),g):=by
 rw [acall_code T115,run_pure rfl rfl rfl]
 simp -implicitDefEqProofs (disch:=omega) only [Rx,simprocAttr,F115,GOp.pv,attrsPV,used4,hk]
theorem used5_run (x:GOp) (hk:x.kind=5) (g:List AObj) (n:Nat):acall T (n+1) 115 [.p (.agg x.pv)] g=some (.p (.agg (used5 x).pv),g):=by
 rw [acall_code T115,run_pure rfl rfl rfl]
 simp -implicitDefEqProofs (disch:=omega) only [Rx,simprocAttr,F115,GOp.pv,attrsPV,used5,hk]
theorem used6_run (x:GOp) (hk:x.kind=6) (g:List AObj) (n:Nat):acall T (n+1) 115 [.p (.agg x.pv)] g=some (.p (.agg (used6 x).pv),g):=by
 rw [acall_code T115,run_pure rfl rfl rfl]
 simp -implicitDefEqProofs (disch:=omega) only [Rx,simprocAttr,F115,GOp.pv,attrsPV,used6,hk]
theorem used7_run (x:GOp) (hk:x.kind=7) (g:List AObj) (n:Nat):acall T (n+1) 115 [.p (.agg x.pv)] g=some (.p (.agg (used7 x).pv),g):=by
 rw [acall_code T115,run_pure rfl rfl rfl]
 simp -implicitDefEqProofs (disch:=omega) only [Rx,simprocAttr,F115,GOp.pv,attrsPV,used7,hk]
theorem used_run (x:GOp) (h1:1≤x.kind) (h7:x.kind≤7) (g:List AObj) (n:Nat):acall T (n+1) 115 [.p (.agg x.pv)] g=some (.p (.agg (usedOp x).pv),g):=by
 by_cases k1:x.kind=1
 ·rw [used1_run x k1];simp [usedOp,k1]
 by_cases k2:x.kind=2
 ·rw [used2_run x k2];simp [usedOp,k2]
 by_cases k3:x.kind=3
 ·rw [used3_run x k3];simp [usedOp,k3]
 by_cases k4:x.kind=4
 ·rw [used4_run x k4];simp [usedOp,k4]
 by_cases k5:x.kind=5
 ·rw [used5_run x k5];simp [usedOp,k5]
 by_cases k6:x.kind=6
 ·rw [used6_run x k6];simp [usedOp,k6]
 by_cases k7:x.kind=7
 ·rw [used7_run x k7];simp [usedOp,k7]
 omega
end Go.TA.Tryz


end
section
/- Does an operation have a field that its kind does not use? The document's answer. -/
namespace Go.TA.Tryz
theorem none1_run (x:GOp) (hk:x.kind=1) (g:List AObj) (n:Nat):acall T (n+1) 62 [.p (.agg x.pv)] g=some (.p (.bool (none1 x)),g):=by
 rw [acall_code T62,run_pure rfl rfl rfl]
 simp only [none1,nzI,nzS,nzA]
 cases h0:(x.node==0)
 ·simp -implicitDefEqProofs (disch:=omega) only [Rx,simprocAttr,F62,GOp.pv,attrsPV,hk,h0]
 cases h1:(x.up==0)
 ·simp -implicitDefEqProofs (disch:=omega) only [Rx,simprocAttr,F62,GOp.pv,attrsPV,hk,h0,h1]
 cases h2:(x.before==0)
 ·simp -implicitDefEqProofs (disch:=omega) only [Rx,simprocAttr,F62,GOp.pv,attrsPV,hk,h0,h1,h2]
 cases h3:(x.name==[])
 ·simp -implicitDefEqProofs (disch:=omega) only [Rx,simprocAttr,F62,GOp.pv,attrsPV,hk,h0,h1,h2,h3]
 simp -implicitDefEqProofs (disch:=omega) only [Rx,simprocAttr,F62,GOp.pv,attrsPV,hk,h0,h1,h2,h3]
theorem none2_run (x:GOp) (hk:x.kind=2) (g:List AObj) (n:Nat):acall T (n+1) 62 [.p (.agg x.pv)] g=some (.p (.bool (none2 x)),g):=by
 rw [acall_code T62,run_pure rfl rfl rfl]
 simp only [none2,nzI,nzS,nzA]
 cases h0:(x.tag==[])
 ·simp -implicitDefEqProofs (disch:=omega) only [Rx,simprocAttr,F62,GOp.pv,attrsPV,hk,h0]
 cases h1:(x.key==[])
 ·simp -implicitDefEqProofs (disch:=omega) only [Rx,simprocAttr,F62,GOp.pv,attrsPV,hk,h0,h1]
 by_cases h2:0<(x.attrs.length:Int)
 ·simp -implicitDefEqProofs (disch:=omega) only [Rx,simprocAttr,F62,GOp.pv,attrsPV,hk,h0,h1,h2]
 cases h3:(x.name==[])
 ·simp -implicitDefEqProofs (disch:=omega) only [Rx,simprocAttr,F62,GOp.pv,attrsPV,hk,h0,h1,h2,h3]
 cases h4:(x.text==[])
 ·simp -implicitDefEqProofs (disch:=omega) only [Rx,simprocAttr,F62,GOp.pv,attrsPV,hk,h0,h1,h2,h3,h4]
 simp -implicitDefEqProofs (disch:=omega) only [Rx,simprocAttr,F62,GOp.pv,attrsPV,hk,h0,h1,h2,h3,h4]
theorem none3_run (x:GOp) (hk:x.kind=3) (g:List AObj) (n:Nat):acall T (n+1) 62 [.p (.agg x.pv)] g=some (.p (.bool (none3 x)),g):=by
 rw [acall_code T62,run_pure rfl rfl rfl]
 simp only [none3,nzI,nzS,nzA]
 cases h0:(x.tag==[])
 ·simp -implicitDefEqProofs (disch:=omega) only [Rx,simprocAttr,F62,GOp.pv,attrsPV,hk,h0]
 cases h1:(x.key==[])
 ·simp -implicitDefEqProofs (disch:=omega) only [Rx,simprocAttr,F62,GOp.pv,attrsPV,hk,h0,h1]
 by_cases h2:0<(x.attrs.length:Int)
 ·simp -implicitDefEqProofs (disch:=omega) only [Rx,simprocAttr,F62,GOp.pv,attrsPV,hk,h0,h1,h2]
 cases h3:(x.up==0)
 ·simp -implicitDefEqProofs (disch:=omega) only [Rx,simprocAttr,F62,GOp.pv,attrsPV,hk,h0,h1,h2,h3]
 cases h4:(x.name==[])
 ·simp -implicitDefEqProofs (disch:=omega) only [Rx,simprocAttr,F62,GOp.pv,attrsPV,hk,h0,h1,h2,h3,h4]
 cases h5:(x.text==[])
 ·simp -implicitDefEqProofs (disch:=omega) only [Rx,simprocAttr,F62,GOp.pv,attrsPV,hk,h0,h1,h2,h3,h4,h5]
 simp -implicitDefEqProofs (disch:=omega) only [Rx,simprocAttr,F62,GOp.pv,attrsPV,hk,h0,h1,h2,h3,h4,h5]
end Go.TA.Tryz


end
section
/- Does an operation have a field that its kind does not use? The document's answer. -/
namespace Go.TA.Tryz
theorem none4_run (x:GOp) (hk:x.kind=4) (g:List AObj) (n:Nat):acall T (n+1) 62 [.p (.agg x.pv)] g=some (.p (.bool (none4 x)),g):=by
 rw [acall_code T62,run_pure rfl rfl rfl]
 simp only [none4,nzI,nzS,nzA]
 cases h0:(x.tag==[])
 ·simp -implicitDefEqProofs (disch:=omega) only [Rx,simprocAttr,F62,GOp.pv,attrsPV,hk,h0]
 cases h1:(x.key==[])
 ·simp -implicitDefEqProofs (disch:=omega) only [Rx,simprocAttr,F62,GOp.pv,attrsPV,hk,h0,h1]
 by_cases h2:0<(x.attrs.length:Int)
 ·simp -implicitDefEqProofs (disch:=omega) only [Rx,simprocAttr,F62,GOp.pv,attrsPV,hk,h0,h1,h2]
 cases h3:(x.up==0)
 ·simp -implicitDefEqProofs (disch:=omega) only [Rx,simprocAttr,F62,GOp.pv,attrsPV,hk,h0,h1,h2,h3]
 cases h4:(x.before==0)
 ·simp -implicitDefEqProofs (disch:=omega) only [Rx,simprocAttr,F62,GOp.pv,attrsPV,hk,h0,h1,h2,h3,h4]
 cases h5:(x.name==[])
 ·simp -implicitDefEqProofs (disch:=omega) only [Rx,simprocAttr,F62,GOp.pv,attrsPV,hk,h0,h1,h2,h3,h4,h5]
 cases h6:(x.text==[])
 ·simp -implicitDefEqProofs (disch:=omega) only [Rx,simprocAttr,F62,GOp.pv,attrsPV,hk,h0,h1,h2,h3,h4,h5,h6]
 simp -implicitDefEqProofs (disch:=omega) only [Rx,simprocAttr,F62,GOp.pv,attrsPV,hk,h0,h1,h2,h3,h4,h5,h6]
theorem none5_run (x:GOp) (hk:x.kind=5) (g:List AObj) (n:Nat):acall T (n+1) 62 [.p (.agg x.pv)] g=some (.p (.bool (none5 x)),g):=by
 rw [acall_code T62,run_pure rfl rfl rfl]
 simp only [none5,nzI,nzS,nzA]
 cases h0:(x.tag==[])
 ·simp -implicitDefEqProofs (disch:=omega) only [Rx,simprocAttr,F62,GOp.pv,attrsPV,hk,h0]
 cases h1:(x.key==[])
 ·simp -implicitDefEqProofs (disch:=omega) only [Rx,simprocAttr,F62,GOp.pv,attrsPV,hk,h0,h1]
 by_cases h2:0<(x.attrs.length:Int)
 ·simp -implicitDefEqProofs (disch:=omega) only [Rx,simprocAttr,F62,GOp.pv,attrsPV,hk,h0,h1,h2]
 cases h3:(x.up==0)
 ·simp -implicitDefEqProofs (disch:=omega) only [Rx,simprocAttr,F62,GOp.pv,attrsPV,hk,h0,h1,h2,h3]
 cases h4:(x.before==0)
 ·simp -implicitDefEqProofs (disch:=omega) only [Rx,simprocAttr,F62,GOp.pv,attrsPV,hk,h0,h1,h2,h3,h4]
 simp -implicitDefEqProofs (disch:=omega) only [Rx,simprocAttr,F62,GOp.pv,attrsPV,hk,h0,h1,h2,h3,h4]
end Go.TA.Tryz


end
section
/- Does an operation have a field that its kind does not use? The document's answer. -/
namespace Go.TA.Tryz
theorem none6_run (x:GOp) (hk:x.kind=6) (g:List AObj) (n:Nat):acall T (n+1) 62 [.p (.agg x.pv)] g=some (.p (.bool (none6 x)),g):=by
 rw [acall_code T62,run_pure rfl rfl rfl]
 simp only [none6,nzI,nzS,nzA]
 cases h0:(x.tag==[])
 ·simp -implicitDefEqProofs (disch:=omega) only [Rx,simprocAttr,F62,GOp.pv,attrsPV,hk,h0]
 cases h1:(x.key==[])
 ·simp -implicitDefEqProofs (disch:=omega) only [Rx,simprocAttr,F62,GOp.pv,attrsPV,hk,h0,h1]
 by_cases h2:0<(x.attrs.length:Int)
 ·simp -implicitDefEqProofs (disch:=omega) only [Rx,simprocAttr,F62,GOp.pv,attrsPV,hk,h0,h1,h2]
 cases h3:(x.up==0)
 ·simp -implicitDefEqProofs (disch:=omega) only [Rx,simprocAttr,F62,GOp.pv,attrsPV,hk,h0,h1,h2,h3]
 cases h4:(x.before==0)
 ·simp -implicitDefEqProofs (disch:=omega) only [Rx,simprocAttr,F62,GOp.pv,attrsPV,hk,h0,h1,h2,h3,h4]
 cases h5:(x.text==[])
 ·simp -implicitDefEqProofs (disch:=omega) only [Rx,simprocAttr,F62,GOp.pv,attrsPV,hk,h0,h1,h2,h3,h4,h5]
 simp -implicitDefEqProofs (disch:=omega) only [Rx,simprocAttr,F62,GOp.pv,attrsPV,hk,h0,h1,h2,h3,h4,h5]
theorem none7_run (x:GOp) (hk:x.kind=7) (g:List AObj) (n:Nat):acall T (n+1) 62 [.p (.agg x.pv)] g=some (.p (.bool (none7 x)),g):=by
 rw [acall_code T62,run_pure rfl rfl rfl]
 simp only [none7,nzI,nzS,nzA]
 cases h0:(x.tag==[])
 ·simp -implicitDefEqProofs (disch:=omega) only [Rx,simprocAttr,F62,GOp.pv,attrsPV,hk,h0]
 cases h1:(x.key==[])
 ·simp -implicitDefEqProofs (disch:=omega) only [Rx,simprocAttr,F62,GOp.pv,attrsPV,hk,h0,h1]
 by_cases h2:0<(x.attrs.length:Int)
 ·simp -implicitDefEqProofs (disch:=omega) only [Rx,simprocAttr,F62,GOp.pv,attrsPV,hk,h0,h1,h2]
 cases h3:(x.up==0)
 ·simp -implicitDefEqProofs (disch:=omega) only [Rx,simprocAttr,F62,GOp.pv,attrsPV,hk,h0,h1,h2,h3]
 cases h4:(x.before==0)
 ·simp -implicitDefEqProofs (disch:=omega) only [Rx,simprocAttr,F62,GOp.pv,attrsPV,hk,h0,h1,h2,h3,h4]
 cases h5:(x.name==[])
 ·simp -implicitDefEqProofs (disch:=omega) only [Rx,simprocAttr,F62,GOp.pv,attrsPV,hk,h0,h1,h2,h3,h4,h5]
 simp -implicitDefEqProofs (disch:=omega) only [Rx,simprocAttr,F62,GOp.pv,attrsPV,hk,h0,h1,h2,h3,h4,h5]
end Go.TA.Tryz


end
section
/- Does an operation have a field that its kind does not use? The document's answer. -/
namespace Go.TA.Tryz
theorem none_run (x:GOp) (h1:1≤x.kind) (h7:x.kind≤7) (g:List AObj) (n:Nat):acall T (n+1) 62 [.p (.agg x.pv)] g=some (.p (.bool (noneB x)),g):=by
 by_cases k1:x.kind=1
 ·rw [none1_run x k1];simp [noneB,k1]
 by_cases k2:x.kind=2
 ·rw [none2_run x k2];simp [noneB,k2]
 by_cases k3:x.kind=3
 ·rw [none3_run x k3];simp [noneB,k3]
 by_cases k4:x.kind=4
 ·rw [none4_run x k4];simp [noneB,k4]
 by_cases k5:x.kind=5
 ·rw [none5_run x k5];simp [noneB,k5]
 by_cases k6:x.kind=6
 ·rw [none6_run x k6];simp [noneB,k6]
 by_cases k7:x.kind=7
 ·rw [none7_run x k7];simp [noneB,k7]
 omega
end Go.TA.Tryz


end
