/- Part 10 of 14 of a proof; joined from InsAttr, PdmTab, PdmDLink, DChain, PdmDPlace, PdmNames, PdmAttrsP, PdmCloneA, PdmMAttr, GoingDef, PdmMDelA, PdmDocOps. A document's nodes are found; its attributes and texts turn; it tells what comes next. -/
import Derived.Test.YtbgbmdjfogohnaaGreatDoorPd9
import Derived.Test.YtbgbmdjfogohnaaGreatDoorProg
import Derived.Shelf.Spec.SlicesInsert
import Derived.Shelf.Spec.SlicesInsertGrow
import Derived.Test.YtbgbmdjfogohnaaGreatDoorPd8
import Derived.Test.YtbgbmdjfogohnaaGreatDoorPd6
import Derived.KernelRfl
import Derived.Test.YtbgbmdjfogohnaaGreatDoorShelfItoa
import Derived.Test.YtbgbmdjfogohnaaGreatDoorShelfinternalstringsliteIndexByte
import Derived.Test.YtbgbmdjfogohnaaGreatDoorShelfstringsIndexByte
import Derived.Test.YtbgbmdjfogohnaaGreatDoorPd1
import Derived.Test.YtbgbmdjfogohnaaGreatDoorPd7
set_option linter.unusedSimpArgs false
set_option linter.unusedVariables false
set_option linter.defProp false
set_option maxRecDepth 100000
set_option maxHeartbeats 8000000
section
/- slices.Insert at api.Attr: its roads, and what it is. -/
namespace Go.TA.Tryz
open Go.Shelf Go.RowKit Go.Lib Go.Proofs
def c1w:Value:=.agg #[.string ⟨#[]⟩,.string ⟨#[]⟩]
set_option maxHeartbeats 4000000 in
set_option maxRecDepth 100000 in
theorem g2w (b n c i vb voff m vc : Nat) (cs vs : List Value) (w : World) (hi : i < n) (hm : 0 < m) (hroom : n + m ≤ c) (hc63 : c ≤ 9223372036854775807) (hvb : vb ≠ b)
    (hcl:cs.length=n*2) (hvl:vs.length=m*2)
    (hcs:∀ j v,cs[j]? = some v→w.cell? ⟨b,j,none⟩=some v) (hsp:∀ j,j<(n+m)*2→(w.cell? ⟨b,j,none⟩).isSome=true) (hfz:∀ j,j<(n+m)*2→w.frozen? ⟨b,j,none⟩=false)
    (hvs:∀ j v,vs[j]? = some v→w.cell? ⟨vb,voff+j,none⟩=some v) (h1c:∀ v ∈ cs,v.oneCell'=true) (h1v:∀ v ∈ vs,v.oneCell'=true)
    (tA tB:TypeId) (kA kB:Nat) (hsa:w.shape? vb=some (tA,kA)) (hsb:w.shape? b=some (tB,kB)) (hkA:kA≠0) (hfb:∀ j,w.frozen? ⟨b,j,none⟩=false) :
    Calls Go.Proofs.Tryz.prog 172 #[.slice (some ⟨b,0,none⟩) n c,.int .i64 i,.slice (some ⟨vb,voff,none⟩) m vc] w fun e w'=>
      e = .returned (.slice (some ⟨b,0,none⟩) (n+m) c)∧w'=(w.drew.setCells b ((i+m)*2) (cs.drop (i*2))).setCells b (i*2) vs:=by
  have c1m:Go.Proofs.Tryz.prog.follows .mixedOrders=true:=by kernel_rfl
  have hz1:¬ ((m:Int)=0):=by omega
  have hz2:¬ ((i:Int)=(n:Int)):=by omega
  have hov:∀ lb cb,(callFunc 201 #[.slice (some ⟨vb,voff,none⟩) m vc,.slice (some ⟨b,(i+m)*2,none⟩) lb cb]).run Go.Proofs.Tryz.prog w = .ok (.value (.bool false)) w:=fun lb cb=>by
    rw [run_callFunc_extern Tryz.func201 (by kernel_rfl) (by kernel_rfl) (by kernel_rfl) (e:=Extern.SlicesOverlaps.overlaps #[34,34] #[4]) (by kernel_rfl),
      b9o w 34 4 82 Tryz.underlying34 2 (fun w=>by kernel_rfl) ⟨vb,voff,none⟩ ⟨b,(i+m)*2,none⟩ m vc lb cb hvb tA tB kA kB hsa hsb hkA (hfb _) (hfb _)]
    rfl
  have hsz:(Go.Proofs.Tryz.prog.info? 82).map (·.size)=some 2:=by kernel_rfl
  have hw1:IntKind.i64.wrap ((i:Int)+(m:Int))=(i:Int)+(m:Int):=by rw [IntKind.wrap_i64];omega
  have hb1:(0:Int)≤(i:Int)+(m:Int):=by omega
  have hin:i≤n:=by omega
  have htn:((i:Int)+(m:Int)).toNat=i+m:=by omega
  have hb2:¬ (c=i+m):=by omega
  have hb3:(i:Int)≤(n:Int)+(m:Int):=by omega
  have hb4:¬ (c=i):=by omega
  have hdl:(cs.drop (i*2)).length=(n - i)*2:=by rw [List.length_drop];omega
  have hcp1:∀ ty dc sc,(Builtin.copy_ #[34,34] ty #[.slice (some ⟨b,(i+m)*2,none⟩) (n+m - (i+m)) dc,.slice (some ⟨b,i*2,none⟩) (n+m - i) sc]).run Go.Proofs.Tryz.prog w.drew = .ok (goInt (Nat.min (n+m - i) (n+m - (i+m)))) (w.drew.setCells b ((i+m)*2) (cs.drop (i*2))):=fun ty dc sc=>
    b4v w.drew _ _ ty 82 2 b ((i+m)*2) (n+m - (i+m)) dc ⟨b,i*2,none⟩ (n+m - i) sc (cs.drop (i*2)) Tryz.underlying34 hsz (by rw [hdl];simp only [Nat.min_def];split <;> omega)
      (fun j v hj=>by rw [Addr.add_lit];exact hcs (i*2+j) v (by rwa [List.getElem?_drop] at hj))
      (fun j hj=>hsp _ (by omega)) (fun j hj=>hfz _ (by omega)) (fun v hv=>h1c v (List.mem_of_mem_drop hv))
  obtain ⟨W1,hW1⟩:∃ W1,W1=w.drew.setCells b ((i+m)*2) (cs.drop (i*2)):=⟨_,rfl⟩
  have hsp1:∀ k,k<(n+m)*2→(W1.cell? ⟨b,k,none⟩).isSome=true:=fun k hk=>by
    rw [hW1]
    exact isSome_setCells b (cs.drop (i*2)) ((i+m)*2) w.drew (fun j hj=>hsp ((i+m)*2+j) (by rw [hdl] at hj;omega)) k (hsp k hk)
  have hcp2:∀ (W:World),(∀ x,W.cell? x=W1.cell? x)→(∀ x,W.frozen? x=W1.frozen? x)→∀ ty dc,(Builtin.copy_ #[34,34] ty #[.slice (some ⟨b,i*2,none⟩) (n+m - i) dc,.slice (some ⟨vb,voff,none⟩) m vc]).run Go.Proofs.Tryz.prog W = .ok (goInt (Nat.min m (n+m - i))) (W.setCells b (i*2) vs):=fun W hWc hWf ty dc=>
    b4v W _ _ ty 82 2 b (i*2) (n+m - i) dc ⟨vb,voff,none⟩ m vc vs Tryz.underlying34 hsz (by rw [hvl];simp only [Nat.min_def];split <;> omega)
      (fun j v hj=>by
        rw [Addr.add_lit,hWc,hW1,World.cell?_setCells_out b _ _ _ _ (fun h _=>absurd h hvb)]
        exact hvs j v hj)
      (fun j hj=>by rw [hWc];exact hsp1 _ (by omega)) (fun j hj=>by rw [hWf,hW1,World.frozen?_setCells];exact hfz _ (by omega)) h1v
  rw [← hW1] at hcp1
  go_enter Tryz.func172,Tryz.ntmps172
  go_wp2_with (simp only [hov])
  go_region_law_o (refine step_copy_runI rfl _ _ 34 34 rfl _ _ (by simp [Act.eval,Act.put]) (by simp [Act.eval,Act.put]) (hcp1 _ _ _) ?_)
  go_wp2_with (at_builtin;refine wpList_copy_runI _ rfl _ _ 34 34 rfl _ _ rfl rfl (hcp2 _ (fun _=>rfl) (fun _=>rfl) _ _) ?_)
  go_ret
  first | exact ⟨rfl,rfl⟩ | exact ⟨rfl,by rw [hW1]⟩
set_option maxHeartbeats 4000000 in
set_option maxRecDepth 100000 in
theorem d2w (b n c vb voff m vc:Nat) (vs:List Value) (w:World) (hm:0<m) (hroom:n+m≤c) (hc63:c≤9223372036854775807) (hvl:vs.length=m*2)
  (hsp:∀ j,j<m*2→(w.cell? ⟨b,n*2+j,none⟩).isSome=true) (hfz:∀ j,j<m*2→w.frozen? ⟨b,n*2+j,none⟩=false)
  (hvs:∀ j v,vs[j]? = some v→w.cell? ⟨vb,voff+j,none⟩=some v) (h1v:∀ v ∈ vs,v.oneCell'=true) :
  Calls Go.Proofs.Tryz.prog 172 #[.slice (some ⟨b,0,none⟩) n c,.int .i64 n,.slice (some ⟨vb,voff,none⟩) m vc] w fun e w'=>
   e = .returned (.slice (some ⟨b,0,none⟩) (n+m) c)∧w'=w.setCells b (n*2) vs:=by
 have c1m:Go.Proofs.Tryz.prog.follows .mixedOrders=true:=by kernel_rfl
 have hz1:¬ ((m:Int)=0):=by omega
 obtain ⟨i0,hi0,hs0⟩:∃ i,Go.Proofs.Tryz.prog.info? 82=some i∧i.size=2:=⟨_,rfl,rfl⟩
 have hsrc:Src Go.Proofs.Tryz.prog i0.size 34 (.slice (some ⟨vb,voff,none⟩) m vc) m vs w:=Src.ofSlice w Tryz.underlying34 ⟨vb,voff,none⟩ m vc vs (by rw [hs0];omega) (fun j u hj=>by rw [Addr.add_lit];exact hvs j u hj) h1v
 go_enter Tryz.func172,Tryz.ntmps172
 go_wp2_with (at_builtin;refine wpList_append_room_src _ rfl _ _ 34 34 rfl 82 i0 Tryz.underlying34 hi0 b 0 n c rfl _ rfl m vs hsrc hroom (by rw [hs0,Nat.zero_add,hvl];first | exact hsp | simpa using hsp) (by rw [hs0,Nat.zero_add,hvl];first | exact hfz | simpa using hfz) ?_)
 go_ret
 first | exact ⟨rfl,rfl⟩ | exact ⟨rfl,by rw [hs0,Nat.zero_add]⟩ | exact ⟨rfl,by rw [hs0,Nat.zero_add,Nat.mul_one]⟩
set_option maxHeartbeats 4000000 in
set_option maxRecDepth 100000 in
theorem d2y (base:Option Addr) (n c vb voff m vc:Nat) (cs vs:List Value) (w:World) (hm:0<m) (hnc:n≤c) (hroom:c<n+m) (hbig:(n+m)*32≤140737488355328)
    (hcl:cs.length=n*2) (hvl:vs.length=m*2) (hnil:base=none→n=0)
    (hcs:∀ a,base=some a→∀ j v,cs[j]? = some v→w.cell? (a.add j)=some v)
    (hvs:∀ j v,vs[j]? = some v→w.cell? ⟨vb,voff+j,none⟩=some v) (h1v:∀ v ∈ vs,v.oneCell'=true) :
    Calls Go.Proofs.Tryz.prog 172 #[.slice base n c,.int .i64 n,.slice (some ⟨vb,voff,none⟩) m vc] w fun e w'=>
      e = .returned (.slice (some ⟨w.heap.size,0,none⟩) (n+m) (grownCap w (n+m) c 82)) ∧
      w'=w.drew.alloc (.cells ((cs++vs).toArray++Builtin.zeroCells c1w.cells (grownCap w (n+m) c 82 - (n+m))) 82):=by
  have c1m:Go.Proofs.Tryz.prog.follows .mixedOrders=true:=by kernel_rfl
  have hz1:¬ ((m:Int)=0):=by omega
  obtain ⟨i0,hi0,hs0,hz0,hb0⟩:∃ i,Go.Proofs.Tryz.prog.info? 82=some i∧i.size=2∧i.zero=some c1w∧i.bytes=32:=⟨_,rfl,rfl,rfl,rfl⟩
  have hsrc:Src Go.Proofs.Tryz.prog i0.size 34 (.slice (some ⟨vb,voff,none⟩) m vc) m vs w:=Src.ofSlice w Tryz.underlying34 ⟨vb,voff,none⟩ m vc vs (by rw [hs0];omega) (fun j u hj=>by rw [Addr.add_lit];exact hvs j u hj) h1v
  have hold:(Builtin.firstCells i0.size n (.slice base n c)).run Go.Proofs.Tryz.prog w.drew = .ok cs.toArray w.drew:=by
    rw [hs0]
    cases base with
    | none =>
      have h0:=hnil rfl
      subst h0
      have hc0:cs=[]:=List.length_eq_zero_iff.1 (by simpa using hcl)
      rw [hc0]
      exact run_firstCells_none w.drew 2 0 0 c
    | some a=>exact run_firstCells_some w.drew 2 n a n c cs (by omega) (fun j v hj=>hcs a rfl j v hj)
  have hrun:∀ ty,(Builtin.append_ #[34,34] ty #[.slice base n c,.slice (some ⟨vb,voff,none⟩) m vc]).run Go.Proofs.Tryz.prog w=_:=fun ty=>
    run_append_grow_src w 34 34 ty 82 i0 c1w Tryz.underlying34 hi0 hz0 base n c cs hold _ m vs hsrc hroom (by omega) (by rw [hb0];exact growslice_fits hroom hbig)
  go_enter Tryz.func172,Tryz.ntmps172
  cases base with
  | none =>
    have h0:=hnil rfl
    subst h0
    go_wp2_with (at_builtin;refine Lib.wpList_append_run _ rfl _ _ _ _ rfl _ _ rfl rfl _ _ (hrun _) ?_)
    go_ret
    exact ⟨rfl,rfl⟩
  | some a =>
    obtain ⟨ab,ao,asp⟩:=a
    go_wp2_with (at_builtin;refine Lib.wpList_append_run _ rfl _ _ _ _ rfl _ _ rfl rfl _ _ (hrun _) ?_)
    all_goals (go_ret;exact ⟨rfl,rfl⟩)
set_option maxHeartbeats 4000000 in
set_option maxRecDepth 100000 in
theorem g7w (b n c i vb voff m vc : Nat) (cs vs : List Value) (w : World) (hi : i < n) (hm : 0 < m) (hnc : n ≤ c) (hroom : c < n + m) (hbig : (n + m) * 32 ≤ 140737488355328)
    (hcl:cs.length=n*2) (hvl:vs.length=m*2)
    (hcs:∀ j v,cs[j]? = some v→w.cell? ⟨b,j,none⟩=some v)
    (hvs:∀ j v,vs[j]? = some v→w.cell? ⟨vb,voff+j,none⟩=some v) (h1c:∀ v ∈ cs,v.oneCell'=true) (h1v:∀ v ∈ vs,v.oneCell'=true) :
    Calls Go.Proofs.Tryz.prog 172 #[.slice (some ⟨b,0,none⟩) n c,.int .i64 i,.slice (some ⟨vb,voff,none⟩) m vc] w fun e w'=>
      e = .returned (.slice (some ⟨w.heap.size,0,none⟩) (n+m) (grownCap w (n+m) c 82)) ∧
      w'=(((w.alloc (.cells ((cs.take (i*2)).toArray++Builtin.zeroCells c1w.cells (n+m - i)++Builtin.zeroCells c1w.cells (grownCap w (n+m) c 82 - (n+m))) 82)).drew.setCells w.heap.size (i*2) vs).drew).setCells w.heap.size ((i+m)*2) (cs.drop (i*2)):=by
  have c1m:Go.Proofs.Tryz.prog.follows .mixedOrders=true:=by kernel_rfl
  obtain ⟨i0,hi0,hzs,hz0,hzb⟩:∃ i,Go.Proofs.Tryz.prog.info? 82=some i∧i.size=2∧i.zero=some c1w∧i.bytes=32:=⟨_,rfl,rfl,rfl,rfl⟩
  have hz1:¬ ((m:Int)=0):=by omega
  have hz2:¬ ((i:Int)=(n:Int)):=by omega
  have hz3:(c:Int)<(n:Int)+(m:Int):=by omega
  have hsz:(Go.Proofs.Tryz.prog.info? 82).map (·.size)=some 2:=by kernel_rfl
  have hbw:b<w.heap.size:=block_lt_of_cell (hcs 0 _ (List.getElem?_eq_getElem (by omega)))
  have hvw:vb<w.heap.size:=block_lt_of_cell (hvs 0 _ (List.getElem?_eq_getElem (by omega)))
  have hkk:(n:Int)+(m:Int) - (i:Int)=((n+m - i:Nat):Int):=by omega
  have hik:i+(n+m - i)=n+m:=by omega
  have hold:(Builtin.firstCells i0.size i (.slice (some ⟨b,0,none⟩) i c)).run Go.Proofs.Tryz.prog w.drew = .ok (cs.take (i*2)).toArray w.drew:=by
    rw [hzs]
    exact run_firstCells_some w.drew 2 i ⟨b,0,none⟩ i c (cs.take (i*2)) (by rw [List.length_take];omega) (fun j v hj=>by
      rw [Addr.add_lit,Nat.zero_add]
      rw [List.getElem?_take] at hj
      split at hj
      · exact hcs j v hj
      · cases hj)
  have hrz:∀ ty,(Builtin.append_ #[34,3] ty #[.slice (some ⟨b,0,none⟩) i c,.int .i64 ((n:Int)+(m:Int) - (i:Int))]).run Go.Proofs.Tryz.prog w =
      .ok (.slice (some ⟨w.heap.size,0,none⟩) (n+m) (grownCap w (n+m) c 82)) (w.drew.alloc (.cells ((cs.take (i*2)).toArray++Builtin.zeroCells c1w.cells (n+m - i)++Builtin.zeroCells c1w.cells (grownCap w (n+m) c 82 - (n+m))) 82)):=fun ty=>by
    have h:=Lib.run_append_grow_zeros w 34 3 ty 82 i0 c1w .i64 .i64 Tryz.underlying34 Tryz.underlying3 hi0 hz0 (some ⟨b,0,none⟩) i c (cs.take (i*2)) hold (n+m - i) (by omega) (by omega) (by omega) (by omega) (by rw [hzb];omega) (by rw [hzb,hik];exact growslice_fits hroom hbig)
    rw [hik] at h
    rw [hkk]
    exact h
  obtain ⟨G,hG⟩:∃ G,G=grownCap w (n+m) c 82:=⟨_,rfl⟩
  obtain ⟨ROW,hROW⟩:∃ ROW:Array Value,ROW=(cs.take (i*2)).toArray++Builtin.zeroCells c1w.cells (n+m - i)++Builtin.zeroCells c1w.cells (G - (n+m)):=⟨_,rfl⟩
  rw [← hG] at hrz ⊢
  rw [← hROW] at hrz ⊢
  have hRl:(n+m)*2≤ROW.size:=by
    rw [hROW]
    simp [Builtin.zeroCells,Value.cells,c1w]
    omega
  obtain ⟨W1,hW1⟩:∃ W1,W1=w.drew.alloc (.cells ROW 82):=⟨_,rfl⟩
  rw [← hW1] at hrz
  have hN:∀ j,j<(n+m)*2→(W1.cell? ⟨w.heap.size,j,none⟩).isSome=true:=fun j hj=>by
    rw [hW1,World.cell?_alloc_at (w:=w.drew) ROW _ w.heap.size j rfl,Array.getElem?_eq_getElem (by omega)];rfl
  have hNf:∀ j,W1.frozen? ⟨w.heap.size,j,none⟩=false:=fun j=>by rw [hW1];exact World.frozen?_alloc_at (w:=w.drew) ROW _ w.heap.size j rfl
  have hOb:∀ j v,w.cell? ⟨b,j,none⟩=some v→W1.cell? ⟨b,j,none⟩=some v:=fun j v h=>by rw [hW1,World.cell?_alloc_past (w:=w.drew) _ b j hbw];exact h
  have hOv:∀ j v,w.cell? ⟨vb,voff+j,none⟩=some v→W1.cell? ⟨vb,voff+j,none⟩=some v:=fun j v h=>by rw [hW1,World.cell?_alloc_past (w:=w.drew) _ vb (voff+j) hvw];exact h
  have hcpA:∀ (W:World),(∀ x,W.cell? x=W1.cell? x)→(∀ x,W.frozen? x=W1.frozen? x)→∀ ty dc,(Builtin.copy_ #[34,34] ty #[.slice (some ⟨w.heap.size,i*2,none⟩) (n+m - i) dc,.slice (some ⟨vb,voff,none⟩) m vc]).run Go.Proofs.Tryz.prog W = .ok (goInt (Nat.min m (n+m - i))) (W.setCells w.heap.size (i*2) vs):=fun W hWc hWf ty dc=>
    b4v W _ _ ty 82 2 w.heap.size (i*2) (n+m - i) dc ⟨vb,voff,none⟩ m vc vs Tryz.underlying34 hsz (by rw [hvl];simp only [Nat.min_def];split <;> omega)
      (fun j v hj=>by rw [Addr.add_lit,hWc];exact hOv _ v (hvs j v hj))
      (fun j hj=>by rw [hWc];exact hN _ (by omega)) (fun j hj=>by rw [hWf];exact hNf _) h1v
  have hGn:n+m≤G:=by rw [hG];exact grownCap_ge w _ _ _
  have hG63:G≤9223372036854775807:=by
    have:=grownCap_le_maxLen w (n+m) c 82 (by unfold maxLen;omega)
    rw [← hG] at this
    unfold maxLen at this
    omega
  have hGi:¬ (G=i):=by omega
  have hGim:¬ (G=i+m):=by omega
  have hci:¬ (c=i):=by omega
  have hbN:b≠w.heap.size:=by omega
  have hdl:(cs.drop (i*2)).length=(n - i)*2:=by rw [List.length_drop];omega
  have hcpB:∀ (W:World),(∀ x,W.cell? x=(W1.setCells w.heap.size (i*2) vs).cell? x)→(∀ x,W.frozen? x=(W1.setCells w.heap.size (i*2) vs).frozen? x)→∀ ty dc sc,(Builtin.copy_ #[34,34] ty #[.slice (some ⟨w.heap.size,(i+m)*2,none⟩) (n+m - (i+m)) dc,.slice (some ⟨b,i*2,none⟩) (n - i) sc]).run Go.Proofs.Tryz.prog W = .ok (goInt (Nat.min (n - i) (n+m - (i+m)))) (W.setCells w.heap.size ((i+m)*2) (cs.drop (i*2))):=fun W hWc hWf ty dc sc=>
    b4v W _ _ ty 82 2 w.heap.size ((i+m)*2) (n+m - (i+m)) dc ⟨b,i*2,none⟩ (n - i) sc (cs.drop (i*2)) Tryz.underlying34 hsz (by rw [hdl];simp only [Nat.min_def];split <;> omega)
      (fun j v hj=>by
        rw [Addr.add_lit,hWc,World.cell?_setCells_out _ _ _ _ _ (fun h _=>absurd h hbN)]
        exact hOb _ v (hcs (i*2+j) v (by rwa [List.getElem?_drop] at hj)))
      (fun j hj=>by rw [hWc];exact isSome_setCells _ vs (i*2) W1 (fun t ht=>hN _ (by omega)) _ (hN _ (by omega)))
      (fun j hj=>by rw [hWf,World.frozen?_setCells];exact hNf _) (fun v hv=>h1c v (List.mem_of_mem_drop hv))
  subst hW1
  have hE1:∀ x,((w.alloc (.cells ROW 82)).drew).cell? x=(w.drew.alloc (.cells ROW 82)).cell? x:=fun x=>rfl
  have hE2:∀ x,((w.alloc (.cells ROW 82)).drew).frozen? x=(w.drew.alloc (.cells ROW 82)).frozen? x:=fun x=>rfl
  have hF1:∀ x,(((w.alloc (.cells ROW 82)).drew.setCells w.heap.size (i*2) vs).drew).cell? x=((w.drew.alloc (.cells ROW 82)).setCells w.heap.size (i*2) vs).cell? x:=fun x=>rfl
  have hF2:∀ x,(((w.alloc (.cells ROW 82)).drew.setCells w.heap.size (i*2) vs).drew).frozen? x=((w.drew.alloc (.cells ROW 82)).setCells w.heap.size (i*2) vs).frozen? x:=fun x=>rfl
  have hw1:IntKind.i64.wrap ((i:Int)+(m:Int))=(i:Int)+(m:Int):=by rw [IntKind.wrap_i64];omega
  have hb1:(0:Int)≤(i:Int)+(m:Int):=by omega
  have hin:i≤n:=by omega
  have htn:((i:Int)+(m:Int)).toNat=i+m:=by omega
  have hb3:(i:Int)≤(n:Int):=by omega
  clear hkk hik hold hROW hG hRl
  go_enter Tryz.func172,Tryz.ntmps172
  go_wp2_with (first
    | (at_builtin;refine Lib.wpList_append_run _ rfl _ _ _ _ rfl _ _ rfl rfl _ _ (hrz _) ?_)
    | (at_builtin;refine wpList_copy_runI _ rfl _ _ 34 34 rfl _ _ rfl rfl (hcpA _ hE1 hE2 _ _) ?_)
    | (at_builtin;refine wpList_copy_runI _ rfl _ _ 34 34 rfl _ _ rfl rfl (hcpB _ (fun _=>rfl) (fun _=>rfl) _ _ _) ?_))
  go_region_law_o (refine step_copy_runI rfl _ _ 34 34 rfl (.slice (some ⟨w.heap.size,(i+m)*2,none⟩) (n+m - (i+m)) (G - (i+m))) (.slice (some ⟨b,i*2,none⟩) (n - i) (c - i)) (by simp [Act.eval,Act.put]) (by simp [Act.eval,Act.put]) (hcpB _ hF1 hF2 3 (G - (i+m)) (c - i)) ?_)
  go_wp2
  go_ret
  exact ⟨rfl,rfl⟩
theorem g7u : c9g Go.Proofs.Tryz.prog 172 2 := by
  unfold c9g
  intro A n cp i vb voff m vc cs vs w hi hm hnc hcm hbig hcl hvl h1c h1v hA hV
  have hvs:∀ j v,vs[j]? = some v→w.cell? ⟨vb,voff+j,none⟩=some v:=hV
  obtain ⟨tA,kA,hsa,hkA⟩:=c2w (hvs 0 _ (List.getElem?_eq_getElem (by omega)))
  have hmax:maxLen=9223372036854775807:=by decide
  by_cases hroom:n+m≤cp
  · rcases hA with ⟨h1,h2,h3⟩ | ⟨b,arr,e,rfl,hvb,hh,hsz,hcc⟩
    · omega
    have hcs:∀ j v,cs[j]? = some v→w.cell? ⟨b,j,none⟩=some v:=fun j v h=>(cell_of_row w b j arr e (0,0) hh).trans (hcc j v h)
    have hbw:b<w.heap.size:=(Array.getElem?_eq_some_iff.1 hh).1
    have hsp:∀ j,j<(n+m)*2→(w.cell? ⟨b,j,none⟩).isSome=true:=fun j hj=>by rw [cell_of_row w b j arr e (0,0) hh,Array.getElem?_eq_getElem (by omega)];rfl
    have hfz:∀ j,w.frozen? ⟨b,j,none⟩=false:=fun j=>by simp [World.frozen?,hh]
    by_cases hin:i<n
    · refine Calls.mono (g2w b n cp i vb voff m vc cs vs w hin hm hroom (by omega) hvb hcl hvl hcs hsp (fun j _=>hfz j) hvs h1c h1v tA e kA arr.size hsa (by simp [World.shape?,hh]) hkA hfz) (fun e' w' he => ?_)
      obtain ⟨rfl,rfl⟩:=he
      refine ⟨b,cp,rfl,hroom,hcm,.inl ⟨_,rfl,rfl⟩,by rw [b1j,b1j];exact hbw,Only.cells (.inl rfl) _ _ (Only.cells (.inl rfl) _ _ (Only.refl w _).drew),fun j v hj => ?_⟩
      have:=c2a (a:=i*2) (w:=w.drew) (b:=b) (by omega) hcs (fun j hj=>hsp j (by omega)) j v hj
      rw [hvl,show i*2+m*2=(i+m)*2 by omega] at this
      exact this
    · have hin:i=n:=by omega
      subst hin
      refine Calls.mono (d2w b i cp vb voff m vc vs w hm hroom (by omega) hvl (fun j hj=>hsp _ (by omega)) (fun j _=>hfz _) hvs h1v) (fun e' w' he => ?_)
      obtain ⟨rfl,rfl⟩:=he
      refine ⟨b,cp,rfl,hroom,hcm,.inl ⟨_,rfl,rfl⟩,by rw [b1j];exact hbw,Only.cells (.inl rfl) _ _ (Only.refl w _),fun j v hj => ?_⟩
      rw [← hcl] at hj ⊢
      exact d5y hcs (fun j hj=>hsp j (by omega)) j v hj
  · have hge:=grownCap_ge w (n+m) cp 82
    have hcm2:=grownCap_le_maxLen w (n+m) cp 82 (by omega)
    by_cases hin:i<n
    · rcases hA with ⟨h1,h2,h3⟩ | ⟨b,arr,e,rfl,hvb,hh,hsz,hcc⟩
      · omega
      have hcs:∀ j v,cs[j]? = some v→w.cell? ⟨b,j,none⟩=some v:=fun j v h=>(cell_of_row w b j arr e (0,0) hh).trans (hcc j v h)
      refine Calls.mono (g7w b n cp i vb voff m vc cs vs w hin hm hnc (by omega) (by omega) hcl hvl hcs hvs h1c h1v) (fun e' w' he => ?_)
      obtain ⟨rfl,rfl⟩:=he
      generalize grownCap w (n+m) cp 82=G at *
      obtain ⟨ROW,hROW⟩:∃ ROW:Array Value,ROW=(cs.take (i*2)).toArray++Builtin.zeroCells c1w.cells (n+m - i)++Builtin.zeroCells c1w.cells (G - (n+m)):=⟨_,rfl⟩
      have hRl:(n+m)*2≤ROW.size:=by
        rw [hROW]
        simp [Builtin.zeroCells,Value.cells,c1w]
        omega
      have hRt:∀ j v,(cs.take (i*2))[j]? = some v→ROW[j]? = some v:=fun j v hj=>by
        have hlt:=(List.getElem?_eq_some_iff.1 hj).1
        rw [hROW,Array.getElem?_append_left (by simp at hlt ⊢;omega),Array.getElem?_append_left (by simpa using hlt)]
        simpa using hj
      rw [← hROW]
      have hN:∀ j,(w.alloc (.cells ROW 82)).drew.cell? ⟨w.heap.size,j,none⟩=ROW[j]? := fun j=>World.cell?_alloc_at (w:=w) ROW _ w.heap.size j rfl
      refine ⟨w.heap.size,G,rfl,hge,hcm2,.inr (Nat.le_refl _),by rw [b1j];show w.heap.size<(World.setCells _ _ _ _).heap.size;rw [b1j];show w.heap.size<(w.alloc _).heap.size;simp,Only.cells (.inr (Nat.le_refl _)) _ _ (Only.cells (.inr (Nat.le_refl _)) _ _ ((Only.refl w _).alloc _).drew).drew,fun j v hj => ?_⟩
      have:=d0u (a:=i*2) (vs:=vs) (w:=(w.alloc (.cells ROW 82)).drew) (w':=((w.alloc (.cells ROW 82)).drew.setCells w.heap.size (i*2) vs).drew) (b:=w.heap.size) (by omega) (fun j v hj=>(hN j).trans (hRt j v hj)) (fun j hj=>by rw [hN,Array.getElem?_eq_getElem (by omega)];rfl) (fun _=>rfl) j v hj
      rw [hvl,show i*2+m*2=(i+m)*2 by omega] at this
      exact this
    · have hin:i=n:=by omega
      subst hin
      have hnil:A=none→i=0:=fun h=>by
        rcases hA with ⟨_,h2,_⟩ | ⟨b,arr,e,h2,_⟩
        · exact h2
        · rw [h2] at h;cases h
      have hcsA:∀ a,A=some a→∀ j v,cs[j]? = some v→w.cell? (a.add j)=some v:=by
        intro a ha j v hj
        rcases hA with ⟨h,_⟩ | ⟨b,arr,e,h,hvb,hh,hsz,hcc⟩
        · rw [h] at ha;cases ha
        · rw [h] at ha;cases ha
          rw [Addr.add_lit,Nat.zero_add]
          exact (cell_of_row w b j arr e (0,0) hh).trans (hcc j v hj)
      refine Calls.mono (d2y A i cp vb voff m vc cs vs w hm hnc (by omega) (by omega) hcl hvl hnil hcsA hvs h1v) (fun e' w' he => ?_)
      obtain ⟨rfl,rfl⟩:=he
      generalize grownCap w (i+m) cp 82=G at *
      refine ⟨w.heap.size,G,rfl,hge,hcm2,.inr (Nat.le_refl _),by show w.heap.size<(w.drew.alloc _).heap.size;simp,((Only.refl w _).drew).alloc _,fun j v hj => ?_⟩
      rw [← hcl,List.take_length,List.drop_length,List.append_nil] at hj
      have hlt:=(List.getElem?_eq_some_iff.1 hj).1
      rw [World.cell?_alloc_at (w:=w.drew) _ _ w.heap.size j rfl,Array.getElem?_append_left (by simpa using hlt)]
      simpa using hj
end Go.TA.Tryz


end
section
/- The table of functions, and that it is sound. -/
namespace Go.TA.Tryz
theorem c1m:Go.Proofs.Tryz.prog.follows .mixedOrders=true:=by kernel_rfl
def tab:List (Nat × LFn):=[(3,.code F3),
 (11,.code F11),
 (12,.code F12),
 (13,.code F13),
 (14,.code F14),
 (15,.code F15),
 (16,.code F16),
 (17,.code F17),
 (18,.code F18),
 (19,.code F19),
 (20,.code F20),
 (21,.code F21),
 (22,.code F22),
 (23,.code F23),
 (24,.code F24),
 (26,.code F26),
 (33,.code F33),
 (35,.code F35),
 (38,.code F38),
 (50,.code F50),
 (51,.code F51),
 (52,.code F52),
 (53,.code F53),
 (54,.code F54),
 (55,.code F55),
 (56,.prim (b6k 2)),
 (57,.code F57),
 (58,.code F58),
 (59,.code F59),
 (60,.code F60),
 (61,.code F61),
 (62,.code F62),
 (63,.code F63),
 (64,.code F64),
 (65,.code F65),
 (66,.code F66),
 (67,.code F67),
 (68,.code F68),
 (69,.code F69),
 (70,.code F70),
 (71,.code F71),
 (72,.code F72),
 (73,.code F73),
 (74,.code F74),
 (75,.code F75),
 (78,.prim (b6k 1)),
 (82,.code F82),
 (83,.code F83),
 (84,.code F84),
 (85,.code F85),
 (87,.code F87),
 (93,.code F93),
 (104,.code F104),
 (105,.code F105),
 (106,.code F106),
 (107,.code F107),
 (108,.code F108),
 (109,.code F109),
 (110,.code F110),
 (111,.code F111),
 (112,.code F112),
 (113,.code F113),
 (114,.code F114),
 (115,.code F115),
 (116,.code F116),
 (117,.code F117),
 (118,.code F118),
 (119,.code F119),
 (120,.code F120),
 (121,.code F121),
 (122,.code F122),
 (123,.prim (b7y 170 b6e 1)),
 (124,.code F124),
 (125,.code F125),
 (126,.code F126),
 (127,.code F127),
 (128,.code F128),
 (129,.code F129),
 (150,.code F150),
 (158,.code F158),
 (159,.code F159),
 (160,.code F160),
 (161,.code F161),
 (162,.code F162),
 (163,.code F163),
 (164,.code F164),
 (165,.code F165),
 (166,.code F166),
 (167,.prim (g2n)),
 (168,.code F168),
 (169,.prim (b7x 1)),
 (170,.code F170),
 (171,.code F171),
 (172,.prim (b7x 2)),
 (173,.prim (b7y 203 b6d 2)),
 (174,.code F174),
 (175,.code F175),
 (195,.code F195),
 (197,.code F197),
 (198,.prim (b7a)),
 (203,.code F203),
 (215,.code F215),
 (216,.code F216)]
def T (k:Nat):Option LFn:=lk tab k
theorem T3:T 3=some (.code F3):=rfl
theorem T11:T 11=some (.code F11):=rfl
theorem T12:T 12=some (.code F12):=rfl
theorem T13:T 13=some (.code F13):=rfl
theorem T15:T 15=some (.code F15):=rfl
theorem T16:T 16=some (.code F16):=rfl
theorem T17:T 17=some (.code F17):=rfl
theorem T18:T 18=some (.code F18):=rfl
theorem T19:T 19=some (.code F19):=rfl
theorem T20:T 20=some (.code F20):=rfl
theorem T21:T 21=some (.code F21):=rfl
theorem T22:T 22=some (.code F22):=rfl
theorem T23:T 23=some (.code F23):=rfl
theorem T24:T 24=some (.code F24):=rfl
theorem T26:T 26=some (.code F26):=rfl
theorem T33:T 33=some (.code F33):=rfl
theorem T35:T 35=some (.code F35):=rfl
theorem T38:T 38=some (.code F38):=rfl
theorem T50:T 50=some (.code F50):=rfl
theorem T51:T 51=some (.code F51):=rfl
theorem T52:T 52=some (.code F52):=rfl
theorem T55:T 55=some (.code F55):=rfl
theorem T56:T 56=some (.prim (b6k 2)):=rfl
theorem T57:T 57=some (.code F57):=rfl
theorem T58:T 58=some (.code F58):=rfl
theorem T59:T 59=some (.code F59):=rfl
theorem T60:T 60=some (.code F60):=rfl
theorem T61:T 61=some (.code F61):=rfl
theorem T62:T 62=some (.code F62):=rfl
theorem T63:T 63=some (.code F63):=rfl
theorem T64:T 64=some (.code F64):=rfl
theorem T65:T 65=some (.code F65):=rfl
theorem T66:T 66=some (.code F66):=rfl
theorem T67:T 67=some (.code F67):=rfl
theorem T68:T 68=some (.code F68):=rfl
theorem T69:T 69=some (.code F69):=rfl
theorem T70:T 70=some (.code F70):=rfl
theorem T71:T 71=some (.code F71):=rfl
theorem T72:T 72=some (.code F72):=rfl
theorem T73:T 73=some (.code F73):=rfl
theorem T74:T 74=some (.code F74):=rfl
theorem T75:T 75=some (.code F75):=rfl
theorem T78:T 78=some (.prim (b6k 1)):=rfl
theorem T82:T 82=some (.code F82):=rfl
theorem T83:T 83=some (.code F83):=rfl
theorem T84:T 84=some (.code F84):=rfl
theorem T85:T 85=some (.code F85):=rfl
theorem T87:T 87=some (.code F87):=rfl
theorem T93:T 93=some (.code F93):=rfl
theorem T104:T 104=some (.code F104):=rfl
theorem T105:T 105=some (.code F105):=rfl
theorem T106:T 106=some (.code F106):=rfl
theorem T107:T 107=some (.code F107):=rfl
theorem T108:T 108=some (.code F108):=rfl
theorem T109:T 109=some (.code F109):=rfl
theorem T110:T 110=some (.code F110):=rfl
theorem T111:T 111=some (.code F111):=rfl
theorem T112:T 112=some (.code F112):=rfl
theorem T113:T 113=some (.code F113):=rfl
theorem T114:T 114=some (.code F114):=rfl
theorem T115:T 115=some (.code F115):=rfl
theorem T116:T 116=some (.code F116):=rfl
theorem T117:T 117=some (.code F117):=rfl
theorem T118:T 118=some (.code F118):=rfl
theorem T119:T 119=some (.code F119):=rfl
theorem T120:T 120=some (.code F120):=rfl
theorem T121:T 121=some (.code F121):=rfl
theorem T122:T 122=some (.code F122):=rfl
theorem T123:T 123=some (.prim (b7y 170 b6e 1)):=rfl
theorem T124:T 124=some (.code F124):=rfl
theorem T125:T 125=some (.code F125):=rfl
theorem T126:T 126=some (.code F126):=rfl
theorem T127:T 127=some (.code F127):=rfl
theorem T128:T 128=some (.code F128):=rfl
theorem T129:T 129=some (.code F129):=rfl
theorem T150:T 150=some (.code F150):=rfl
theorem T158:T 158=some (.code F158):=rfl
theorem T159:T 159=some (.code F159):=rfl
theorem T160:T 160=some (.code F160):=rfl
theorem T161:T 161=some (.code F161):=rfl
theorem T162:T 162=some (.code F162):=rfl
theorem T163:T 163=some (.code F163):=rfl
theorem T164:T 164=some (.code F164):=rfl
theorem T165:T 165=some (.code F165):=rfl
theorem T166:T 166=some (.code F166):=rfl
theorem T167:T 167=some (.prim (g2n)):=rfl
theorem T168:T 168=some (.code F168):=rfl
theorem T169:T 169=some (.prim (b7x 1)):=rfl
theorem T170:T 170=some (.code F170):=rfl
theorem T171:T 171=some (.code F171):=rfl
theorem T172:T 172=some (.prim (b7x 2)):=rfl
theorem T173:T 173=some (.prim (b7y 203 b6d 2)):=rfl
theorem T174:T 174=some (.code F174):=rfl
theorem T175:T 175=some (.code F175):=rfl
theorem T195:T 195=some (.code F195):=rfl
theorem T197:T 197=some (.code F197):=rfl
theorem T198:T 198=some (.prim (b7a)):=rfl
theorem T203:T 203=some (.code F203):=rfl
theorem T215:T 215=some (.code F215):=rfl
theorem T216:T 216=some (.code F216):=rfl
theorem h8l {Γ : b1c}:b5n Go.Proofs.Tryz.prog Γ 56 (b6k 2):=d0m (d4t c1m (sz:=2) (bytes:=32) (by decide +kernel))
theorem h8k {Γ : b1c}:b5n Go.Proofs.Tryz.prog Γ 78 (b6k 1):=d0m (d4t c1m (sz:=1) (bytes:=8) (by decide +kernel))
theorem h5t {Γ : b1c}:b5n Go.Proofs.Tryz.prog Γ 123 (b7y 170 b6e 1):=d0l c1m (by decide +kernel)
theorem h5s {Γ : b1c} (hΓ : ∀ w, Γ.holds w→Lib.TabIs Go.Proofs.Tryz.prog w "internal/strconv.uint64pow10" .u64 Lib.pow10Tab):b5n Go.Proofs.Tryz.prog Γ 167 (g2n):=h1h (by decide +kernel) hΓ (fun n w h0 h1 ht=>Go.Proofs.Tryz.strconv_Itoa n h0 h1 w ht)
theorem h5r {Γ : b1c}:b5n Go.Proofs.Tryz.prog Γ 169 (b7x 1):=d0k (by decide +kernel) (by decide) g7t
theorem h5q {Γ : b1c}:b5n Go.Proofs.Tryz.prog Γ 172 (b7x 2):=d0k (by decide +kernel) (by decide) g7u
theorem h5p {Γ : b1c}:b5n Go.Proofs.Tryz.prog Γ 173 (b7y 203 b6d 2):=d0l c1m (by decide +kernel)
theorem h5o {Γ : b1c}:b5n Go.Proofs.Tryz.prog Γ 198 (b7a):=d1y (by decide +kernel) Go.Proofs.Tryz.strings_IndexByte
theorem h8d {Γ : b1c} (hΓ : ∀ w, Γ.holds w→Lib.TabIs Go.Proofs.Tryz.prog w "internal/strconv.uint64pow10" .u64 Lib.pow10Tab):∀ e ∈ tab,h9s Go.Proofs.Tryz.prog Γ e:=by
 unfold tab
 refine List.forall_mem_cons.2 ⟨b0d ok3, ?_⟩
 refine List.forall_mem_cons.2 ⟨b0d ok11, ?_⟩
 refine List.forall_mem_cons.2 ⟨b0d ok12, ?_⟩
 refine List.forall_mem_cons.2 ⟨b0d ok13, ?_⟩
 refine List.forall_mem_cons.2 ⟨b0d ok14, ?_⟩
 refine List.forall_mem_cons.2 ⟨b0d ok15, ?_⟩
 refine List.forall_mem_cons.2 ⟨b0d ok16, ?_⟩
 refine List.forall_mem_cons.2 ⟨b0d ok17, ?_⟩
 refine List.forall_mem_cons.2 ⟨b0d ok18, ?_⟩
 refine List.forall_mem_cons.2 ⟨b0d ok19, ?_⟩
 refine List.forall_mem_cons.2 ⟨b0d ok20, ?_⟩
 refine List.forall_mem_cons.2 ⟨b0d ok21, ?_⟩
 refine List.forall_mem_cons.2 ⟨b0d ok22, ?_⟩
 refine List.forall_mem_cons.2 ⟨b0d ok23, ?_⟩
 refine List.forall_mem_cons.2 ⟨b0d ok24, ?_⟩
 refine List.forall_mem_cons.2 ⟨b0d ok26, ?_⟩
 refine List.forall_mem_cons.2 ⟨b0d ok33, ?_⟩
 refine List.forall_mem_cons.2 ⟨b0d ok35, ?_⟩
 refine List.forall_mem_cons.2 ⟨b0d ok38, ?_⟩
 refine List.forall_mem_cons.2 ⟨b0d ok50, ?_⟩
 refine List.forall_mem_cons.2 ⟨b0d ok51, ?_⟩
 refine List.forall_mem_cons.2 ⟨b0d ok52, ?_⟩
 refine List.forall_mem_cons.2 ⟨b0d ok53, ?_⟩
 refine List.forall_mem_cons.2 ⟨b0d ok54, ?_⟩
 refine List.forall_mem_cons.2 ⟨b0d ok55, ?_⟩
 refine List.forall_mem_cons.2 ⟨h8l, ?_⟩
 refine List.forall_mem_cons.2 ⟨b0d ok57, ?_⟩
 refine List.forall_mem_cons.2 ⟨b0d ok58, ?_⟩
 refine List.forall_mem_cons.2 ⟨b0d ok59, ?_⟩
 refine List.forall_mem_cons.2 ⟨b0d ok60, ?_⟩
 refine List.forall_mem_cons.2 ⟨b0d ok61, ?_⟩
 refine List.forall_mem_cons.2 ⟨b0d ok62, ?_⟩
 refine List.forall_mem_cons.2 ⟨b0d ok63, ?_⟩
 refine List.forall_mem_cons.2 ⟨b0d ok64, ?_⟩
 refine List.forall_mem_cons.2 ⟨b0d ok65, ?_⟩
 refine List.forall_mem_cons.2 ⟨b0d ok66, ?_⟩
 refine List.forall_mem_cons.2 ⟨b0d ok67, ?_⟩
 refine List.forall_mem_cons.2 ⟨b0d ok68, ?_⟩
 refine List.forall_mem_cons.2 ⟨b0d ok69, ?_⟩
 refine List.forall_mem_cons.2 ⟨b0d ok70, ?_⟩
 refine List.forall_mem_cons.2 ⟨b0d ok71, ?_⟩
 refine List.forall_mem_cons.2 ⟨b0d ok72, ?_⟩
 refine List.forall_mem_cons.2 ⟨b0d ok73, ?_⟩
 refine List.forall_mem_cons.2 ⟨b0d ok74, ?_⟩
 refine List.forall_mem_cons.2 ⟨b0d ok75, ?_⟩
 refine List.forall_mem_cons.2 ⟨h8k, ?_⟩
 refine List.forall_mem_cons.2 ⟨b0d ok82, ?_⟩
 refine List.forall_mem_cons.2 ⟨b0d ok83, ?_⟩
 refine List.forall_mem_cons.2 ⟨b0d ok84, ?_⟩
 refine List.forall_mem_cons.2 ⟨b0d ok85, ?_⟩
 refine List.forall_mem_cons.2 ⟨b0d ok87, ?_⟩
 refine List.forall_mem_cons.2 ⟨b0d ok93, ?_⟩
 refine List.forall_mem_cons.2 ⟨b0d j1x, ?_⟩
 refine List.forall_mem_cons.2 ⟨b0d j1w, ?_⟩
 refine List.forall_mem_cons.2 ⟨b0d j1v, ?_⟩
 refine List.forall_mem_cons.2 ⟨b0d j1u, ?_⟩
 refine List.forall_mem_cons.2 ⟨b0d j1t, ?_⟩
 refine List.forall_mem_cons.2 ⟨b0d j1s, ?_⟩
 refine List.forall_mem_cons.2 ⟨b0d j1r, ?_⟩
 refine List.forall_mem_cons.2 ⟨b0d j1q, ?_⟩
 refine List.forall_mem_cons.2 ⟨b0d j1p, ?_⟩
 refine List.forall_mem_cons.2 ⟨b0d j1o, ?_⟩
 refine List.forall_mem_cons.2 ⟨b0d j1n, ?_⟩
 refine List.forall_mem_cons.2 ⟨b0d j1m, ?_⟩
 refine List.forall_mem_cons.2 ⟨b0d j1l, ?_⟩
 refine List.forall_mem_cons.2 ⟨b0d j1k, ?_⟩
 refine List.forall_mem_cons.2 ⟨b0d j1j, ?_⟩
 refine List.forall_mem_cons.2 ⟨b0d j1i, ?_⟩
 refine List.forall_mem_cons.2 ⟨b0d j1h, ?_⟩
 refine List.forall_mem_cons.2 ⟨b0d j1g, ?_⟩
 refine List.forall_mem_cons.2 ⟨b0d j1f, ?_⟩
 refine List.forall_mem_cons.2 ⟨h5t, ?_⟩
 refine List.forall_mem_cons.2 ⟨b0d j1e, ?_⟩
 refine List.forall_mem_cons.2 ⟨b0d j1d, ?_⟩
 refine List.forall_mem_cons.2 ⟨b0d j1c, ?_⟩
 refine List.forall_mem_cons.2 ⟨b0d j1b, ?_⟩
 refine List.forall_mem_cons.2 ⟨b0d j1a, ?_⟩
 refine List.forall_mem_cons.2 ⟨b0d j0z, ?_⟩
 refine List.forall_mem_cons.2 ⟨b0d j0y, ?_⟩
 refine List.forall_mem_cons.2 ⟨b0d j0x, ?_⟩
 refine List.forall_mem_cons.2 ⟨b0d j0w, ?_⟩
 refine List.forall_mem_cons.2 ⟨b0d j0v, ?_⟩
 refine List.forall_mem_cons.2 ⟨b0d j0u, ?_⟩
 refine List.forall_mem_cons.2 ⟨b0d j0t, ?_⟩
 refine List.forall_mem_cons.2 ⟨b0d j0s, ?_⟩
 refine List.forall_mem_cons.2 ⟨b0d j0r, ?_⟩
 refine List.forall_mem_cons.2 ⟨b0d j0q, ?_⟩
 refine List.forall_mem_cons.2 ⟨b0d j0p, ?_⟩
 refine List.forall_mem_cons.2 ⟨h5s hΓ, ?_⟩
 refine List.forall_mem_cons.2 ⟨b0d j0o, ?_⟩
 refine List.forall_mem_cons.2 ⟨h5r, ?_⟩
 refine List.forall_mem_cons.2 ⟨b0d j0n, ?_⟩
 refine List.forall_mem_cons.2 ⟨b0d j0m, ?_⟩
 refine List.forall_mem_cons.2 ⟨h5q, ?_⟩
 refine List.forall_mem_cons.2 ⟨h5p, ?_⟩
 refine List.forall_mem_cons.2 ⟨b0d j0l, ?_⟩
 refine List.forall_mem_cons.2 ⟨b0d j0k, ?_⟩
 refine List.forall_mem_cons.2 ⟨b0d j0j, ?_⟩
 refine List.forall_mem_cons.2 ⟨b0d j0i, ?_⟩
 refine List.forall_mem_cons.2 ⟨h5o, ?_⟩
 refine List.forall_mem_cons.2 ⟨b0d j0h, ?_⟩
 refine List.forall_mem_cons.2 ⟨b0d j0g, ?_⟩
 refine List.forall_mem_cons.2 ⟨b0d j0f, ?_⟩
 simp
theorem j2i (W:World):TOk Go.Proofs.Tryz.prog (ΓW Go.Proofs.Tryz.prog W) T:=h8e (h8d h5a)
end Go.TA.Tryz


end
section
/- The links of a document's items, walked. -/
namespace Go.TA.Tryz
section
variable {L:List Nat} {st:Nat→b3o} {nx:Int} {it nd:Nat→Nat} {I:Nat→LK} {pd pm:Nat} {g:List AObj}
theorem g5i (hD:b1o L st nx it nd I pd pm g) {c:Nat} (hc:c ∈ L) (n:Nat):b0g T (n+1) 93 [IP it c] g=some (iAV it (I c).u,g):=by
 obtain ⟨o,ho,hr⟩:=hD.items c hc
 obtain ⟨r0,r1,r2,r3,r4,r5⟩:=b9e hr
 rw [b0a T93,b0e rfl rfl]
 simp -implicitDefEqProofs (disch:=omega) only [Rx,simprocAttr,F93,ho,r1,iAVe]
theorem g8d (hD:b1o L st nx it nd I pd pm g) {c:Nat} (hc:c ∈ L) (n:Nat):b0g T (n+1) 83 [IP it c] g=some (iAV it (I c).f,g):=by
 obtain ⟨o,ho,hr⟩:=hD.items c hc
 obtain ⟨r0,r1,r2,r3,r4,r5⟩:=b9e hr
 rw [b0a T83,b0e rfl rfl]
 simp -implicitDefEqProofs (disch:=omega) only [Rx,simprocAttr,F83,ho,r2,iAVe]
theorem h1w (hD:b1o L st nx it nd I pd pm g) {c:Nat} (hc:c ∈ L) (n:Nat):b0g T (n+1) 84 [IP it c] g=some (iAV it (I c).n,g):=by
 obtain ⟨o,ho,hr⟩:=hD.items c hc
 obtain ⟨r0,r1,r2,r3,r4,r5⟩:=b9e hr
 rw [b0a T84,b0e rfl rfl]
 simp -implicitDefEqProofs (disch:=omega) only [Rx,simprocAttr,F84,ho,r5,iAVe]
theorem h2c (hD:b1o L st nx it nd I pd pm g) {c:Nat} (hc:c ∈ L) (n:Nat):b0g T (n+1) 85 [IP it c] g=some (.p (.int .i64 c),g):=by
 obtain ⟨o,ho,hr⟩:=hD.items c hc
 obtain ⟨r0,r1,r2,r3,r4,r5⟩:=b9e hr
 rw [b0a T85,b0e rfl rfl]
 simp -implicitDefEqProofs (disch:=omega) only [Rx,simprocAttr,F85,ho,r0]
theorem g0p (id:Int) (g:List AObj) (n:Nat):b0g T (n+1) 73 [.p (.int .i64 id)] g=some (.ptr true g.length 6 1 0 0,g++[.pcells 6 [[.int .i64 id,.nilp,.nilp,.nilp,.nilp,.nilp]]]):=by
 rw [b0a T73,b0e rfl rfl]
 simp -implicitDefEqProofs (disch:=omega) only [Rx,simprocAttr,F73]
end
section
variable {R:Nat} {S:MS} {nx:Int} {it nd:Nat→Nat} {I:Nat→LK} {pd pm:Nat} {g:List AObj}
theorem d8x (hS : S.Ok R) (hI : b1n S I) (hD : b1o (b0h S) S.st nx it nd I pd pm g) {t : Nat} (ht : t ∈ b0h S) (n : Nat) (N : Nat) (hN : R + 3 < N) (h : Nat) (hh : h ∈ b0h S) :
    b0r (b0g T n) N (.loop d1k) ⟨[(0,IP it h),(1,IP it t)],[],g⟩=some (if b2e S (h:Int) (t:Int)=true then (.ret,⟨[(4,.p (.bool true))],[],g⟩) else (.exit 0,⟨[],[],g⟩)):=by
  obtain ⟨r,hr1,hr2⟩:=hS.rank
  have hhN:=(b0j.1 hh).1
  have key:=b2v (C:=b0g T n) (N:=N) (B:=d1k) (σ := Option Nat) (S:=fun y=>⟨[(0,iAV it y),(1,IP it t)],[],g⟩)
    (I:=fun y=>(∀ c,y=some c→c ∈ b0h S)∧(Below S (t:Int) (h:Int)↔∃ c:Nat,y=some c∧Below S (t:Int) (c:Int))) (μ := fun y=>match y with | none=>0 | some c=>r c+1)
    (Q:=fun z=>z=(if b2e S (h:Int) (t:Int)=true then (.ret,⟨[(4,.p (.bool true))],[],g⟩) else (.exit 0,⟨[],[],g⟩))) ?_ (some h) ⟨fun c e=>by cases e;exact hh,⟨fun b=>⟨h,rfl,b⟩,fun ⟨c,e,b⟩=>by cases e;exact b⟩⟩ (by
      have:=hr1 h hhN
      simp only
      omega)
  · obtain ⟨z,hz,rfl⟩:=key
    exact hz
  rintro y ⟨hy,hb⟩
  cases y with
  | none =>
    right
    have hf:¬ Below S (t:Int) (h:Int):=fun z=>by obtain ⟨c,e,_⟩:=hb.1 z;cases e
    refine ⟨_, ?_, ?_,rfl⟩
    · rw [if_neg (fun z=>hf (b1d.1 z))]
      simp -implicitDefEqProofs (disch:=omega) only [Rx,simprocAttr,d1k,iAVs]
    · rw [if_neg (fun z=>hf (b1d.1 z))];simp
  | some c =>
    have hc:=hy c rfl
    have hcN:=(b0j.1 hc).1
    have oc:=hD.one hc [] []
    simp only [St.one,St.obj,if_true] at oc
    have hb':Below S (t:Int) (h:Int)↔Below S (t:Int) (c:Int):=⟨fun z=>by obtain ⟨d,e,b⟩:=hb.1 z;cases e;exact b,fun z=>hb.2 ⟨c,rfl,z⟩⟩
    by_cases e:c=t
    · subst e
      right
      have hf:Below S (c:Int) (h:Int):=hb'.2 .here
      refine ⟨_, ?_, ?_,rfl⟩
      · rw [if_pos (b1d.2 hf)]
        simp -implicitDefEqProofs (disch:=omega) only [Rx,simprocAttr,d1k,iAVs,oc]
      · rw [if_pos (b1d.2 hf)];simp
    · left
      have hne:(it c==it t)=false:=by
        simp only [beq_eq_false_iff_ne,ne_eq]
        exact fun e2=>e (hD.itInj c hc t ht e2)
      obtain ⟨o,ho,hr⟩:=hD.items c hc
      obtain ⟨r0,r1,r2,r3,r4,r5⟩:=b9e hr
      have ot:=hD.one ht [] []
      simp only [St.one,St.obj,if_true] at ot
      rw [ho] at oc
      refine ⟨(I c).u, ?_,⟨fun d hd => ?_, ?_⟩, ?_⟩
      · simp -implicitDefEqProofs (disch:=omega) only [Rx,simprocAttr,d1k,iAVs,iAVe,oc,ot,hne,ho,r1]
      · rw [hI.up c hc] at hd
        rcases hS.up c hcN with h1 | ⟨p,h1,h2,h3,_⟩
        · rw [b5b hS hcN (by omega)] at hd;cases hd
        · rw [b5a hS hcN h2] at hd
          cases hd
          exact b0j.2 ⟨h1,h3⟩
      · rw [hb',c0p (by omega) (by omega),hI.up c hc]
        rcases hS.up c hcN with h1 | ⟨p,h1,h2,h3,_⟩
        · rw [b5b hS hcN (by omega)]
          have:upOf S (c:Int) = -1:=h1
          rw [this]
          exact ⟨fun z=>absurd z (c0o (by omega)),fun ⟨d,e,_⟩=>by cases e⟩
        · rw [b5a hS hcN h2]
          have:upOf S (c:Int)=(p:Int):=h2
          rw [this]
          exact ⟨fun z=>⟨p,rfl,z⟩,fun ⟨d,e,z⟩=>by cases e;exact z⟩
      · rw [hI.up c hc]
        rcases hS.up c hcN with h1 | ⟨p,h1,h2,h3,_⟩
        · rw [b5b hS hcN (by omega)]
          simp only;omega
        · rw [b5a hS hcN h2]
          have:=hr2 c p hcN h2
          simp only;omega
theorem c5c (hS:S.Ok R) (hI:b1n S I) (hD:b1o (b0h S) S.st nx it nd I pd pm g) {h t:Nat} (hh:h ∈ b0h S) (ht:t ∈ b0h S) {n:Nat} (hn:R+3<n):b0g T (n+1) 175 [IP it h,IP it t] g=some (.p (.bool (b2e S h t)),g):=by
 rw [b0a T175,b0e rfl rfl]
 have hl:=d8x hS hI hD ht n n hn h hh
 by_cases hb:Below S (t:Int) (h:Int)
 ·have e:b2e S h t=true:=by simp [b2e,hb]
  rw [if_pos e] at hl
  simp -implicitDefEqProofs (disch:=omega) only [Rx,simprocAttr,F175,hl,e]
 ·have e:b2e S h t=false:=by simp [b2e,hb]
  rw [if_neg (by rw [e];simp)] at hl
  simp -implicitDefEqProofs (disch:=omega) only [Rx,simprocAttr,F175,hl,e]
end
end Go.TA.Tryz


end
section
/- Putting and taking out, store by store. Plain. -/
namespace Go.TA
def d0j (I : Nat → LK) (x y : Nat) (b : Option Nat) : Nat → LK :=
  let I1:=upd I y { I y with u:=some x }
  let I2:=upd I1 y { I1 y with n:=b }
  let I3:=upd I2 y { I2 y with p:=b2d I x b }
  let I4:=match b with
    | none=>upd I3 x { I3 x with l:=some y }
    | some k=>upd I3 k { I3 k with p:=some y }
  match b2d I x b with
    | none=>upd I4 x { I4 x with f:=some y }
    | some a=>upd I4 a { I4 a with n:=some y }
theorem g6m {I : Nat → LK} {x y : Nat} {b : Option Nat} (hxy : x ≠ y) (hby : b ≠ some y) (hay : b2d I x b ≠ some y) : d0j I x y b = b3t I x y b := by
  have hyx:y≠x:=fun e=>hxy e.symm
  funext k
  unfold d0j b3t
  cases h:b2d I x b with
  | none =>
    cases b with
    | none =>
      by_cases e1:k=y
      · subst e1;simp [upd,hyx]
      · by_cases e2:k=x
        · subst e2;simp [upd,e1]
        · simp [upd,e1,e2]
    | some c =>
      have hcy:c≠y:=fun e=>hby (by rw [e])
      by_cases e1:k=y
      · subst e1
        have:k≠c:=fun e=>hcy e.symm
        simp [upd,hyx,this]
      · by_cases e2:k=x
        · subst e2
          by_cases e3:k=c
          · subst e3;simp [upd,e1]
          · have:c≠k:=fun e=>e3 e.symm
            simp [upd,e1,e3,this]
        · by_cases e3:k=c
          · subst e3;simp [upd,e1,e2]
          · have:c≠k:=fun e=>e3 e.symm
            simp [upd,e1,e2,e3,this]
  | some a =>
    have hay':a≠y:=fun e=>hay (by rw [h,e])
    cases b with
    | none =>
      by_cases e1:k=y
      · subst e1
        have:k≠a:=fun e=>hay' e.symm
        simp [upd,hyx,this]
      · by_cases e2:k=x
        · subst e2
          by_cases e4:k=a
          · subst e4;simp [upd,e1]
          · have:a≠k:=fun e=>e4 e.symm
            simp [upd,e1,e4,this]
        · by_cases e4:k=a
          · subst e4;simp [upd,e1,e2]
          · have:a≠k:=fun e=>e4 e.symm
            simp [upd,e1,e2,e4,this]
    | some c =>
      have hcy:c≠y:=fun e=>hby (by rw [e])
      by_cases e1:k=y
      · subst e1
        have:k≠c:=fun e=>hcy e.symm
        have h2:k≠a:=fun e=>hay' e.symm
        simp [upd,hyx,this,h2]
      · by_cases e3:k=c
        · subst e3
          by_cases e4:k=a
          · subst e4;simp [upd,e1]
          · have:a≠k:=fun e=>e4 e.symm
            simp [upd,e1,e4,this]
        · have q3:c≠k:=fun e=>e3 e.symm
          by_cases e4:k=a
          · subst e4;simp [upd,e1,e3,q3]
          · have:a≠k:=fun e=>e4 e.symm
            simp [upd,e1,e3,e4,this,q3]
def h6v (I : Nat → LK) (x u : Nat) : Nat → LK :=
  let I1:=match (I x).p with
    | none=>upd I u { I u with f:=(I x).n }
    | some a=>upd I a { I a with n:=(I x).n }
  let I2:=match (I x).n with
    | none=>upd I1 u { I1 u with l:=(I x).p }
    | some c=>upd I1 c { I1 c with p:=(I x).p }
  let I3:=upd I2 x { I2 x with u:=none }
  let I4:=upd I3 x { I3 x with p:=none }
  upd I4 x { I4 x with n:=none }
theorem h3b {I : Nat → LK} {x u : Nat} (hu : (I x).u = some u) (hux : u ≠ x) (hp : (I x).p ≠ some x) (hn : (I x).n ≠ some x) : h6v I x u = b5l I x := by
  have hxu:x≠u:=fun e=>hux e.symm
  funext k
  unfold h6v b5l
  rw [hu]
  cases h1:(I x).p with
  | none =>
    cases h2:(I x).n with
    | none =>
      by_cases e1:k=x
      · subst e1;simp [upd,hxu]
      · by_cases e2:k=u
        · subst e2;simp [upd,e1]
        · have:u≠k:=fun e=>e2 e.symm
          simp [upd,e1,e2,this]
    | some c =>
      have hcx:c≠x:=fun e=>hn (by rw [h2,e])
      by_cases e1:k=x
      · subst e1
        have:k≠c:=fun e=>hcx e.symm
        simp [upd,hxu,this]
      · by_cases e2:k=u
        · subst e2
          by_cases e3:k=c
          · subst e3;simp [upd,e1]
          · have:c≠k:=fun e=>e3 e.symm
            simp [upd,e1,e3,this]
        · have q2:u≠k:=fun e=>e2 e.symm
          by_cases e3:k=c
          · subst e3;simp [upd,e1,e2,q2]
          · have:c≠k:=fun e=>e3 e.symm
            simp [upd,e1,e2,e3,this,q2]
  | some a =>
    have hax:a≠x:=fun e=>hp (by rw [h1,e])
    cases h2:(I x).n with
    | none =>
      by_cases e1:k=x
      · subst e1
        have:k≠a:=fun e=>hax e.symm
        simp [upd,hxu,this]
      · by_cases e2:k=u
        · subst e2
          by_cases e4:k=a
          · subst e4;simp [upd,e1]
          · have:a≠k:=fun e=>e4 e.symm
            simp [upd,e1,e4,this]
        · have q2:u≠k:=fun e=>e2 e.symm
          by_cases e4:k=a
          · subst e4;simp [upd,e1,e2,q2]
          · have:a≠k:=fun e=>e4 e.symm
            simp [upd,e1,e2,e4,this,q2]
    | some c =>
      have hcx:c≠x:=fun e=>hn (by rw [h2,e])
      by_cases e1:k=x
      · subst e1
        have:k≠c:=fun e=>hcx e.symm
        have h4:k≠a:=fun e=>hax e.symm
        simp [upd,hxu,this,h4]
      · by_cases e3:k=c
        · subst e3
          by_cases e4:k=a
          · subst e4;simp [upd,e1]
          · have:a≠k:=fun e=>e4 e.symm
            simp [upd,e1,e4,this]
        · have q3:c≠k:=fun e=>e3 e.symm
          by_cases e4:k=a
          · subst e4;simp [upd,e1,e3,q3]
          · have:a≠k:=fun e=>e4 e.symm
            simp [upd,e1,e3,e4,this,q3]
theorem b5h {L:List Nat} {st:Nat→b3o} {nx:Int} {it nd:Nat→Nat} {I:Nat→LK} {pd pm:Nat} {g:List AObj} (hD:b1o L st nx it nd I pd pm g) {c:Nat} (hc:c ∈ L) (x:LK) (hx:I c=x):∃ o,g[it c]? = some o ∧
  o.rd 1 1 0 0 6 false=some (.p (.int .i64 c))∧o.rd 1 1 0 1 6 false=some (iAV it x.u)∧o.rd 1 1 0 2 6 false=some (iAV it x.f)∧o.rd 1 1 0 3 6 false=some (iAV it x.l)∧o.rd 1 1 0 4 6 false=some (iAV it x.p)∧o.rd 1 1 0 5 6 false=some (iAV it x.n):=by
 subst hx
 obtain ⟨o,ho,hr⟩:=hD.items c hc
 exact ⟨o,ho,b9e hr⟩
end Go.TA


end
section
/- An item is put below another one; it is taken out. -/
namespace Go.TA.Tryz
section
variable {R:Nat} {S:MS} {nx:Int} {it nd:Nat→Nat} {I:Nat→LK} {pd pm:Nat} {g:List AObj}
theorem g2m (hD:b1o (b0h S) S.st nx it nd I pd pm g) (hI:b1n S I) (hS:S.Ok R) {x y:Nat} (hx:x ∈ b0h S) (hy:y ∈ b0h S) (hyu:0≤(S.st y).up) (b:Option Nat) (n:Nat):b0g T (n+2) 129 [IP it x,IP it y,iAV it b] g=some (.p (.int .i64 15),g):=by
 obtain ⟨o,ho,r0,r1,r2,r3,r4,r5⟩:=b5h hD hy (I y) rfl
 obtain ⟨p,hp,_⟩:=hS.up_nat (b0j.1 hy).1 hyu
 rw [hI.up y hy,b5a hS (b0j.1 hy).1 hp] at r1
 rw [b0a T129,b0e rfl rfl]
 simp only [iAV] at r1
 simp -implicitDefEqProofs (disch:=omega) only [Rx,simprocAttr,F129,ho,r1,iAVe]
theorem d7z (hS:S.Ok R) (hD:b1o (b0h S) S.st nx it nd I pd pm g) (hI:b1n S I) {x y:Nat} (hx:x ∈ b0h S) (hy:y ∈ b0h S) (hyu:(S.st y).up<0) (hun:b2e S x y=true) (b:Option Nat) {n:Nat} (hn:R+3<n):b0g T (n+2) 129 [IP it x,IP it y,iAV it b] g=some (.p (.int .i64 17),g):=by
 obtain ⟨o,ho,r0,r1,r2,r3,r4,r5⟩:=b5h hD hy (I y) rfl
 have un:=c5c hS hI hD hx hy (n:=n) hn
 rw [hun] at un
 rw [hI.up y hy,b5b hS (b0j.1 hy).1 hyu] at r1
 simp only [iAV] at r1
 rw [b0a T129,b0e rfl rfl]
 simp -implicitDefEqProofs (disch:=omega) only [Rx,simprocAttr,F129,ho,r1,un,iAVe]
theorem g6l (hS:S.Ok R) (hD:b1o (b0h S) S.st nx it nd I pd pm g) (hI:b1n S I) {x y:Nat} (hx:x ∈ b0h S) (hy:y ∈ b0h S) (hyu:(S.st y).up<0) (hun:b2e S x y=false) {b:Nat} (hb:b ∈ b0h S) (hbu:(S.st b).up≠(x:Int)) {n:Nat} (hn:R+3<n):b0g T (n+2) 129 [IP it x,IP it y,IP it b] g=some (.p (.int .i64 18),g):=by
 obtain ⟨o,ho,r0,r1,r2,r3,r4,r5⟩:=b5h hD hy (I y) rfl
 obtain ⟨ob,hob,s0,s1,s2,s3,s4,s5⟩:=b5h hD hb (I b) rfl
 have un:=c5c hS hI hD hx hy (n:=n) hn
 rw [hun] at un
 rw [hI.up y hy,b5b hS (b0j.1 hy).1 hyu] at r1
 rw [hI.up b hb] at s1
 have hbN:=(b0j.1 hb).1
 have ox:=hD.one hx [] []
 simp only [St.one,St.obj,if_true] at ox
 rw [b0a T129,b0e rfl rfl]
 rcases hS.up b hbN with h1 | ⟨p,h1,h2,h3,_⟩
 ·rw [b5b hS hbN (by omega)] at s1
  simp only [iAV] at r1 s1
  simp -implicitDefEqProofs (disch:=omega) only [Rx,simprocAttr,F129,ho,r1,hob,s1,un]
 ·rw [b5a hS hbN h2] at s1
  have hpL:p ∈ b0h S:=b0j.2 ⟨h1,h3⟩
  have op:=hD.one hpL [] []
  simp only [St.one,St.obj,if_true] at op
  have hne:(it p==it x)=false:=by
   simp only [beq_eq_false_iff_ne,ne_eq]
   intro e
   have:=hD.itInj p hpL x hx e
   subst this
   exact hbu h2
  simp only [iAV] at r1 s1
  simp -implicitDefEqProofs (disch:=omega) only [Rx,simprocAttr,F129,ho,r1,hob,s1,un,ox,op,hne]
theorem d0i (hS : S.Ok R) (hD : b1o (b0h S) S.st nx it nd I pd pm g) (hI : b1n S I) {x y : Nat} (hx : x ∈ b0h S) (hy : y ∈ b0h S) (hyu : (S.st y).up < 0) (hun : b2e S x y = false) (b : Option Nat) (hb : ∀ k, b = some k → k ∈ b0h S ∧ (S.st k).up = (x : Int)) (ha : ∀ k, b2d I x b = some k → k ∈ b0h S ∧ k ≠ y) {n : Nat} (hn : R + 3 < n) :
    ∃ g',b0g T (n+2) 129 [IP it x,IP it y,iAV it b] g=some (.p (.int .i64 0),g')∧b1o (b0h S) S.st nx it nd (b3t I x y b) pd pm g'∧GFr g (b2q (b0h S) it nd pd pm) g' (b2q (b0h S) it nd pd pm):=by
  have hxy:x≠y:=fun e=>by
    subst e
    have:b2e S (x:Int) (x:Int)=true:=b1d.2 .here
    rw [this] at hun;cases hun
  have hyx:y≠x:=fun e=>hxy e.symm
  have hby:b≠some y:=fun e=>by have:=(hb y e).2;omega
  have hay:b2d I x b≠some y:=fun e=>(ha y e).2 rfl
  obtain ⟨o,ho,r0,r1,r2,r3,r4,r5⟩:=b5h hD hy (I y) rfl
  rw [hI.up y hy,b5b hS (b0j.1 hy).1 hyu] at r1
  have un:=c5c hS hI hD hx hy (n:=n) hn
  rw [hun] at un
  have ox:=hD.one hx [] []
  simp only [St.one,St.obj,if_true] at ox
  have cA:=c4d it (b2d I x b)
  have nA:=b9b it (b2d I x b)
  rw [← g6m hxy hby hay]
  obtain ⟨o1,o1',g1,h1,q1,w1,s1,D1,F1⟩:=hD.link hy (j:=1) (by omega) { I y with u:=some x } (some x) rfl
  obtain ⟨o2,o2',g2,h2,q2,w2,s2,D2,F2⟩:=D1.link hy (j:=5) (by omega) { (upd I y { I y with u:=some x }) y with n:=b } b rfl
  rw [ho] at h1;cases h1
  simp only [iAV] at r1 w1
  cases b with
  | none =>
    obtain ⟨ox2,hx2,t0,t1,t2,t3,t4,t5⟩:=b5h D2 hx (I x) (by simp [upd,hxy])
    obtain ⟨o3,o3',g3,h3,q3,w3,s3,D3,F3⟩:=D2.link hy (j:=4) (by omega) { (upd (upd I y { I y with u:=some x }) y { (upd I y { I y with u:=some x }) y with n:=none }) y with p:=b2d I x none } (b2d I x none) rfl
    obtain ⟨o4,o4',g4,h4,q4,w4,s4,D4,F4⟩:=D3.link hx (j:=3) (by omega) { (upd (upd (upd I y { I y with u:=some x }) y { (upd I y { I y with u:=some x }) y with n:=none }) y { (upd (upd I y { I y with u:=some x }) y { (upd I y { I y with u:=some x }) y with n:=none }) y with p:=b2d I x none }) x with l:=some y } (some y) rfl
    obtain ⟨oy4,hy4,v0,v1,v2,v3,v4,v5⟩:=b5h D4 hy ⟨some x,(I y).f,(I y).l,b2d I x none,none⟩ (by simp [upd,hyx])
    have e3:iAV it (I x).l=iAV it (b2d I x none):=rfl
    rw [e3] at t3
    simp only at v4
    cases hA:b2d I x none with
    | none =>
      obtain ⟨o5,o5',g5,h5,q5,w5,s5,D5,F5⟩:=D4.link hx (j:=2) (by omega) { (upd (upd (upd (upd I y { I y with u:=some x }) y { (upd I y { I y with u:=some x }) y with n:=none }) y { (upd (upd I y { I y with u:=some x }) y { (upd I y { I y with u:=some x }) y with n:=none }) y with p:=b2d I x none }) x { (upd (upd (upd I y { I y with u:=some x }) y { (upd I y { I y with u:=some x }) y with n:=none }) y { (upd (upd I y { I y with u:=some x }) y { (upd I y { I y with u:=some x }) y with n:=none }) y with p:=b2d I x none }) x with l:=some y }) x with f:=some y } (some y) rfl
      refine ⟨g5, ?_, ?_,((((F1.trans F2).trans F3).trans F4).trans F5)⟩
      · rw [b0a T129,b0e rfl rfl]
        rw [hA] at t3 w3 v4
        simp only [iAV] at t3 w2 w3 w4 w5 v4 ⊢
        simp -implicitDefEqProofs (disch:=omega) only [Rx,simprocAttr,F129,ho,r1,un,w1,s1,h2,w2,s2,hx2,t3,h3,w3,s3,h4,w4,s4,hy4,v4,h5,w5,s5]
      · unfold d0j
        simp only [hA] at D5 ⊢
        exact D5
    | some a =>
      obtain ⟨haL,hay'⟩:=ha a hA
      obtain ⟨o5,o5',g5,h5,q5,w5,s5,D5,F5⟩:=D4.link haL (j:=5) (by omega) { (upd (upd (upd (upd I y { I y with u:=some x }) y { (upd I y { I y with u:=some x }) y with n:=none }) y { (upd (upd I y { I y with u:=some x }) y { (upd I y { I y with u:=some x }) y with n:=none }) y with p:=b2d I x none }) x { (upd (upd (upd I y { I y with u:=some x }) y { (upd I y { I y with u:=some x }) y with n:=none }) y { (upd (upd I y { I y with u:=some x }) y { (upd I y { I y with u:=some x }) y with n:=none }) y with p:=b2d I x none }) x with l:=some y }) a with n:=some y } (some y) rfl
      refine ⟨g5, ?_, ?_,((((F1.trans F2).trans F3).trans F4).trans F5)⟩
      · rw [b0a T129,b0e rfl rfl]
        rw [hA] at t3 w3 v4
        simp only [iAV] at t3 w2 w3 w4 w5 v4 ⊢
        simp -implicitDefEqProofs (disch:=omega) only [Rx,simprocAttr,F129,ho,r1,un,w1,s1,h2,w2,s2,hx2,t3,h3,w3,s3,h4,w4,s4,hy4,v4,h5,w5,s5]
      · unfold d0j
        simp only [hA] at D5 ⊢
        exact D5
  | some c =>
    obtain ⟨hcL,hcu⟩:=hb c rfl
    have hcy:c≠y:=fun e=>hby (by rw [e])
    have hyc:y≠c:=fun e=>hcy e.symm
    obtain ⟨oc,hoc,c0,c1,c2,c3,c4,c5⟩:=b5h hD hcL (I c) rfl
    rw [hI.up c hcL,b5a hS (b0j.1 hcL).1 hcu] at c1
    obtain ⟨ox2,hx2,t0,t1,t2,t3,t4,t5⟩:=b5h D2 hcL (I c) (by simp [upd,hcy])
    obtain ⟨o3,o3',g3,h3,q3,w3,s3,D3,F3⟩:=D2.link hy (j:=4) (by omega) { (upd (upd I y { I y with u:=some x }) y { (upd I y { I y with u:=some x }) y with n:=some c }) y with p:=b2d I x (some c) } (b2d I x (some c)) rfl
    obtain ⟨o4,o4',g4,h4,q4,w4,s4,D4,F4⟩:=D3.link hcL (j:=4) (by omega) { (upd (upd (upd I y { I y with u:=some x }) y { (upd I y { I y with u:=some x }) y with n:=some c }) y { (upd (upd I y { I y with u:=some x }) y { (upd I y { I y with u:=some x }) y with n:=some c }) y with p:=b2d I x (some c) }) c with p:=some y } (some y) rfl
    obtain ⟨oy4,hy4,v0,v1,v2,v3,v4,v5⟩:=b5h D4 hy ⟨some x,(I y).f,(I y).l,b2d I x (some c),some c⟩ (by simp [upd,hyc])
    have e3:iAV it (I c).p=iAV it (b2d I x (some c)):=rfl
    rw [e3] at t4
    simp only at v4
    cases hA:b2d I x (some c) with
    | none =>
      obtain ⟨o5,o5',g5,h5,q5,w5,s5,D5,F5⟩:=D4.link hx (j:=2) (by omega) { (upd (upd (upd (upd I y { I y with u:=some x }) y { (upd I y { I y with u:=some x }) y with n:=some c }) y { (upd (upd I y { I y with u:=some x }) y { (upd I y { I y with u:=some x }) y with n:=some c }) y with p:=b2d I x (some c) }) c { (upd (upd (upd I y { I y with u:=some x }) y { (upd I y { I y with u:=some x }) y with n:=some c }) y { (upd (upd I y { I y with u:=some x }) y { (upd I y { I y with u:=some x }) y with n:=some c }) y with p:=b2d I x (some c) }) c with p:=some y }) x with f:=some y } (some y) rfl
      refine ⟨g5, ?_, ?_,((((F1.trans F2).trans F3).trans F4).trans F5)⟩
      · rw [b0a T129,b0e rfl rfl]
        rw [hA] at t4 w3 v4
        simp only [iAV] at c1 t4 w2 w3 w4 w5 v4 ⊢
        simp -implicitDefEqProofs (disch:=omega) only [Rx,simprocAttr,F129,ho,r1,un,ox,hoc,c1,w1,s1,h2,w2,s2,hx2,t4,h3,w3,s3,h4,w4,s4,hy4,v4,h5,w5,s5]
      · unfold d0j
        simp only [hA] at D5 ⊢
        exact D5
    | some a =>
      obtain ⟨haL,hay'⟩:=ha a hA
      obtain ⟨o5,o5',g5,h5,q5,w5,s5,D5,F5⟩:=D4.link haL (j:=5) (by omega) { (upd (upd (upd (upd I y { I y with u:=some x }) y { (upd I y { I y with u:=some x }) y with n:=some c }) y { (upd (upd I y { I y with u:=some x }) y { (upd I y { I y with u:=some x }) y with n:=some c }) y with p:=b2d I x (some c) }) c { (upd (upd (upd I y { I y with u:=some x }) y { (upd I y { I y with u:=some x }) y with n:=some c }) y { (upd (upd I y { I y with u:=some x }) y { (upd I y { I y with u:=some x }) y with n:=some c }) y with p:=b2d I x (some c) }) c with p:=some y }) a with n:=some y } (some y) rfl
      refine ⟨g5, ?_, ?_,((((F1.trans F2).trans F3).trans F4).trans F5)⟩
      · rw [b0a T129,b0e rfl rfl]
        rw [hA] at t4 w3 v4
        simp only [iAV] at c1 t4 w2 w3 w4 w5 v4 ⊢
        simp -implicitDefEqProofs (disch:=omega) only [Rx,simprocAttr,F129,ho,r1,un,ox,hoc,c1,w1,s1,h2,w2,s2,hx2,t4,h3,w3,s3,h4,w4,s4,hy4,v4,h5,w5,s5]
      · unfold d0j
        simp only [hA] at D5 ⊢
        exact D5
theorem g8m (hD:b1o (b0h S) S.st nx it nd I pd pm g) {x:Nat} (hx:x ∈ b0h S) (hu:(I x).u=none) (n:Nat):b0g T (n+1) 163 [IP it x] g=some (.p (.int .i64 16),g):=by
 obtain ⟨o,ho,r0,r1,r2,r3,r4,r5⟩:=b5h hD hx (I x) rfl
 rw [hu] at r1
 simp only [iAV] at r1
 rw [b0a T163,b0e rfl rfl]
 simp -implicitDefEqProofs (disch:=omega) only [Rx,simprocAttr,F163,ho,r1]
theorem d6a (hD : b1o (b0h S) S.st nx it nd I pd pm g) {x u : Nat} (hx : x ∈ b0h S) (hu : (I x).u = some u) (huL : u ∈ b0h S) (hux : u ≠ x) (hp : ∀ k, (I x).p = some k → k ∈ b0h S ∧ k ≠ x) (hn : ∀ k, (I x).n = some k → k ∈ b0h S ∧ k ≠ x) (n : Nat) :
    ∃ g',b0g T (n+1) 163 [IP it x] g=some (.p (.int .i64 0),g')∧b1o (b0h S) S.st nx it nd (b5l I x) pd pm g'∧GFr g (b2q (b0h S) it nd pd pm) g' (b2q (b0h S) it nd pd pm):=by
  rw [← h3b hu hux (fun e=>(hp x e).2 rfl) (fun e=>(hn x e).2 rfl)]
  have hxu:x≠u:=fun e=>hux e.symm
  obtain ⟨o,ho,r0,r1,r2,r3,r4,r5⟩:=b5h hD hx (I x) rfl
  have cn:=c4d it (I x).n
  have nn:=b9b it (I x).n
  have cp:=c4d it (I x).p
  have np:=b9b it (I x).p
  rw [hu] at r1
  have key:∀ (J:Nat→LK) (g1:List AObj),b1o (b0h S) S.st nx it nd J pd pm g1→J x=I x→∃ g2,∃ o1 o2 o3 o1' o2' o3' ga gb,b1o (b0h S) S.st nx it nd (upd (upd (upd J x { J x with u:=none }) x { (upd J x { J x with u:=none }) x with p:=none }) x { (upd (upd J x { J x with u:=none }) x { (upd J x { J x with u:=none }) x with p:=none }) x with n:=none }) pd pm g2∧GFr g1 (b2q (b0h S) it nd pd pm) g2 (b2q (b0h S) it nd pd pm) ∧
      g1[it x]? = some o1∧o1.wr 1 0 1 6 [.p .nilp]=some o1'∧g1.set (it x) o1'=ga∧ga[it x]? = some o2∧o2.wr 1 0 4 6 [.p .nilp]=some o2'∧ga.set (it x) o2'=gb∧gb[it x]? = some o3∧o3.wr 1 0 5 6 [.p .nilp]=some o3'∧gb.set (it x) o3'=g2:=by
    intro J g1 D0 _
    obtain ⟨o1,o1',ga,h1,q1,w1,s1,D1,F1⟩:=D0.link hx (j:=1) (by omega) { J x with u:=none } none rfl
    obtain ⟨o2,o2',gb,h2,q2,w2,s2,D2,F2⟩:=D1.link hx (j:=4) (by omega) { (upd J x { J x with u:=none }) x with p:=none } none rfl
    obtain ⟨o3,o3',gc,h3,q3,w3,s3,D3,F3⟩:=D2.link hx (j:=5) (by omega) { (upd (upd J x { J x with u:=none }) x { (upd J x { J x with u:=none }) x with p:=none }) x with n:=none } none rfl
    exact ⟨gc,o1,o2,o3,o1',o2',o3',ga,gb,D3,(F1.trans F2).trans F3,h1,w1,s1,h2,w2,s2,h3,w3,s3⟩
  unfold h6v
  cases hP:(I x).p with
  | none =>
    obtain ⟨oa,oa',g1,h1,q1,w1,s1,D1,F1⟩:=hD.link huL (j:=2) (by omega) { I u with f:=(I x).n } (I x).n rfl
    obtain ⟨ob,hob,t0,t1,t2,t3,t4,t5⟩:=b5h D1 hx (I x) (by simp [upd,hxu])
    rw [hu] at t1
    cases hN:(I x).n with
    | none =>
      obtain ⟨oc,oc',g2,h2,q2,w2,s2,D2,F2⟩:=D1.link huL (j:=3) (by omega) { (upd I u { I u with f:=(I x).n }) u with l:=(I x).p } (I x).p rfl
      obtain ⟨g3,o1,o2,o3,o1',o2',o3',ga,gb,D3,F3,k1,k2,k3,k4,k5,k6,k7,k8,k9⟩:=key _ _ D2 (by simp [upd,hxu])
      refine ⟨g3, ?_, ?_,(F1.trans F2).trans F3⟩
      · rw [b0a T163,b0e rfl rfl]
        rw [hP] at r4 t4 w2
        rw [hN] at r5 t5 w1
        simp only [iAV] at r1 r4 r5 t1 t4 t5 w1 w2
        simp -implicitDefEqProofs (disch:=omega) only [Rx,simprocAttr,F163,ho,r1,r4,r5,h1,w1,s1,hob,t1,t4,t5,h2,w2,s2,k1,k2,k3,k4,k5,k6,k7,k8,k9]
      · simp only [hP,hN] at D3 ⊢
        exact D3
    | some c =>
      obtain ⟨hcL,hcx⟩:=hn c hN
      have hxc:x≠c:=fun e=>hcx e.symm
      obtain ⟨oc,oc',g2,h2,q2,w2,s2,D2,F2⟩:=D1.link hcL (j:=4) (by omega) { (upd I u { I u with f:=(I x).n }) c with p:=(I x).p } (I x).p rfl
      obtain ⟨g3,o1,o2,o3,o1',o2',o3',ga,gb,D3,F3,k1,k2,k3,k4,k5,k6,k7,k8,k9⟩:=key _ _ D2 (by simp [upd,hxu,hxc])
      refine ⟨g3, ?_, ?_,(F1.trans F2).trans F3⟩
      · rw [b0a T163,b0e rfl rfl]
        rw [hP] at r4 t4 w2
        rw [hN] at r5 t5 w1
        simp only [iAV] at r1 r4 r5 t1 t4 t5 w1 w2
        simp -implicitDefEqProofs (disch:=omega) only [Rx,simprocAttr,F163,ho,r1,r4,r5,h1,w1,s1,hob,t4,t5,h2,w2,s2,k1,k2,k3,k4,k5,k6,k7,k8,k9]
      · simp only [hP,hN] at D3 ⊢
        exact D3
  | some a =>
    obtain ⟨haL,hax⟩:=hp a hP
    obtain ⟨oa,oa',g1,h1,q1,w1,s1,D1,F1⟩:=hD.link haL (j:=5) (by omega) { I a with n:=(I x).n } (I x).n rfl
    have hxa:x≠a:=fun e=>hax e.symm
    obtain ⟨ob,hob,t0,t1,t2,t3,t4,t5⟩:=b5h D1 hx (I x) (by simp [upd,hxa])
    rw [hu] at t1
    cases hN:(I x).n with
    | none =>
      obtain ⟨oc,oc',g2,h2,q2,w2,s2,D2,F2⟩:=D1.link huL (j:=3) (by omega) { (upd I a { I a with n:=(I x).n }) u with l:=(I x).p } (I x).p rfl
      obtain ⟨g3,o1,o2,o3,o1',o2',o3',ga,gb,D3,F3,k1,k2,k3,k4,k5,k6,k7,k8,k9⟩:=key _ _ D2 (by simp [upd,hxu,hxa])
      refine ⟨g3, ?_, ?_,(F1.trans F2).trans F3⟩
      · rw [b0a T163,b0e rfl rfl]
        rw [hP] at r4 t4 w2
        rw [hN] at r5 t5 w1
        simp only [iAV] at r1 r4 r5 t1 t4 t5 w1 w2
        simp -implicitDefEqProofs (disch:=omega) only [Rx,simprocAttr,F163,ho,r1,r4,r5,h1,w1,s1,hob,t1,t4,t5,h2,w2,s2,k1,k2,k3,k4,k5,k6,k7,k8,k9]
      · simp only [hP,hN] at D3 ⊢
        exact D3
    | some c =>
      obtain ⟨hcL,hcx⟩:=hn c hN
      have hxc:x≠c:=fun e=>hcx e.symm
      obtain ⟨oc,oc',g2,h2,q2,w2,s2,D2,F2⟩:=D1.link hcL (j:=4) (by omega) { (upd I a { I a with n:=(I x).n }) c with p:=(I x).p } (I x).p rfl
      obtain ⟨g3,o1,o2,o3,o1',o2',o3',ga,gb,D3,F3,k1,k2,k3,k4,k5,k6,k7,k8,k9⟩:=key _ _ D2 (by simp [upd,hxa,hxc])
      refine ⟨g3, ?_, ?_,(F1.trans F2).trans F3⟩
      · rw [b0a T163,b0e rfl rfl]
        rw [hP] at r4 t4 w2
        rw [hN] at r5 t5 w1
        simp only [iAV] at r1 r4 r5 t1 t4 t5 w1 w2
        simp -implicitDefEqProofs (disch:=omega) only [Rx,simprocAttr,F163,ho,r1,r4,r5,h1,w1,s1,hob,t4,t5,h2,w2,s2,k1,k2,k3,k4,k5,k6,k7,k8,k9]
      · simp only [hP,hN] at D3 ⊢
        exact D3
end
end Go.TA.Tryz


end
section
/- Tags and names: what the program says of them. -/
set_option maxHeartbeats 1000000
namespace Go.TA.Tryz
theorem c5k {more:Bool} {c:UInt8} (h:b3d c=true):b2k more c=true:=by simp [b2k,h]
theorem b5c (c:UInt8) (g:List AObj) (n:Nat):b0g T (n+1) 197 [.p (.int .u8 c.toNat)] g=some (.p (.bool (b3d c)),g):=by
 rw [b0a T197,run_pure rfl rfl rfl]
 by_cases h1:(97:Int)≤c.toNat
 ·by_cases h2:(c.toNat:Int)≤122
  ·simp -implicitDefEqProofs (disch:=omega) only [Rx,simprocAttr,F197,b3d,h1,h2]
  ·simp -implicitDefEqProofs (disch:=omega) only [Rx,simprocAttr,F197,b3d,h1,h2]
 ·simp -implicitDefEqProofs (disch:=omega) only [Rx,simprocAttr,F197,b3d,h1]
theorem c6p {s:Bs} {i:Nat} {c:UInt8} (h:s[i]? = some c):s.getD i 0=c:=by rw [List.getD_eq_getElem?_getD,h];rfl
def outB (r:Bool):Ex × St:=if r=true then (.exit 0,⟨[],[],[]⟩) else (.ret,⟨[(4,.p (.bool false))],[],[]⟩)
def b4g (more:Bool):Bs:=if more=true then [45,58,46] else [45]
theorem h9x {c:UInt8} {k:UInt8}:((k==c)=true)↔c.toNat=k.toNat:=by
 rw [beq_iff_eq]
 exact ⟨fun h=>by rw [h],fun h=>(UInt8.toNat_inj.1 h).symm⟩
theorem c7r (more:Bool) (c:UInt8) (hn:(b3d c || b4o c)=false):(Lib.indexByte (b4g more) c<0)=((b2k more c)=false):=by
 have e:b2k more c=(((c.toNat:Int)==45) || (more && (((c.toNat:Int)==58) || ((c.toNat:Int)==46)))):=by
  simp only [Bool.or_eq_false_iff] at hn
  simp [b2k,hn.1,hn.2]
 rw [e]
 have q:∀ k:UInt8,(k==c)=((c.toNat:Int)==(k.toNat:Int)):=fun k=>by
  rw [Bool.eq_iff_iff,h9x,beq_iff_eq]
  omega
 cases more
 ·have e0:b4g false=[45]:=rfl
  have:((45:UInt8).toNat:Int)=45:=rfl
  simp only [e0,Lib.indexByte,q,this]
  cases h:((c.toNat:Int)==45) <;> simp
 ·have e0:b4g true=[45,58,46]:=rfl
  have e1:((45:UInt8).toNat:Int)=45:=rfl
  have e2:((58:UInt8).toNat:Int)=58:=rfl
  have e3:((46:UInt8).toNat:Int)=46:=rfl
  simp only [e0,Lib.indexByte,q,e1,e2,e3]
  cases h:((c.toNat:Int)==45) <;> cases h':((c.toNat:Int)==58) <;> cases h'':((c.toNat:Int)==46) <;> simp
theorem c3r (s:Bs) (c:UInt8) (g:List AObj) (n:Nat):b0g T (n+1) 198 [.p (.str s),.p (.int .u8 c.toNat)] g=some (.p (.int .i64 (Lib.indexByte s c)),g):=by
 rw [b4y T198]
 simp [b7a]
theorem g2s {n N : Nat} (s : Bs) (more : Bool) (hs : s.length ≤ 32) (hN : 32 < N) (i : Nat) (hi : i ≤ s.length) :
    b0r (b0g T (n+1)) N (.loop c1u) ⟨[(0,.p (.str s)),(1,.p (.str (b4g more))),(21,.p (.int .i64 s.length)),(22,.p (.int .i64 i))],[],[]⟩=some (outB ((s.drop i).all (b2k more))):=by
  refine b1w (σ := Nat) (S:=fun i=>⟨[(0,.p (.str s)),(1,.p (.str (b4g more))),(21,.p (.int .i64 s.length)),(22,.p (.int .i64 i))],[],[]⟩) (I:=fun i=>i≤s.length) (μ := fun i=>s.length - i)
    (Φ := fun i=>outB ((s.drop i).all (b2k more))) ?_ i hi (by omega)
  intro i hi
  by_cases h:i<s.length
  · obtain ⟨c,hc⟩:=b0t h
    have hg:=c6p hc
    have k1:(i:Int)<(s.length:Int):=by omega
    rw [b8q hc]
    have good:b2k more c=true→b0r (b0g T (n+1)) N c1u ⟨[(0,.p (.str s)),(1,.p (.str (b4g more))),(21,.p (.int .i64 s.length)),(22,.p (.int .i64 i))],[],[]⟩=some (.normal,⟨[(0,.p (.str s)),(1,.p (.str (b4g more))),(21,.p (.int .i64 s.length)),(22,.p (.int .i64 ((i+1:Nat):Int)))],[],[]⟩):=fun hb=>by
      cases hsm:b3d c with
      | true=>simp -implicitDefEqProofs (disch:=omega) only [Rx,simprocAttr,c1u,k1,hg,b5c,hsm]
      | false =>
        by_cases h48:(c.toNat:Int)<48
        · have hd:(b3d c || b4o c)=false:=by simp [hsm,b4o];omega
          have ho:¬ (Lib.indexByte (b4g more) c<0):=by rw [c7r more c hd,hb];simp
          simp -implicitDefEqProofs (disch:=omega) only [Rx,simprocAttr,c1u,k1,hg,b5c,hsm,h48,c3r,ho]
        · by_cases h57:57<(c.toNat:Int)
          · have hd:(b3d c || b4o c)=false:=by simp [hsm,b4o];omega
            have ho:¬ (Lib.indexByte (b4g more) c<0):=by rw [c7r more c hd,hb];simp
            simp -implicitDefEqProofs (disch:=omega) only [Rx,simprocAttr,c1u,k1,hg,b5c,hsm,h48,h57,c3r,ho]
          · simp -implicitDefEqProofs (disch:=omega) only [Rx,simprocAttr,c1u,k1,hg,b5c,hsm,h48,h57]
    cases hb:b2k more c with
    | true=>exact .inl ⟨i+1,good hb,by omega,by omega,by simp [hb]⟩
    | false =>
      refine .inr ⟨?_,by simp [hb,outB]⟩
      have hsm:b3d c=false:=by
        cases h:b3d c
        · rfl
        · rw [c5k h] at hb;cases hb
      have hdg:b4o c=false:=by
        cases h:b4o c
        · rfl
        · simp [b2k,h] at hb
      have hd:(b3d c || b4o c)=false:=by simp [hsm,hdg]
      have ho:Lib.indexByte (b4g more) c<0:=by rw [c7r more c hd,hb]
      have eF:outB ((c::s.drop (i+1)).all (b2k more))=(.ret,⟨[(4,.p (.bool false))],[],[]⟩):=by simp [outB,hb]
      by_cases h48:(c.toNat:Int)<48
      · rw [eF]
        simp -implicitDefEqProofs (disch:=omega) only [Rx,simprocAttr,c1u,k1,hg,b5c,hsm,h48,c3r,ho]
      · have h57:57<(c.toNat:Int):=by simp [b4o] at hdg;omega
        rw [eF]
        simp -implicitDefEqProofs (disch:=omega) only [Rx,simprocAttr,c1u,k1,hg,b5c,hsm,h48,h57,c3r,ho]
  · refine .inr ⟨?_,by rw [List.drop_eq_nil_of_le (by omega)];simp [outB]⟩
    have k1:¬ (i:Int)<(s.length:Int):=by omega
    rw [List.drop_eq_nil_of_le (by omega)]
    simp -implicitDefEqProofs (disch:=omega) only [Rx,simprocAttr,c1u,k1,outB]
theorem d4x (s : Bs) (more : Bool) (g : List AObj) (n : Nat) : b0g T (n + 35) 168 [.p (.str s), .p (.str (b4g more))] g = some (.p (.bool (b1z more s)), g) := by
  rw [b0a T168,run_pure rfl rfl rfl]
  cases s with
  | nil=>simp -implicitDefEqProofs (disch:=omega) only [Rx,simprocAttr,F168,b1z]
  | cons c r =>
    have k0:((c::r)==([]:Bs))=false:=rfl
    by_cases h32:(c::r).length≤32
    · have k1:¬ (32<(r.length:Int)+1):=by simp at h32;omega
      have hl:=g2s (n:=n+33) (N:=n+34) (c::r) more h32 (by omega) 0 (by simp)
      simp only [List.length_cons,Int.natCast_add,Int.natCast_one,Int.natCast_zero] at hl
      cases hsm:b3d c with
      | true =>
        have e:b1z more (c::r)=((c::r).drop 0).all (b2k more):=by
          simp only [b1z,hsm,List.drop_zero,List.all_cons,c5k hsm,Bool.true_and,Bool.and_true]
          simp at h32 ⊢
          omega
        rw [e]
        cases hb:((c::r).drop 0).all (b2k more) with
        | true =>
          have hl':outB (((c::r).drop 0).all (b2k more))=(.exit 0,⟨[],[],[]⟩):=by simp only [outB,hb];rfl
          rw [hl'] at hl
          simp -implicitDefEqProofs (disch:=omega) only [Rx,simprocAttr,F168,k0,k1,b5c,hsm,hl]
        | false =>
          have hl':outB (((c::r).drop 0).all (b2k more))=(.ret,⟨[(4,.p (.bool false))],[],[]⟩):=by simp only [outB,hb];rfl
          rw [hl'] at hl
          simp -implicitDefEqProofs (disch:=omega) only [Rx,simprocAttr,F168,k0,k1,b5c,hsm,hl]
      | false =>
        have e:b1z more (c::r)=false:=by simp [b1z,hsm]
        rw [e]
        simp -implicitDefEqProofs (disch:=omega) only [Rx,simprocAttr,F168,k0,k1,b5c,hsm]
    · have k1:32<(r.length:Int)+1:=by simp at h32;omega
      have e:b1z more (c::r)=false:=by simp [b1z];simp at h32;omega
      rw [e]
      simp -implicitDefEqProofs (disch:=omega) only [Rx,simprocAttr,F168,k0,k1]
theorem c4m (s:Bs) (g:List AObj) (n:Nat):b0g T (n+36) 116 [.p (.str s)] g=some (.p (.bool (b1z false s)),g):=by
 rw [b0a T116,run_pure rfl rfl rfl]
 have h:=d4x s false [] n
 simp only [b4g,Bool.false_eq_true,if_false] at h
 simp -implicitDefEqProofs (disch:=omega) only [Rx,simprocAttr,F116,h]
theorem b7u (s:Bs) (g:List AObj) (n:Nat):b0g T (n+36) 117 [.p (.str s)] g=some (.p (.bool (b1z true s)),g):=by
 rw [b0a T117,run_pure rfl rfl rfl]
 have h:=d4x s true [] n
 simp only [b4g,if_true] at h
 simp -implicitDefEqProofs (disch:=omega) only [Rx,simprocAttr,F117,h]
theorem b4i (s:Bs) (g:List AObj) (n:Nat):b0g T (n+1) 118 [.p (.str s)] g=some (.p (.bool (decide ((s.length:Int)≤65536))),g):=by
 rw [b0a T118,run_pure rfl rfl rfl]
 simp -implicitDefEqProofs (disch:=omega) only [Rx,simprocAttr,F118]
end Go.TA.Tryz


end
section
/- What is wrong with attributes: the program. -/
namespace Go.TA.Tryz
theorem h7w {n N : Nat} (l : List Attr) (hN : l.length < N) :
    b0r (b0g T (n+36)) N (.loop b7w) ⟨[(0,.p (.list (l.map Attr.pv))),(7,.p (.list (l.map Attr.pv))),(8,.p (.int .i64 l.length)),(9,.p (.int .i64 ((0:Nat):Int)))],[],[]⟩=some (b4x (b0z [] 0 l)):=by
  refine b1w (C:=b0g T (n+36)) (N:=N) (B:=b7w) (σ := Nat) (S:=fun i=>⟨[(0,.p (.list (l.map Attr.pv))),(7,.p (.list (l.map Attr.pv))),(8,.p (.int .i64 l.length)),(9,.p (.int .i64 i))],[],[]⟩) (I:=fun i=>i≤l.length∧i≤64) (μ := fun i=>l.length - i)
    (Φ := fun i=>b4x (b0z (b2c l i) i (l.drop i))) ?_ 0 ⟨by omega,by omega⟩ (by omega)
  rintro i ⟨hi,hi64⟩
  by_cases h:i<l.length
  · have k1 : (i : Int) < (l.length : Int) := by omega
    obtain ⟨a,ha⟩:=b0t h
    have ga:=b1l (f:=Attr.pv) ha
    rw [g1k ha]
    have bad:∀ e:Int,b1r (b2c l i) i a=e→e≠0→b0r (b0g T (n+36)) N b7w ⟨[(0,.p (.list (l.map Attr.pv))),(7,.p (.list (l.map Attr.pv))),(8,.p (.int .i64 l.length)),(9,.p (.int .i64 i))],[],[]⟩=some (.ret,⟨[(2,.p (.int .i64 i)),(3,.p (.int .i64 e))],[],[]⟩) →
        (∃ s',b0r (b0g T (n+36)) N b7w ⟨[(0,.p (.list (l.map Attr.pv))),(7,.p (.list (l.map Attr.pv))),(8,.p (.int .i64 l.length)),(9,.p (.int .i64 i))],[],[]⟩=some (.normal,(fun (i:Nat)=>(⟨[(0,.p (.list (l.map Attr.pv))),(7,.p (.list (l.map Attr.pv))),(8,.p (.int .i64 l.length)),(9,.p (.int .i64 i))],[],[]⟩:St)) s')∧(s'≤l.length∧s'≤64)∧l.length - s'<l.length - i∧b4x (if b1r (b2c l i) i a=0 then b0z (b2c l (i+1)) (i+1) (l.drop (i+1)) else ((i:Int),b1r (b2c l i) i a))=b4x (b0z (b2c l s') s' (l.drop s'))) ∨
        (b0r (b0g T (n+36)) N b7w ⟨[(0,.p (.list (l.map Attr.pv))),(7,.p (.list (l.map Attr.pv))),(8,.p (.int .i64 l.length)),(9,.p (.int .i64 i))],[],[]⟩=some (b4x (if b1r (b2c l i) i a=0 then b0z (b2c l (i+1)) (i+1) (l.drop (i+1)) else ((i:Int),b1r (b2c l i) i a)))∧(b4x (if b1r (b2c l i) i a=0 then b0z (b2c l (i+1)) (i+1) (l.drop (i+1)) else ((i:Int),b1r (b2c l i) i a))).1 ≠ .normal):=fun e he h0 hr=>by
      refine .inr ?_
      rw [he,if_neg h0]
      simp only [b4x,h0,if_false]
      exact ⟨hr,by simp⟩
    by_cases h64:i=64
    · refine bad 12 (by simp [b1r,h64]) (by decide) ?_
      have k2:((i:Int)==64)=true:=by simp;omega
      simp -implicitDefEqProofs (disch:=omega) only [Rx,simprocAttr,b7w,k1,k2,ga,Attr.pv]
    have k2:((i:Int)==64)=false:=by simp;omega
    cases hnm:b1z true a.name with
    | false =>
      refine bad 8 (by simp [b1r,h64,hnm]) (by decide) ?_
      simp -implicitDefEqProofs (disch:=omega) only [Rx,simprocAttr,b7w,k1,k2,ga,Attr.pv,b7u,hnm]
    | true=>
    by_cases hlong:(a.value.length:Int)≤65536
    rotate_left
    · refine bad 3 (by simp [b1r,h64,hnm];omega) (by decide) ?_
      simp -implicitDefEqProofs (disch:=omega) only [Rx,simprocAttr,b7w,k1,k2,ga,Attr.pv,b7u,hnm,b4i,hlong]
    have hlong':¬ (65536<(a.value.length:Int)):=by omega
    cases i with
    | zero =>
      have e:b1r (b2c l 0) 0 a=0:=by simp [b1r,hnm,hlong',b2c]
      rw [e,if_pos rfl]
      refine .inl ⟨1, ?_,⟨by omega,by omega⟩,by omega,rfl⟩
      simp only [Int.natCast_zero,Int.natCast_one] at k1 k2 ⊢
      have k3:(0:Int)<(l.length:Int):=k1
      have ga0:(l.map Attr.pv).getD 0 []=Attr.pv a:=ga
      have e0:Int.toNat 0=0:=rfl
      simp -implicitDefEqProofs (disch:=omega) only [Rx,simprocAttr,b7w,k3,ga0,e0,Attr.pv,b7u,hnm,b4i,hlong]
    | succ j =>
      obtain ⟨b,hb⟩:=b0t (show j<l.length by omega)
      have gb:=b1l (f:=Attr.pv) hb
      have ep:b2c l (j+1)=[b]:=by simp [b2c,hb]
      have k3:(0:Int)<(j:Int)+1:=by omega
      have k4:(j:Int)<(l.length:Int):=by omega
      simp only [Int.natCast_add,Int.natCast_one] at k1 k2
      have k5:((j:Int)+1).toNat=j+1:=by omega
      by_cases heq:b.name=a.name
      · refine bad 10 (by simp [b1r,h64,hnm,hlong',ep,heq]) (by decide) ?_
        have heq':(b.name==a.name)=true:=by simpa using heq
        simp -implicitDefEqProofs (disch:=omega) only [Rx,simprocAttr,b7w,k1,k2,k3,k4,k5,ga,gb,Attr.pv,b7u,hnm,b4i,hlong,heq']
      · have heq':(b.name==a.name)=false:=by simpa using heq
        have hcmp:=d6j heq
        by_cases hgt:0<cmpB b.name a.name
        · refine bad 9 (by simp [b1r,h64,hnm,hlong',ep,heq,hgt]) (by decide) ?_
          have hl:b3b b.name a.name=false:=by have:=hcmp.1 hgt;rw [heq',Bool.or_false] at this;exact this
          simp -implicitDefEqProofs (disch:=omega) only [Rx,simprocAttr,b7w,k1,k2,k3,k4,k5,ga,gb,Attr.pv,b7u,hnm,b4i,hlong,heq',binS,hl]
        · have e:b1r (b2c l (j+1)) (j+1) a=0:=by simp [b1r,h64,hnm,hlong',ep,heq,hgt]
          have hl:b3b b.name a.name=true:=by
            cases h:b3b b.name a.name
            · exact absurd (hcmp.2 (by rw [h,heq'];rfl)) hgt
            · rfl
          rw [e,if_pos rfl]
          refine .inl ⟨j+1+1, ?_,⟨by omega,by omega⟩,by omega,rfl⟩
          simp -implicitDefEqProofs (disch:=omega) only [Rx,simprocAttr,b7w,k1,k2,k3,k4,k5,ga,gb,Attr.pv,b7u,hnm,b4i,hlong,heq',binS,hl]
  · have k1:¬ (i:Int)<(l.length:Int):=by omega
    have e:l.drop i=[]:=List.drop_eq_nil_of_le (by omega)
    refine .inr ⟨?_,by rw [e];simp [b0z,b4x]⟩
    rw [e]
    simp -implicitDefEqProofs (disch:=omega) only [Rx,simprocAttr,b7w,k1,b0z,b4x]
theorem g9p (l : List Attr) (g : List AObj) {n : Nat} (hl : l.length < n + 36) : b0g T (n + 37) 119 [.p (.list (l.map Attr.pv))] g = some (.tuple [.p (.int .i64 (b0z [] 0 l).1), .p (.int .i64 (b2a l))], g) := by
  rw [b0a T119,run_pure rfl rfl rfl]
  have hloop:=h7w (n:=n) (N:=n+36) l hl
  simp only [Int.natCast_zero] at hloop
  unfold b2a
  have h1:(b0z [] 0 l).2=0→(b0z [] 0 l).1=0:=by
    have key:∀ (p:List Attr) (i:Nat) (l:List Attr),(b0z p i l).2=0→(b0z p i l).1=0:=by
      intro p i l
      induction l generalizing p i with
      | nil=>simp [b0z]
      | cons a l ih =>
        simp only [b0z]
        split
        · exact ih _ _
        · rename_i h;intro h';exact absurd h' h
    exact key [] 0 l
  generalize b0z [] 0 l=r at hloop h1
  obtain ⟨x,e⟩:=r
  simp only [b4x] at hloop h1 ⊢
  by_cases h:e=0
  · rw [if_pos h] at hloop
    rw [h1 h,h]
    simp -implicitDefEqProofs (disch:=omega) only [Rx,simprocAttr,F119,hloop]
  · rw [if_neg h] at hloop
    simp -implicitDefEqProofs (disch:=omega) only [Rx,simprocAttr,F119,hloop]
end Go.TA.Tryz


end
section
/- A row of attributes is cloned. -/
namespace Go.TA.Tryz
theorem g9o (l:List Attr):((l.map Attr.pv).all fun x=>x.length==2)=true:=by simp [List.all_eq_true,Attr.pv]
theorem b8t:∀ (l:List Attr),PV.sameLL (l.map Attr.pv) (l.map Attr.pv)=true
 | []=>rfl
 | a::l=>by simp [PV.sameLL,PV.sameL,PV.same,Attr.pv,b8t l]
theorem b4j (l:List Attr) (h:l.length≤1048577) (g:List AObj) (n:Nat):b0g T (n+1) 56 [.p (.list (l.map Attr.pv))] g=some (.own true g.length l.length,g++[.pcells 2 (l.map Attr.pv)]):=by
 rw [b4y T56]
 have h2:=g9o l
 have h3:l.length*4096≤140737488355328:=by omega
 simp only [b6k,thaw,c0n,c5m,h2,List.length_map,h3,and_self,if_true]
end Go.TA.Tryz


end
section
/- attrs.With, attrs.Without. -/
namespace Go.TA.Tryz
def toAt (l:List Attr) (name:Bs) (i:Nat):Int:=if posAt l name<i then (posAt l name:Int) else (l.length:Int)
theorem h2t (l : List Attr) (name : Bs) (hl : l.length ≤ 1048577) (g : List AObj) {n : Nat} (hn : l.length < n) :
    b0g T (n+1) 171 [.p (.list (l.map Attr.pv)),.p (.str name)] g=some (.tuple [.p (.int .i64 (if fstAt l name<l.length then (fstAt l name:Int) else (posAt l name:Int))),.p (.bool (decide (fstAt l name<l.length)))],g):=by
  have hpl:posAt l name≤l.length:=List.findIdx_le_length
  have key:=b2v (C:=b0g T n) (N:=n) (B:=c9i) (σ := Nat) (S:=fun i=>⟨[(0,.p (.list (l.map Attr.pv))),(1,.p (.str name)),(6,.p (.int .i64 (toAt l name i))),(11,.p (.list (l.map Attr.pv))),(12,.p (.int .i64 l.length)),(13,.p (.int .i64 i))],[],[]⟩)
    (I:=fun i=>i≤l.length∧i≤fstAt l name) (μ := fun i=>l.length - i) (Q:=fun q=>q=if fstAt l name<l.length then (.ret,⟨[(4,.p (.int .i64 (fstAt l name))),(5,.p (.bool true))],[],[]⟩) else (.exit 0,⟨[(6,.p (.int .i64 (posAt l name)))],[],[]⟩)) ?_ 0 ⟨by omega,by omega⟩ (by omega)
  · obtain ⟨q,hq,rfl⟩:=key
    have e0:toAt l name 0=(l.length:Int):=by simp [toAt]
    simp only [Int.natCast_zero,e0] at hq
    rw [b0a T171,run_pure rfl rfl rfl]
    by_cases hc:fstAt l name<l.length
    · rw [if_pos hc] at hq
      rw [if_pos hc]
      have ed:decide (fstAt l name<l.length)=true:=by simpa using hc
      simp -implicitDefEqProofs (disch:=omega) only [Rx,simprocAttr,F171,hq,ed]
    · rw [if_neg hc] at hq
      rw [if_neg hc]
      have ed:decide (fstAt l name<l.length)=false:=by simpa using hc
      simp -implicitDefEqProofs (disch:=omega) only [Rx,simprocAttr,F171,hq,ed]
  rintro i ⟨h1,h2⟩
  by_cases hi:i<l.length
  · have k1 : (i : Int) < (l.length : Int) := by omega
    have hx:=List.getElem?_eq_getElem hi
    have hg:=b1l (f:=Attr.pv) hx
    generalize hxa:l[i]=a at hx hg
    by_cases e:i=fstAt l name
    · right
      have hp:(a.name==name)=true:=by
        have:=List.findIdx_getElem (xs:=l) (p:=fun a=>a.name==name) (w:=by unfold fstAt at e;omega)
        simp only [fstAt] at e
        subst e;rw [hxa] at this;exact this
      refine ⟨_, ?_, ?_,rfl⟩
      · rw [if_pos (by omega), ← e]
        simp -implicitDefEqProofs (disch:=omega) only [Rx,simprocAttr,c9i,k1,hg,Attr.pv,hp]
      · rw [if_pos (by omega)];simp
    · left
      have hp:(a.name==name)=false:=by
        have:=List.not_of_lt_findIdx (xs:=l) (p:=fun a=>a.name==name) (i:=i) (by unfold fstAt at e h2;omega)
        rw [hxa] at this
        simpa using this
      refine ⟨i+1, ?_,⟨by omega,by omega⟩,by omega⟩
      by_cases hlt:posAt l name<i
      · have e1:toAt l name i=(posAt l name:Int):=by simp [toAt,hlt]
        have e2:toAt l name (i+1)=(posAt l name:Int):=by rw [toAt,if_pos (by omega)]
        have k2:(posAt l name:Int)<(l.length:Int):=by omega
        rw [e1,e2]
        simp -implicitDefEqProofs (disch:=omega) only [Rx,simprocAttr,c9i,k1,k2,hg,Attr.pv,hp]
      · have e1:toAt l name i=(l.length:Int):=by simp [toAt,hlt]
        have k2:¬ (l.length:Int)<(l.length:Int):=by omega
        cases hs:b3b a.name name with
        | true =>
          have hne:posAt l name≠i:=fun e=>by
            have:=List.findIdx_getElem (xs:=l) (p:=fun a => !(b3b a.name name)) (w:=by unfold posAt at e;omega)
            simp only [posAt] at e
            subst e;rw [hxa,hs] at this;simp at this
          have e2:toAt l name (i+1)=(l.length:Int):=by rw [toAt,if_neg (by omega)]
          rw [e1,e2]
          simp -implicitDefEqProofs (disch:=omega) only [Rx,simprocAttr,c9i,k1,k2,hg,Attr.pv,hp,hs,binS]
        | false =>
          have hpi:posAt l name=i:=by
            have h3:¬ i<posAt l name:=fun h=>by
              have:=List.not_of_lt_findIdx (xs:=l) (p:=fun a:Attr => !(b3b a.name name)) (i:=i) (by unfold posAt at h;exact h)
              rw [hxa,hs] at this
              simp at this
            omega
          have e2:toAt l name (i+1)=(i:Int):=by rw [toAt,if_pos (by omega),hpi]
          rw [e1,e2]
          simp -implicitDefEqProofs (disch:=omega) only [Rx,simprocAttr,c9i,k1,k2,hg,Attr.pv,hp,hs,binS]
  · right
    obtain rfl:i=l.length:=by omega
    have k1:¬ (l.length:Int)<(l.length:Int):=by omega
    have e1:toAt l name l.length=(posAt l name:Int):=by
      unfold toAt
      split
      · rfl
      · omega
    refine ⟨_, ?_, ?_,rfl⟩
    · rw [if_neg (by omega),e1]
      simp -implicitDefEqProofs (disch:=omega) only [Rx,simprocAttr,c9i,k1]
    · rw [if_neg (by omega)];simp
theorem d8s (l:List Attr) (at':Nat) (a:Attr) (hat:at'≤l.length) (hl:l.length≤1048577) (n:Nat):b0g T (n+1) 172 [.own true 0 l.length,.p (.int .i64 at'),.p (.list [a.pv])] [.pcells 2 (l.map Attr.pv)]=some (.p (.list ((l.take at'++a::l.drop at').map Attr.pv)),[.dead]):=by
 rw [b4y T172]
 have h5:(l.length+1)*4096≤140737488355328:=by omega
 have h6:(at':Int)≤(l.length:Int):=by omega
 have h7:(a.pv.length==2)=true:=rfl
 simp [b7x,h7,h5,h6,List.map_take,List.map_drop]
theorem d9r (l:List Attr) (name v:Bs) (hl:l.length≤1048577) (g:List AObj) {n:Nat} (hn:l.length<n) :
  b0g T (n+2) 125 [.p (.list (l.map Attr.pv)),.p (.str name),.p (.str v)] g=some (.p (.list ((b6s l name v).map Attr.pv)),g):=by
 have hf:=h2t l name hl [] hn
 have hcl:=b4j l hl [] n
 have hpl:posAt l name≤l.length:=List.findIdx_le_length
 have hin:=d8s l (posAt l name) ⟨name,v⟩ hpl hl n
 rw [b0a T125,run_pure rfl rfl rfl]
 have ml:(l.map Attr.pv).length=l.length:=by simp
 simp only [List.length_nil,List.nil_append] at hcl
 by_cases hc:fstAt l name<l.length
 ·have ed:decide (fstAt l name<l.length)=true:=by simpa using hc
  rw [if_pos hc,ed] at hf
  have ew:(b6s l name v).map Attr.pv=(l.map Attr.pv).set (fstAt l name) [.str name,.str v]:=by rw [b6s,if_pos hc,List.map_set];rfl
  rw [ew]
  have hx:=List.getElem?_eq_getElem hc
  have hp:(l[fstAt l name]).name=name:=by
   have h9:((l[fstAt l name]).name==name)=true:=List.findIdx_getElem (xs:=l) (p:=fun a:Attr=>a.name==name) (w:=by unfold fstAt at hc;exact hc)
   exact beq_iff_eq.1 h9
  have hg:=b1l (f:=Attr.pv) hx
  simp only [Attr.pv,hp] at hg
  have k2:(fstAt l name:Int)<(l.length:Int):=by omega
  generalize fstAt l name=i at *
  have sl:((l.map Attr.pv).set i [.str name,.str v]).length=l.length:=by simp
  simp -implicitDefEqProofs (disch:=omega) only [Rx,simprocAttr,F125,hf,hcl,hg,k2,ml,sl]
 ·have ed:decide (fstAt l name<l.length)=false:=by simpa using hc
  rw [if_neg hc,ed] at hf
  have ew:b6s l name v=l.take (posAt l name)++⟨name,v⟩::l.drop (posAt l name):=by rw [b6s,if_neg hc]
  rw [ew]
  generalize l.take (posAt l name)++(⟨name,v⟩:Attr)::l.drop (posAt l name)=l' at hin
  simp only [Attr.pv] at hin
  simp -implicitDefEqProofs (disch:=omega) only [Rx,simprocAttr,F125,hf,hcl,hin]
end Go.TA.Tryz


end
section
/- A row that is gone through, some of whose elements stay. Plain. -/
namespace Go.TA
theorem c8p {α : Type} {p : α → Bool} {l:List α} {j:Nat} {x : α} (hx:l[j]? = some x):(l.take (j+1)).filter p=(l.take j).filter p++(if p x=true then [x] else []):=by
 rw [List.take_add_one,hx]
 simp only [List.filter_append,Option.toList_some,List.filter_cons,List.filter_nil]
theorem b9i {α : Type} {p : α → Bool} {l:List α} (h:∀ x ∈ l,p x=true):l.filter p=l:=List.filter_eq_self.2 h
structure b7r {α : Type} (p : α → Bool) (l:List α) (j i:Nat) (cur:List α):Prop where
 len:cur.length=l.length
 lt:i≤j
 have':cur.take i=(l.take j).filter p
 come:cur.drop j=l.drop j
theorem b7r.il {α : Type} {p : α → Bool} {l:List α} {j i:Nat} {cur:List α} (h:b7r p l j i cur) (hj:j≤l.length):i=((l.take j).filter p).length:=by
 rw [← h.have',List.length_take,h.len]
 have:=h.lt
 omega
theorem b7r.at {α : Type} {p : α → Bool} {l:List α} {j i:Nat} {cur:List α} (h:b7r p l j i cur):cur[j]? = l[j]? := by
 have:=congrArg (·[0]?) h.come
 simpa [List.getElem?_drop] using this
theorem b7r.skip {α : Type} {p : α → Bool} {l:List α} {j i:Nat} {cur:List α} (h:b7r p l j i cur) {x : α} (hx:l[j]? = some x) (hp:p x=false):b7r p l (j+1) i cur:=by
 refine ⟨h.len,by have:=h.lt;omega, ?_, ?_⟩
 ·rw [c8p hx,h.have',hp];simp
 ·have:=congrArg (List.drop 1) h.come
  simpa [List.drop_drop,Nat.add_comm] using this
theorem b7r.take {α : Type} {p : α → Bool} {l:List α} {j i:Nat} {cur:List α} (h:b7r p l j i cur) {x : α} (hx:l[j]? = some x) (hp:p x=true):b7r p l (j+1) (i+1) (cur.set i x):=by
 have hj:j<l.length:=(List.getElem?_eq_some_iff.1 hx).1
 have hlt:=h.lt
 refine ⟨by rw [List.length_set];exact h.len,by omega, ?_, ?_⟩
 ·rw [c8p hx,hp,if_pos rfl, ← h.have',List.take_add_one,List.getElem?_set]
  have:i<cur.length:=by rw [h.len];omega
  rw [if_pos rfl,if_pos this]
  simp [List.take_set_of_le]
 ·have:=congrArg (List.drop 1) h.come
  rw [List.drop_drop,List.drop_drop] at this
  rw [List.drop_set_of_lt (by omega)]
  exact this
end Go.TA


end
section
/- slices.DeleteFunc on a row of attributes that was cloned; attrs.Without. -/
namespace Go.TA.Tryz
theorem c4g (l:List Attr):(l.map Attr.pv).length=l.length:=by simp
section
variable {h:Bs} {kb k:Nat}
theorem g1j (x:Attr) (g:List AObj) (hkb:g[kb]? = some (.pcells 1 [[.str h]])) (n:Nat):b0g T (n+1) 174 [.p (.agg x.pv),.ptr true kb 1 1 0 0] g=some (.p (.bool (x.name==h)),g):=by
 rw [b0a T174,b0e rfl rfl]
 have e0:Int.toNat 0=0:=rfl
 simp -implicitDefEqProofs (disch:=omega) only [Rx,simprocAttr,F174,Attr.pv,hkb]
theorem g8f (ks : List Attr) (g : List AObj) (hk : g[k]? = some (.pcells 2 (ks.map Attr.pv))) (hkb : g[kb]? = some (.pcells 1 [[.str h]])) (hl : ks.length ≤ 1048577) {n : Nat} (hn : ks.length + 1 < n) :
    b0g T (n+2) 203 [.own true k ks.length,.func 174 [.ptr true kb 1 1 0 0]] g=some (.p (.int .i64 (if ks.findIdx (fun a=>a.name==h)<ks.length then (ks.findIdx (fun a=>a.name==h):Int) else -1)),g):=by
  have il:=c4g ks
  have key:=b2v (C:=b0g T (n+1)) (N:=n+1) (B:=d6x) (σ := Nat) (S:=fun i=>⟨[(0,.own true k ks.length),(1,.func 174 [.ptr true kb 1 1 0 0]),(7,.p (.int .i64 ks.length)),(8,.p (.int .i64 i))],[],g⟩)
    (I:=fun i=>i≤ks.length∧i≤ks.findIdx (fun a=>a.name==h)) (μ := fun i=>ks.length - i) (Q:=fun q=>q=if ks.findIdx (fun a=>a.name==h)<ks.length then (.ret,⟨[(4,.p (.int .i64 (ks.findIdx (fun a=>a.name==h))))],[],g⟩) else (.exit 0,⟨[],[],g⟩)) ?_ 0 ⟨by omega,by omega⟩ (by omega)
  · obtain ⟨q,hq,rfl⟩:=key
    simp only [Int.natCast_zero] at hq
    rw [b0a T203,b0e rfl rfl]
    by_cases hc:ks.findIdx (fun a=>a.name==h)<ks.length
    · rw [if_pos hc] at hq
      rw [if_pos hc]
      simp -implicitDefEqProofs (disch:=omega) only [Rx,simprocAttr,F203,hq]
    · rw [if_neg hc] at hq
      rw [if_neg hc]
      simp -implicitDefEqProofs (disch:=omega) only [Rx,simprocAttr,F203,hq]
  rintro i ⟨h1,h2⟩
  by_cases hi:i<ks.length
  · have k1:(i:Int)<(ks.length:Int):=by omega
    have hg:=b1l (f:=Attr.pv) (List.getElem?_eq_getElem hi)
    have hc:=g1j (h:=h) ks[i] g hkb n
    simp only [Attr.pv] at hg hc
    by_cases e:i=ks.findIdx (fun a=>a.name==h)
    · right
      have hp:((ks[i]).name==h)=true:=by
        have:=List.findIdx_getElem (xs:=ks) (p:=(fun a=>a.name==h)) (w:=by omega)
        subst e;exact this
      rw [hp] at hc
      refine ⟨_, ?_, ?_,rfl⟩
      · rw [if_pos (by omega), ← e]
        simp -implicitDefEqProofs (disch:=omega) only [Rx,simprocAttr,d6x,k1,hg,hk,hc,il]
      · rw [if_pos (by omega)];simp
    · left
      have hp:((ks[i]).name==h)=false:=by
        have:=List.not_of_lt_findIdx (xs:=ks) (p:=(fun a=>a.name==h)) (i:=i) (by omega)
        simpa using this
      rw [hp] at hc
      refine ⟨i+1, ?_,⟨by omega,by omega⟩,by omega⟩
      simp -implicitDefEqProofs (disch:=omega) only [Rx,simprocAttr,d6x,k1,hg,hk,hc,il]
  · right
    obtain rfl:i=ks.length:=by omega
    have k1:¬ (ks.length:Int)<(ks.length:Int):=by omega
    refine ⟨_, ?_, ?_,rfl⟩
    · rw [if_neg (by omega)]
      simp -implicitDefEqProofs (disch:=omega) only [Rx,simprocAttr,d6x,k1]
    · rw [if_neg (by omega)];simp
theorem g8z (ks:List Attr) (g:List AObj) (hk:k<g.length) (hkb:g[kb]? = some (.pcells 1 [[.str h]])) (hne:k≠kb) (hl:ks.length≤1048577) (n N:Nat) (hN:ks.length<N) (j0 i0:Nat) (h0:b7r (notN h) ks j0 i0 ks) (hj0:j0≤ks.length) :
    ∃ cur i,b0r (b0g T (n+1)) N (.loop b6d) ⟨[(0,.own true k ks.length),(1,.func 174 [.ptr true kb 1 1 0 0]),(5,.p (.int .i64 i0)),(6,.p (.int .i64 j0))],[],g.set k (.pcells 2 (ks.map Attr.pv))⟩=some (.exit 0,⟨[(0,.own true k ks.length),(5,.p (.int .i64 (i:Nat)))],[],g.set k (.pcells 2 (cur.map Attr.pv))⟩)∧b7r (notN h) ks ks.length i cur:=by
  have key:=b2v (C:=b0g T (n+1)) (N:=N) (B:=b6d) (σ := Nat × Nat × List Attr) (S:=fun s=>⟨[(0,.own true k ks.length),(1,.func 174 [.ptr true kb 1 1 0 0]),(5,.p (.int .i64 s.1)),(6,.p (.int .i64 s.2.1))],[],g.set k (.pcells 2 (s.2.2.map Attr.pv))⟩)
    (I:=fun s=>s.2.1≤ks.length∧b7r (notN h) ks s.2.1 s.1 s.2.2) (μ := fun s=>ks.length - s.2.1) (Q:=fun q=>∃ cur i,q=(.exit 0,⟨[(0,.own true k ks.length),(5,.p (.int .i64 (i:Nat)))],[],g.set k (.pcells 2 (cur.map Attr.pv))⟩)∧b7r (notN h) ks ks.length i cur) ?_ (i0,j0,ks) ⟨hj0,h0⟩ (by simp only;omega)
  · obtain ⟨q,hq,cur,i,rfl,hg⟩:=key
    exact ⟨cur,i,hq,hg⟩
  rintro ⟨i,j,cur⟩ ⟨h1,h2⟩
  simp only at h1 h2 ⊢
  have hgk:(g.set k (.pcells 2 (cur.map Attr.pv)))[k]? = some (.pcells 2 (cur.map Attr.pv)):=by rw [List.getElem?_set,if_pos rfl,if_pos hk]
  have hgb:(g.set k (.pcells 2 (cur.map Attr.pv)))[kb]? = some (.pcells 1 [[.str h]]):=by rw [List.getElem?_set,if_neg hne];exact hkb
  have hss:∀ o o':AObj,(g.set k o).set k o'=g.set k o':=fun o o'=>by simp
  have il:=c4g cur
  rw [h2.len] at il
  have hlt:=h2.lt
  by_cases hj:j<ks.length
  · left
    obtain ⟨x,hx⟩:∃ x,ks[j]? = some x:=⟨_,List.getElem?_eq_getElem hj⟩
    have k1:(j:Int)<(ks.length:Int):=by omega
    have k2:(i:Int)<(ks.length:Int):=by omega
    have hg:=b1l (f:=Attr.pv) (h2.at.trans hx)
    have hc:=g1j (h:=h) x (g.set k (.pcells 2 (cur.map Attr.pv))) hgb n
    simp only [Attr.pv] at hg hc
    cases hp:(x.name==h) with
    | true =>
      rw [hp] at hc
      refine ⟨(i,j+1,cur), ?_,⟨by simp only;omega,h2.skip hx (by simp [notN,hp])⟩,by simp only;omega⟩
      simp -implicitDefEqProofs (disch:=omega) only [Rx,simprocAttr,b6d,k1,hg,hgk,hc,il]
    | false =>
      rw [hp] at hc
      have hset:(cur.map Attr.pv).set i [.str x.name,.str x.value]=(cur.set i x).map Attr.pv:=by simp [List.map_set,Attr.pv]
      have hgi:=b1l (f:=Attr.pv) (List.getElem?_eq_getElem (show i<cur.length by rw [h2.len];omega))
      simp only [Attr.pv] at hgi
      refine ⟨(i+1,j+1,cur.set i x), ?_,⟨by simp only;omega,h2.take hx (by simp [notN,hp])⟩,by simp only;omega⟩
      simp -implicitDefEqProofs (disch:=omega) only [Rx,simprocAttr,b6d,k1,k2,hg,hgi,hgk,hc,il,hset,hss]
  · right
    obtain rfl:j=ks.length:=by omega
    have k1:¬ (ks.length:Int)<(ks.length:Int):=by omega
    refine ⟨_, ?_, ?_,cur,i,rfl,h2⟩
    · simp -implicitDefEqProofs (disch:=omega) only [Rx,simprocAttr,b6d,k1]
    · simp
theorem h3l (ks : List Attr) (g : List AObj) (hk : g[k]? = some (.pcells 2 (ks.map Attr.pv))) (hkb : g[kb]? = some (.pcells 1 [[.str h]])) (hne : k ≠ kb) (hl : ks.length ≤ 1048577) {n : Nat} (hn : ks.length + 1 < n) :
    b0g T (n+3) 173 [.own true k ks.length,.func 174 [.ptr true kb 1 1 0 0]] g=some (.p (.list ((ks.filter (notN h)).map Attr.pv)),g.set k .dead):=by
  rw [b4y T173]
  have hf:=g8f ks g hk hkb hl hn
  have il:=c4g ks
  have hkl:k<g.length:=(List.getElem?_eq_some_iff.1 hk).1
  unfold b7y
  simp only
  by_cases hc:ks.findIdx (fun a=>a.name==h)<ks.length
  · rw [if_pos hc] at hf
    generalize hi:ks.findIdx (fun a=>a.name==h)=i0 at hc hf
    have hpre:∀ m,m<i0→∀ x,ks[m]? = some x→notN h x=true:=fun m hm x hx=>by
      have hml:m<ks.length:=(List.getElem?_eq_some_iff.1 hx).1
      have:=List.not_of_lt_findIdx (xs:=ks) (p:=(fun a=>a.name==h)) (i:=m) (by omega)
      rw [(List.getElem?_eq_some_iff.1 hx).2] at this
      simpa [notN] using this
    obtain ⟨a,hat,hah⟩:∃ a,ks[i0]? = some a∧(a.name==h)=true:=by
      have h9:=List.findIdx_getElem (xs:=ks) (p:=(fun a=>a.name==h)) (w:=by omega)
      subst hi
      exact ⟨_,List.getElem?_eq_getElem hc,h9⟩
    have hgo:b7r (notN h) ks (i0+1) i0 ks:=by
      have h1:b7r (notN h) ks i0 i0 ks:=by
        refine ⟨rfl,Nat.le_refl _, ?_,rfl⟩
        rw [b9i]
        intro x hx
        obtain ⟨m,hm,rfl⟩:=List.getElem_of_mem hx
        rw [List.length_take] at hm
        refine hpre m (by omega) _ ?_
        rw [List.getElem_take,List.getElem?_eq_getElem]
      exact h1.skip hat (by simp [notN,hah])
    obtain ⟨cur,i,hloop,hend⟩:=g8z (h:=h) (kb:=kb) ks g hkl hkb hne hl (n+1) (ks.length+2) (by omega) (i0+1) i0 hgo (by omega)
    have hself:g.set k (.pcells 2 (ks.map Attr.pv))=g:=by
      apply List.ext_getElem?
      intro m
      rw [List.getElem?_set]
      by_cases e:k=m
      · subst e;rw [if_pos rfl,if_pos hkl,hk]
      · rw [if_neg e]
    rw [hself] at hloop
    have e1:((i0:Int) == -1)=false:=by simp
    have hilt:=hend.il (Nat.le_refl _)
    have hihave:=hend.have'
    rw [List.take_length] at hilt hihave
    have hlt2:i<ks.length:=by
      rw [hilt]
      exact List.length_filter_lt_length_iff_exists.2 ⟨a,List.mem_of_getElem? hat,by simp [notN,hah]⟩
    have hrun:b0r (b0g T (n+2)) (ks.length+2) (b8a 203 b6d) (b3w [.own true k ks.length,.func 174 [.ptr true kb 1 1 0 0]] g)=some (.normal,⟨[(0,.own true k ks.length),(5,.p (.int .i64 (i:Nat)))],[],g.set k (.pcells 2 (cur.map Attr.pv))⟩):=by
      simp only [Int.natCast_add,Int.natCast_one] at hloop
      simp -implicitDefEqProofs (disch:=omega) only [Rx,simprocAttr,b8a,hf,hloop,e1]
    rw [hrun]
    have hgk:(g.set k (.pcells 2 (cur.map Attr.pv)))[k]? = some (.pcells 2 (cur.map Attr.pv)):=by rw [List.getElem?_set,if_pos rfl,if_pos hkl]
    have il2:(cur.map Attr.pv).length=ks.length:=by rw [c4g,hend.len]
    have hi2:(i:Int)<(ks.length:Int):=by omega
    have ht:(cur.map Attr.pv).take i=(ks.filter (notN h)).map Attr.pv:=by rw [← hihave];simp [List.map_take]
    simp [Option.bind_some,c5w,St.get,lk,c3d,hgk,il2,hi2,ht]
  · rw [if_neg hc] at hf
    have hall:ks.filter (notN h)=ks:=b9i fun x hx=>by
      have h1:¬ ks.findIdx (fun a=>a.name==h)<ks.length:=hc
      rw [List.findIdx_lt_length] at h1
      cases hq:(x.name==h) with
      | false=>simp [notN,hq]
      | true=>exact absurd ⟨x,hx,hq⟩ h1
    have hrun:b0r (b0g T (n+2)) (ks.length+2) (b8a 203 b6d) (b3w [.own true k ks.length,.func 174 [.ptr true kb 1 1 0 0]] g)=some (.ret,⟨[(4,.own true k ks.length)],[],g⟩):=by
      simp -implicitDefEqProofs (disch:=omega) only [Rx,simprocAttr,b8a,hf]
    rw [hrun,hall]
    simp [c5w,St.get,lk,c3d,hk,il]
end
theorem c6v (l:List Attr) (name:Bs) (hl:l.length≤1048577) (g:List AObj) {n:Nat} (hn:l.length+1<n) :
  b0g T (n+4) 126 [.p (.list (l.map Attr.pv)),.p (.str name)] g=some (.tuple [.p (.list ((b2r l name).map Attr.pv)),.p (.bool (decide ((b2r l name).length<l.length)))],g):=by
 have hcl:=b4j l hl [.pcells 1 [[.str name]]] (n+2)
 have hd:=h3l (h:=name) (kb:=0) (k:=1) l [.pcells 1 [[.str name]],.pcells 2 (l.map Attr.pv)] rfl rfl (by omega) hl hn
 rw [b0a T126,run_pure rfl rfl rfl]
 have wl:((b2r l name).map Attr.pv).length=(b2r l name).length:=by simp
 have ml:(l.map Attr.pv).length=l.length:=by simp
 unfold b2r at wl ⊢
 generalize l.filter (notN name)=l' at hd wl ⊢
 simp only [List.length_singleton,List.cons_append,List.nil_append] at hcl
 by_cases hlt:l'.length<l.length
 ·have hlt':(l'.length:Int)<(l.length:Int):=by omega
  have ed:decide (l'.length<l.length)=true:=by simpa using hlt
  rw [ed]
  simp -implicitDefEqProofs (disch:=omega) only [Rx,simprocAttr,F126,hcl,hd,wl,ml,hlt']
 ·have hlt':¬ (l'.length:Int)<(l.length:Int):=by omega
  have ed:decide (l'.length<l.length)=false:=by simpa using hlt
  rw [ed]
  simp -implicitDefEqProofs (disch:=omega) only [Rx,simprocAttr,F126,hcl,hd,wl,ml,hlt']
end Go.TA.Tryz


end
section
/- A document's nodes are found; its attributes and texts turn; it tells what comes next. -/
namespace Go.TA
structure DocM (R:Nat) (S:MS) (it nd:Nat→Nat) (I:Nat→LK) (pd pm:Nat) (g:List AObj):Prop where
 ok:S.Ok R
 link:b1n S I
 at':b1o (b0h S) S.st S.N it nd I pd pm g
def d2r (S:MS) (nd:Nat→Nat) (id:Int):AV:=.tuple [if fitE S id=0 then NP nd id.toNat else .p .nilp,.p (.int .i64 (fitE S id))]
theorem b7o {S:MS} {id:Int} (h:fitE S id=0):∃ c:Nat,id=(c:Int)∧c ∈ b0h S∧0<c:=c1h (by simp [h])
theorem d5c {S:MS} {nd:Nat→Nat} (id:Int):mlk 1 (mapD (b0h S) nd) (.int .i64 id)=if b2b S id=true then some (NP nd id.toNat) else none:=by
 rw [d2l]
 by_cases h:b2b S id=true
 ·obtain ⟨c,rfl,hc⟩:=b3u h
  rw [if_pos h,if_pos ⟨by simpa using hc,by omega⟩]
 ·rw [if_neg h,if_neg]
  rintro ⟨h1,h2⟩
  apply h
  have:((id.toNat:Nat):Int)=id:=by omega
  rw [← this]
  exact c8g.2 h1
namespace Tryz
section
variable {R:Nat} {S:MS} {nx:Int} {it nd:Nat→Nat} {I:Nat→LK} {pd pm:Nat} {g:List AObj}
theorem b9c (hD:b1o (b0h S) S.st nx it nd I pd pm g) (id:Int) (n:Nat):b0g T (n+1) 127 [DocP pd,.p (.int .i64 id)] g=some (d2r S nd id,g):=by
 have hd:=hD.doc
 have hm:=hD.map
 have hk:=b8l (b0h S) nd id
 have hl:=d5c (S:=S) (nd:=nd) id
 unfold d2r
 rw [b0a T127,b0e rfl rfl]
 by_cases h0:id=0
 ·have e:(id==0)=true:=by simpa using h0
  have f:fitE S id=14:=by simp [fitE,h0]
  simp -implicitDefEqProofs (disch:=omega) only [Rx,simprocAttr,F127,e,f]
 have e:(id==0)=false:=by simpa using h0
 by_cases hb:b2b S id=true
 ·have f:fitE S id=0:=by simp [fitE,h0,hb]
  rw [if_pos hb] at hl
  obtain ⟨c,rfl,hc⟩:=b3u hb
  have hn:=hD.nodes c hc
  simp only [Int.toNat_natCast] at hl
  simp -implicitDefEqProofs (disch:=omega) only [Rx,simprocAttr,F127,e,f,hd,hm,hk,hl,Option.getD_some]
 ·have f:fitE S id=13:=by simp [fitE,h0,hb]
  rw [if_neg hb] at hl
  simp -implicitDefEqProofs (disch:=omega) only [Rx,simprocAttr,F127,e,f,hd,hm,hk,hl,Option.getD_none]
theorem d1i (hD:b1o (b0h S) S.st nx it nd I pd pm g) (b:Int) (n:Nat):b0g T (n+2) 128 [DocP pd,.p (.int .i64 b)] g=some (.tuple [if b≠0∧fitE S b=0 then IP it b.toNat else .p .nilp,.p (.int .i64 (if b=0 then 0 else fitE S b))],g):=by
 have hl:=b9c hD b n
 unfold d2r at hl
 rw [b0a T128,b0e rfl rfl]
 by_cases h0:b=0
 ·have e:(b==0)=true:=by simpa using h0
  have f:¬ (b≠0∧fitE S b=0):=fun h=>h.1 h0
  rw [if_neg f,if_pos h0]
  simp -implicitDefEqProofs (disch:=omega) only [Rx,simprocAttr,F128,e]
 have e:(b==0)=false:=by simpa using h0
 rw [if_neg h0]
 by_cases hf:fitE S b=0
 ·rw [if_pos ⟨h0,hf⟩]
  rw [if_pos hf,hf] at hl
  obtain ⟨c,rfl,hc,_⟩:=b7o hf
  have hn:=hD.nodes c hc
  simp only [b8k] at hn
  simp only [Int.toNat_natCast] at hl
  rw [hf]
  simp -implicitDefEqProofs (disch:=omega) only [Rx,simprocAttr,F128,e,hl,hn]
 ·rw [if_neg (fun h=>hf h.2)]
  rw [if_neg hf] at hl
  have e2:(fitE S b==0)=false:=by simpa using hf
  generalize fitE S b=z at hl e2
  simp -implicitDefEqProofs (disch:=omega) only [Rx,simprocAttr,F128,e,e2,hl]
theorem h0q (hD:b1o (b0h S) S.st nx it nd I pd pm g) (id:Int) (s:Bs) (n:Nat) :
  ∃ g',b0g T (n+3) 110 [DocP pd,.p (.int .i64 id),.p (.str s)] g=some (.p (.int .i64 (c2u S id s).1),g')∧b1o (b0h (c2u S id s).2) (c2u S id s).2.st nx it nd I pd pm g'∧GFr g (b2q (b0h S) it nd pd pm) g' (b2q (b0h (c2u S id s).2) it nd pd pm):=by
 have hl:=b9c hD id (n+1)
 have hfi:=b4i s [] (n+1)
 unfold d2r at hl
 unfold c2u
 by_cases hf:fitE S id≠0
 ·rw [if_pos hf]
  rw [if_neg hf] at hl
  have e1:(fitE S id==0)=false:=by simpa using hf
  refine ⟨g, ?_,hD,GFr.refl _ _⟩
  rw [b0a T110,b0e rfl rfl]
  generalize fitE S id=e at hl e1 ⊢
  simp -implicitDefEqProofs (disch:=omega) only [Rx,simprocAttr,F110,hl,e1]
 rw [if_neg hf]
 simp only [ne_eq,Decidable.not_not] at hf
 obtain ⟨c,rfl,hcL,hc0⟩:=b7o hf
 rw [if_pos hf,hf] at hl
 simp only [Int.toNat_natCast] at hl
 by_cases hs:65536<(s.length:Int)
 ·rw [if_pos hs]
  have e2:decide ((s.length:Int)≤65536)=false:=by simp;omega
  rw [e2] at hfi
  refine ⟨g, ?_,hD,GFr.refl _ _⟩
  rw [b0a T110,b0e rfl rfl]
  simp -implicitDefEqProofs (disch:=omega) only [Rx,simprocAttr,F110,hl,hfi]
 rw [if_neg hs]
 have e2:decide ((s.length:Int)≤65536)=true:=by simp;omega
 rw [e2] at hfi
 have hn:=hD.nodes c hcL
 have hlv:b0h (textM S c s)=b0h S:=c1b (S:=S) (h:=c) (s:={ S.st c with text:=s }) rfl
 have hD':=hD.node hcL { S.st c with text:=s }
 simp only [Int.toNat_natCast]
 refine ⟨_, ?_,by rw [hlv];exact hD', ?_⟩
 ·rw [b0a T110,b0e rfl rfl]
  simp only [b8k] at hn ⊢
  simp -implicitDefEqProofs (disch:=omega) only [Rx,simprocAttr,F110,hl,hfi,hn]
 ·rw [hlv]
  exact ⟨by simp,fun j hj hO=>by rw [List.getElem?_set,if_neg (fun e=>hO (.inr (.inr ⟨c,hcL,.inr e.symm⟩)))],fun j hj _=>hj⟩
theorem h1x (hD:b1o (b0h S) S.st nx it nd I pd pm g) (n:Nat):b0g T (n+1) 35 [DocP pd] g=some (.p (.int .i64 nx),g):=by
 have hd:=hD.doc
 rw [b0a T35,b0e rfl rfl]
 simp -implicitDefEqProofs (disch:=omega) only [Rx,simprocAttr,F35,hd]
theorem h5b (hS:S.Ok R) (hD:b1o (b0h S) S.st nx it nd I pd pm g) (id:Int) (name v:Bs) {n:Nat} (hn:1048577<n) :
    ∃ g',b0g T (n+37) 108 [DocP pd,.p (.int .i64 id),.p (.str name),.p (.str v)] g=some (.p (.int .i64 (setD S id name v).1),g')∧b1o (b0h (setD S id name v).2) (setD S id name v).2.st nx it nd I pd pm g'∧GFr g (b2q (b0h S) it nd pd pm) g' (b2q (b0h (setD S id name v).2) it nd pd pm):=by
  have hl:=b9c hD id (n+35)
  have hfi:=b4i v [] (n+35)
  have hna:=b7u name [] n
  unfold d2r at hl
  unfold setD
  by_cases hf:fitE S id≠0
  · rw [if_pos hf]
    rw [if_neg hf] at hl
    have e1:(fitE S id==0)=false:=by simpa using hf
    refine ⟨g, ?_,hD,GFr.refl _ _⟩
    rw [b0a T108,b0e rfl rfl]
    generalize fitE S id=e at hl e1 ⊢
    simp -implicitDefEqProofs (disch:=omega) only [Rx,simprocAttr,F108,hl,e1]
  rw [if_neg hf]
  simp only [ne_eq,Decidable.not_not] at hf
  obtain ⟨c,rfl,hcL,hc0⟩:=b7o hf
  rw [if_pos hf,hf] at hl
  simp only [Int.toNat_natCast] at hl ⊢
  cases hb:b1z true name with
  | false =>
    rw [hb] at hna
    rw [if_pos rfl]
    refine ⟨g, ?_,hD,GFr.refl _ _⟩
    rw [b0a T108,b0e rfl rfl]
    simp -implicitDefEqProofs (disch:=omega) only [Rx,simprocAttr,F108,hl,hna]
  | true=>
  rw [hb] at hna
  rw [if_neg (by decide)]
  by_cases hs:65536<(v.length:Int)
  · rw [if_pos hs]
    have e2:decide ((v.length:Int)≤65536)=false:=by simp;omega
    rw [e2] at hfi
    refine ⟨g, ?_,hD,GFr.refl _ _⟩
    rw [b0a T108,b0e rfl rfl]
    simp -implicitDefEqProofs (disch:=omega) only [Rx,simprocAttr,F108,hl,hna,hfi]
  rw [if_neg hs]
  have e2:decide ((v.length:Int)≤65536)=true:=by simp;omega
  rw [e2] at hfi
  have hnd:=hD.nodes c hcL
  have hw:=d9r (S.st c).attrs name v (hS.attrs c (b0j.1 hcL).1) [] (n:=n+34) (by have:=hS.attrs c (b0j.1 hcL).1;omega)
  by_cases h64:64<((b6s (S.st c).attrs name v).length:Int)
  · rw [if_pos h64]
    have k64:((b6s (S.st c).attrs name v).length:Int) > 64:=h64
    refine ⟨g, ?_,hD,GFr.refl _ _⟩
    rw [b0a T108,b0e rfl rfl]
    have wl:((b6s (S.st c).attrs name v).map Attr.pv).length=(b6s (S.st c).attrs name v).length:=by simp
    generalize b6s (S.st c).attrs name v=l' at hw wl k64
    simp only [b8k] at hnd
    simp -implicitDefEqProofs (disch:=omega) only [Rx,simprocAttr,F108,hl,hna,hfi,hnd,hw,wl,k64]
  rw [if_neg h64]
  have k64:¬ ((b6s (S.st c).attrs name v).length:Int) > 64:=h64
  have hlv:b0h (setM S c (b6s (S.st c).attrs name v))=b0h S:=c1b (S:=S) (h:=c) (s:={ S.st c with attrs:=b6s (S.st c).attrs name v }) rfl
  have hD':=hD.node hcL { S.st c with attrs:=b6s (S.st c).attrs name v }
  refine ⟨_, ?_,by rw [hlv];exact hD', ?_⟩
  · rw [b0a T108,b0e rfl rfl]
    have wl:((b6s (S.st c).attrs name v).map Attr.pv).length=(b6s (S.st c).attrs name v).length:=by simp
    simp only [b8k] at hnd ⊢
    generalize b6s (S.st c).attrs name v=l' at hw wl k64
    simp -implicitDefEqProofs (disch:=omega) only [Rx,simprocAttr,F108,hl,hna,hfi,hnd,hw,wl,k64]
  · rw [hlv]
    exact ⟨by simp,fun j hj hO=>by rw [List.getElem?_set,if_neg (fun e=>hO (.inr (.inr ⟨c,hcL,.inr e.symm⟩)))],fun j hj _=>hj⟩
theorem h7b (hS:S.Ok R) (hD:b1o (b0h S) S.st nx it nd I pd pm g) (id:Int) (name:Bs) {n:Nat} (hn:1048578<n) :
  ∃ g',b0g T (n+5) 109 [DocP pd,.p (.int .i64 id),.p (.str name)] g=some (.p (.int .i64 (delD S id name).1),g')∧b1o (b0h (delD S id name).2) (delD S id name).2.st nx it nd I pd pm g'∧GFr g (b2q (b0h S) it nd pd pm) g' (b2q (b0h (delD S id name).2) it nd pd pm):=by
 have hl:=b9c hD id (n+3)
 unfold d2r at hl
 unfold delD
 by_cases hf:fitE S id≠0
 ·rw [if_pos hf]
  rw [if_neg hf] at hl
  have e1:(fitE S id==0)=false:=by simpa using hf
  refine ⟨g, ?_,hD,GFr.refl _ _⟩
  rw [b0a T109,b0e rfl rfl]
  generalize fitE S id=e at hl e1 ⊢
  simp -implicitDefEqProofs (disch:=omega) only [Rx,simprocAttr,F109,hl,e1]
 rw [if_neg hf]
 simp only [ne_eq,Decidable.not_not] at hf
 obtain ⟨c,rfl,hcL,hc0⟩:=b7o hf
 rw [if_pos hf,hf] at hl
 simp only [Int.toNat_natCast] at hl ⊢
 have hnd:=hD.nodes c hcL
 have hw:=c6v (S.st c).attrs name (hS.attrs c (b0j.1 hcL).1) [] (n:=n) (by have:=hS.attrs c (b0j.1 hcL).1;omega)
 by_cases hlt:(b2r (S.st c).attrs name).length<(S.st c).attrs.length
 ·rw [if_pos hlt]
  have ed:decide ((b2r (S.st c).attrs name).length<(S.st c).attrs.length)=true:=by simpa using hlt
  rw [ed] at hw
  have hlv:b0h (setM S c (b2r (S.st c).attrs name))=b0h S:=c1b (S:=S) (h:=c) (s:={ S.st c with attrs:=b2r (S.st c).attrs name }) rfl
  have hD':=hD.node hcL { S.st c with attrs:=b2r (S.st c).attrs name }
  refine ⟨_, ?_,by rw [hlv];exact hD', ?_⟩
  ·rw [b0a T109,b0e rfl rfl]
   simp only [b8k] at hnd ⊢
   generalize b2r (S.st c).attrs name=l' at hw
   simp -implicitDefEqProofs (disch:=omega) only [Rx,simprocAttr,F109,hl,hnd,hw]
  ·rw [hlv]
   exact ⟨by simp,fun j hj hO=>by rw [List.getElem?_set,if_neg (fun e=>hO (.inr (.inr ⟨c,hcL,.inr e.symm⟩)))],fun j hj _=>hj⟩
 ·rw [if_neg hlt]
  have ed:decide ((b2r (S.st c).attrs name).length<(S.st c).attrs.length)=false:=by simpa using hlt
  rw [ed] at hw
  refine ⟨g, ?_,hD,GFr.refl _ _⟩
  rw [b0a T109,b0e rfl rfl]
  simp only [b8k] at hnd
  generalize b2r (S.st c).attrs name=l' at hw
  simp -implicitDefEqProofs (disch:=omega) only [Rx,simprocAttr,F109,hl,hnd,hw]
end
end Tryz
end Go.TA


end
