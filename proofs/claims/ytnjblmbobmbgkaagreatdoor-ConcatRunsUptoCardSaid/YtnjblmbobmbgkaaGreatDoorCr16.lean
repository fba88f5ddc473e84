/- Part 16 of 16 of a proof; joined from CruConcatRunsFin. The law ConcatRuns, for every input of bulk at most 1048576: the call returns true, and nothing that was there has changed. -/
import Derived.Test.YtnjblmbobmbgkaaGreatDoorCards
import Derived.Test.YtnjblmbobmbgkaaGreatDoorTie
import Derived.WalkKit
import Derived.ProofKit
import Derived.OpenShut
import Derived.JoinedCond
import Derived.Deep.DeepHandedRow
import Derived.Lib.LaidTab
import Derived.Test.YtnjblmbobmbgkaaGreatDoorCr15
set_option linter.unusedSimpArgs false
set_option linter.unusedVariables false
section
/- The law ConcatRuns, for every input of bulk at most 1048576: the call returns true, and nothing that was there has changed. -/
namespace Go.Proofs.YtnjblmbobmbgkaaGreatDoor.concatRuns
open Go.ChangeShapes Go.WideShapes Go.ChangeAt Go.RowKit Go.TA
set_option maxRecDepth 100000
theorem own:ownKnob Tryz.prog.godebug=none:=by kernel_rfl
theorem kids:Kids Tryz.prog (· < Tryz.prog.types.size):=kids_rows (by kernel_rfl) (by kernel_rfl)
theorem full:∀ t e,t<Tryz.prog.types.size→Tryz.prog.underlying t=some (.slice e)→0<Tryz.prog.cellsOf e:=slices_full_of Tryz.prog (by kernel_rfl)
theorem bulk {H:Type}:Bulk (H:=H) Rows.uptoBulk Rows.uptoBulkAll where
 str bs:=by simp [Rows.uptoBulk]
 lit l:=by cases l <;> simp [Rows.uptoBulk]
 nil:=by simp [Rows.uptoBulk]
 slice a b:=by simp [Rows.uptoBulk]
 agg a:=by simp [Rows.uptoBulk]
 nilA:=by simp [Rows.uptoBulkAll]
 consA d r:=by simp [Rows.uptoBulkAll]
theorem laidVars_tail {P:Program} {w:World} {x:String × DataW Unit} {r:List (String × DataW Unit)} {ps:List MemPlace} (h:DataW.LaidVars P w (x::r) ps):∃ qs,DataW.LaidVars P w r qs:=by
 obtain ⟨n,d⟩:=x
 obtain ⟨g,t,cs,fuel,p,q,_,_,_,_,hq,_⟩:=h
 exact ⟨q,hq⟩
theorem tab_of_vars {P:Program} {W:World} {name:String} {k:IntKind} {zs:List Int} {rest:List (String × DataW Unit)} {ps:List MemPlace} {g:Nat} {t e:TypeId} {n:Nat}
  (hg:P.globalNamed name=some g) (hty:(P.globals[g]?).map (·.type)=some t) (ht:P.underlying t=some (.array n e)) (he:P.underlying e=some (.int k)) (hce:P.cellsOf e=1) (hct:P.cellsOf t=n)
  (h:DataW.LaidVars P W ((name,Lib.tabData k zs)::rest) ps):Lib.TabIs P W name k zs:=by
 obtain ⟨g',t',cs,fuel,p,q,hg',ht',hvar,hd,_,_⟩:=h
 obtain rfl:=Option.some.inj (hg.symm.trans hg')
 obtain rfl:=Option.some.inj (hty.symm.trans ht')
 unfold Lib.TabIs
 rw [hvar, ← Lib.cells_of_tab ht he hce hct hd]
theorem table {W:World} (h:laidMetH Tryz.prog Rows.concatRunsRow.laid W):Lib.TabIs Tryz.prog W "internal/strconv.uint64pow10" .u64 Lib.pow10Tab:=by
 have h':laidMet Tryz.prog Rows.concatRunsRow.laid W:=h
 obtain ⟨ps,hv,_⟩:=h'
 obtain ⟨qs,hv⟩:=laidVars_tail hv
 obtain ⟨qs,hv⟩:=laidVars_tail hv
 exact tab_of_vars (g:=0) (t:=176) (e:=167) (n:=20) (rest:=[]) (by kernel_rfl) (by kernel_rfl) (by kernel_rfl) (by kernel_rfl) (by kernel_rfl) (by kernel_rfl) hv
def types:List TypeId:=[22,68,23,37,3,9,35,70]
theorem closed:c5v Tryz.prog 9 types=true:=by decide +kernel
theorem shRows:shOf Tryz.prog 9 22=some [.sl 68]:=by decide +kernel
theorem shRow:shOf Tryz.prog 9 68=some (h4l 70):=by decide +kernel
theorem shOps:shOf Tryz.prog 9 23=some [.sl 37]:=by decide +kernel
theorem shOp:shOf Tryz.prog 9 37=some (opSh 70):=by decide +kernel
theorem shAttr:shOf Tryz.prog 9 70=some [.str,.str]:=by decide +kernel
theorem params:Tryz.f7.params.toList=[22,23,23]:=by kernel_rfl
theorem bulk_ops:∀ (L:List GOp),(∀ x ∈ L,b5t x.pv≤b3g (L.map GOp.pv))∧9*L.length≤b3g (L.map GOp.pv)
  | []=>by simp [b3g]
  | a :: l => by
    obtain ⟨h1,h2⟩:=bulk_ops l
    have:=h2m a
    simp only [List.map_cons,b3g,List.length_cons]
    refine ⟨fun b hb => ?_,by omega⟩
    rcases List.mem_cons.1 hb with rfl | hb
    · omega
    · have:=h1 b hb;omega
theorem contract (H:Type) (enc:TypeId × Value→H) (W:World) (base:Nat) (args:Array Value) (ds gs:List (DataW H)) (before:List MemPlace)
  (hval:∀ (j:Nat) t v,Tryz.f7.params[j]? = some t→args[j]? = some v→Value.okWide Tryz.prog W .any base t v)
  (hW:DataW.Whole enc Tryz.prog Tryz.f7.params.toList Rows.concatRunsSpec.vars false W args.toList ds gs before) (hk:Rows.uptoSmall H (ds++gs)=true) (hL:laidMetH Tryz.prog Rows.concatRunsRow.laid W) :
  Calls Tryz.prog 7 args W fun e W'=>∃ v,e = .returned v∧Rows.concatRunsSpec.post enc Tryz.prog Tryz.f7 false true false false W args v W':=by
 have hW':=hW
 obtain ⟨p,q,hA,hV,rfl,_,_⟩:=hW'
 obtain ⟨rfl,rfl⟩:=trodVars_none hV
 rw [List.append_nil] at hk
 have hbound:Rows.uptoBulkAll ds≤1048576:=of_decide_eq_true hk
 have hlen:=g1t hA
 rw [params] at hA hlen
 obtain ⟨pss,h1,h2,h3,h4⟩:=g3u (gs:=types) (D0:=9) kids full bulk closed hA (by decide) (fun j t v hj hv=>⟨_,_,hval j t v (by rw [← Array.getElem?_toList,params];exact hj) (by simpa using hv)⟩)
 match pss,h1 with
 | [ps1,ps2,ps3],h1=>
 obtain ⟨⟨shs1,hs1,hok1⟩,⟨shs2,hs2,hok2⟩,⟨shs3,hs3,hok3⟩,_⟩:=h1
 rw [shRows] at hs1
 rw [shOps] at hs2
 rw [shOps] at hs3
 simp only [Option.some.injEq] at hs1 hs2 hs3
 subst hs1 hs2 hs3
 obtain ⟨xs1,r1,rfl,hx1,hr1⟩:=c4j shRow hok1
 obtain rfl:=c5t hr1
 obtain ⟨l1,rfl,hl1⟩:=g3k shAttr hx1
 obtain ⟨xs2,r2,rfl,hx2,hr2⟩:=c4j shOp hok2
 obtain rfl:=c5t hr2
 obtain ⟨l2,rfl,hl2⟩:=g1b shAttr hx2
 obtain ⟨xs3,r3,rfl,hx3,hr3⟩:=c4j shOp hok3
 obtain rfl:=c5t hr3
 obtain ⟨l3,rfl,hl3⟩:=g1b shAttr hx3
 have hb1:b3g (l1.map GRow.pv)<1048577:=by simp only [b3g,b5t,PV.bulk] at h2;omega
 have hb2:b3g (l2.map GOp.pv)≤1048575:=by simp only [b3g,b5t,PV.bulk] at h2;omega
 have hb3:b3g (l3.map GOp.pv)≤1048575:=by simp only [b3g,b5t,PV.bulk] at h2;omega
 obtain ⟨fuel,hrun⟩:=Go.TA.Tryz.d0n l1 l2 l3 (g4h hb1 (Nat.le_refl _)) (fun x hx=>(Go.TA.Tryz.d1a (n:=1048576) (by have:=(bulk_ops l2).1 x hx;omega) (Nat.le_refl _)).1) (by have:=(bulk_ops l2).2;omega) (fun x hx=>(Go.TA.Tryz.d1a (n:=1048576) (by have:=(bulk_ops l3).1 x hx;omega) (Nat.le_refl _)).1) (by have:=(bulk_ops l3).2;omega)
 have ha0:aggT Tryz.prog 22=false:=by decide +kernel
 have ha1:aggT Tryz.prog 23=false:=by decide +kernel
 have hargs:c2b Tryz.prog [22,23,23] [[.list (l1.map GRow.pv)],[.list (l2.map GOp.pv)],[.list (l3.map GOp.pv)]]=[.list (l1.map GRow.pv),.list (l2.map GOp.pv),.list (l3.map GOp.pv)]:=by simp [c2b,h6u,ha0,ha1]
 rw [hargs] at h3 h4
 refine (d6t (g7q (table hL)) Go.TA.Tryz.c1t (Go.TA.Tryz.j4c W) (ps:=[.list (l1.map GRow.pv),.list (l2.map GOp.pv),.list (l3.map GOp.pv)]) hrun (by simpa using h3) h4).mono fun e W' ⟨he,hB⟩=>⟨_,he, ?_⟩
 refine h5n kids full hW rfl (tb:=4) rfl (by kernel_rfl) (by rw [params];decide +kernel) ?_ hB
 match ds,hlen with
 | [d1,d2,d3],_=>rfl
def wargs:Array Value := #[.slice none 0 0,.slice none 0 0,.slice none 0 0]
def put (k:IntKind) (zs:List Int):Obj→Obj
 | .cells _ t frozen => .cells (zs.map fun z=>Value.int k z).toArray t frozen
 | o=>o
def bits32:List Int:=[0,1,28,2,29,14,24,3,30,22,20,15,25,17,4,8,31,27,13,23,21,19,16,7,26,12,18,6,11,5,10,9]
def bits64:List Int:=[0,1,56,2,57,49,28,3,61,58,42,50,38,29,17,4,62,47,59,36,45,43,51,22,53,39,33,30,24,18,12,5,63,55,48,27,60,41,37,16,46,35,44,21,52,32,23,11,54,26,40,15,34,20,31,10,25,14,19,9,13,8,7,6]
noncomputable def laidWorld (os:Os):World :=
 { World.holding Tryz.prog os ⟨#[], #[],[]⟩ with heap:=(((World.holding Tryz.prog os ⟨#[], #[],[]⟩).heap.modify 0 (put .u64 Lib.pow10Tab)).modify 2 (put .u8 bits32)).modify 3 (put .u8 bits64) }
theorem laid_met (os:Os):laidMet Tryz.prog Rows.concatRunsRow.laid ((laidWorld os).forCall (fun _ _=>0) ⟨#[],wargs,[]⟩).memory :=
 laidMet_of_run' 8 (by kernel_rfl) (by kernel_rfl)
theorem reads (os:Os) {H:Type} (enc:TypeId × Value→H):∃ places,DataW.whole enc Tryz.prog ((laidWorld os).forCall (fun _ _=>0) ⟨#[],wargs,[]⟩).memory Tryz.f7.params.toList Rows.concatRunsSpec.vars false wargs.toList 8=some ([.nil,.nil,.nil],[],places) :=
 ⟨[],by kernel_rfl⟩
theorem liftedUpto (os:Os) (started:os.Started) (H:Type) (enc:TypeId × Value→H) (F:Stop.Interp) :
  ReturnsInHanded {} Tryz.checked os 7 .any ((Rows.OpenSpec.upto Rows.concatRunsSpec).preRow enc Tryz.prog Tryz.f7 Rows.concatRunsUptoRow.domain false Rows.concatRunsUptoRow.laid) (((Rows.OpenSpec.upto Rows.concatRunsSpec).at F).post enc Tryz.prog Tryz.f7 false true false false):=by
 obtain ⟨places,hx⟩:=reads os enc
 refine returnsInHanded_of_row (C:=Tryz.checked) (s:=Rows.OpenSpec.upto Rows.concatRunsSpec) own started (by kernel_rfl) Tryz.func7
  (witness_row_at (enc:=enc) (C:=Tryz.checked) false (laidWorld os) wargs rfl (by kernel_rfl) (by kernel_rfl) (by kernel_rfl)
   (OpenSpec.preRow_of_cond 8 hx (by kernel_rfl) (fun k hk=>by cases hk;kernel_rfl) (by kernel_rfl) (laid_met os))) ?_
 intro W base args ds gs before hval hW _ hcond _ hL _ _
 exact contract H enc W base args ds gs before hval hW (hcond _ rfl) hL
theorem saidUpto:Rows.ConcatRunsUptoSaid :=
 OpenClaim.holds_of_cond 7 Tryz.f7 rfl rfl rfl rfl rfl rfl rfl ⟨rfl,rfl,rfl,rfl,rfl⟩ rfl rfl rfl rfl rfl (by kernel_rfl) Tryz.func7 (by kernel_rfl)
  (of_decide_eq_true (by kernel_rfl)) (by unfold Func.isWrapper;first | (rw [if_pos (by decide +kernel)];kernel_rfl) | (rw [if_neg (by decide +kernel)];exact ⟨rfl,rfl⟩))
  (fun os started H enc _ F=>by rw [OpenClaim.pre_eq_preRow];exact liftedUpto os started H enc F)
theorem plain (f:FuncId) (fn:Func) (hf:Tryz.pinned.checked.prog.funcNamed "tendril/tendrillaw31.ConcatRuns" = some f) (hfn:Tryz.pinned.checked.prog.funcs[f]? = some fn) :
  false=Tryz.pinned.checked.prog.looks []∧∀ (j:Nat) t,fn.params[j]? = some t→Tryz.pinned.checked.prog.wantsStandIn t=false:=by
 obtain rfl:f=7:=Option.some.inj ((show Tryz.prog.funcNamed "tendril/tendrillaw31.ConcatRuns" = some 7 by kernel_rfl).symm.trans hf) |>.symm
 obtain rfl:fn=Tryz.f7:=(Option.some.inj (Tryz.func7.symm.trans hfn)).symm
 refine ⟨by kernel_rfl,fun j t ht => ?_⟩
 have hm:t ∈ [22,23,23]:=by
  rw [← params]
  exact Array.mem_toList_iff.2 (Array.mem_of_getElem? ht)
 have hall:[22,23,23].all (fun t=>Tryz.prog.wantsStandIn t==false)=true:=by kernel_rfl
 exact beq_iff_eq.1 (List.all_eq_true.1 hall t hm)
theorem holds:Rows.ConcatRunsUptoCardSaid :=
 Claim7.holds_tied_plain_at .later [] _ _ _ _ saidUpto (fun _ h=>by cases h) (by kernel_rfl) (fun _ h=>by cases h) concatRunsUpto_row_tie rfl ⟨rfl,rfl⟩ (by kernel_rfl) rfl plain (by kernel_rfl)
end Go.Proofs.YtnjblmbobmbgkaaGreatDoor.concatRuns


end
